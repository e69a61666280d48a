/- Regions whose operations may come in any order: the proof. -/
import Derived.Test.YteeigkbjjoedoaaAOpsP
set_option linter.unusedVariables false
set_option linter.unusedSimpArgs false
namespace Go.Abs
section
variable {P : Program}
theorem eff_go {E : Env} (hE : EnvOK P E) {call} (hcall : CallOK P call) {inl : Inl Prop} (hinl : CallOK P inl) {s : St} (hS : Sim s) {fr frm : Fr} {a : Act} {nt : Nat} (hF : FrR s frm a nt) {ops : Array Oper} {Q : Exit → Act → World → Prop} {i : Nat} {o : Oper} (ho : ops[i]? = some o)
    (hag : ∀ t ∈ looks ops o, Fr.get frm t = Fr.get fr t) {K : Fr → Sto → Prop} (h : evEff (PA call) E inl nt ops o fr s.σ K) {next : Act → World → Prop}
    (hn : ∀ fr1 v s' c, dstOk nt o.dst = true → (∀ t, Fr.get fr1 t = Fr.get fr t) → J s s' → Sim s' → s'.vv v c → K (fr1.set o.dst v) s'.σ → next (a.put o.dst c) s'.w) : wpOp P ops Q i next a s.w := by
  unfold evEff at h
  simp only [evOps] at h
  obtain ⟨hd, h1⟩ := not_match h
  clear h
  have go : ∀ fr1 : Fr, (∀ t, Fr.get fr1 t = Fr.get fr t) → (opK (PA call) E inl o fr1 s.σ fun v σ' => K (fr1.set o.dst v) σ') → o.wp P a s.w next Q := by
    intro fr1 he h
    rw [opK_agree (fr' := frm) (fun x hx t ht => by rw [he t, hag t (looks_op hx ht)])] at h
    exact oper_sound hE hcall hinl hS hF h fun v s' c j1 j2 j3 j4 => hn fr1 v s' c hd he j1 j2 j3 j4
  have skip : ∀ fr1 : Fr, (∀ t, Fr.get fr1 t = Fr.get fr t) → K (fr1.set o.dst .skip) s.σ → next (a.put o.dst undef) s.w := fun fr1 he h => hn fr1 .skip s undef hd he (.refl s) hS rfl h
  refine guard_go hF ho ?_
  split at h1
  · rename_i hg; exact .inl ⟨hg, go fr (fun _ => rfl) h1⟩
  · rename_i g want hg
    split at h1
    · exact h1.elim
    · rename_i t ht
      have hgt := hag t (looks_guard hg ht)
      split at h1
      · rename_i hs
        exact .inr ⟨g, want, t, hg, ht, .inl ⟨by rw [hgt]; exact hs, skip fr (fun _ => rfl) h1⟩⟩
      · rename_i b hb
        have hext : ∀ (c : Bool), b = c → ∀ u, Fr.get ((t, .d .bool c) :: fr) u = Fr.get fr u := by
          intro c hc u
          simp only [Fr.get_cons, Fr.get_nil]
          cases hu : Nat.beq t u with
          | true => rw [← beq_eq.1 hu, hb, hc]; rfl
          | false => rfl
        refine .inr ⟨g, want, t, hg, ht, .inr ⟨b, by rw [hgt]; exact hb, fun e => ?_, fun e => ?_⟩⟩
        · cases want with
          | true =>
            dsimp only [cond_true] at h1
            rcases br_prop h1 with ⟨hb1, h2⟩ | ⟨hb1, h2⟩
            · exact go _ (hext true hb1) h2
            · rw [e] at hb1; cases hb1
          | false =>
            dsimp only [cond_false] at h1
            rcases br_prop h1 with ⟨hb1, h2⟩ | ⟨hb1, h2⟩
            · rw [e] at hb1; cases hb1
            · exact go _ (hext false hb1) h2
        · cases want with
          | true =>
            dsimp only [cond_true] at h1
            rcases br_prop h1 with ⟨hb1, h2⟩ | ⟨hb1, h2⟩
            · exact (e hb1).elim
            · exact skip _ (hext false hb1) h2
          | false =>
            dsimp only [cond_false] at h1
            rcases br_prop h1 with ⟨hb1, h2⟩ | ⟨hb1, h2⟩
            · exact skip _ (hext true hb1) h2
            · exact (e hb1).elim
      · exact h1.elim
theorem filt_le {p p' : Nat → Bool} (h : ∀ x, p' x = true → p x = true) : ∀ (l : List Nat), (l.filter p').length ≤ (l.filter p).length
  | [] => Nat.le_refl _
  | x :: l => by
    have ih := filt_le h l
    simp only [List.filter_cons]
    cases h1 : p' x with
    | true => rw [h x h1]; simpa using ih
    | false =>
      cases h2 : p x with
      | true => simp; omega
      | false => simpa using ih
theorem filt_lt {p p' : Nat → Bool} (h : ∀ x, p' x = true → p x = true) : ∀ (l : List Nat) {i : Nat}, i ∈ l → p i = true → p' i = false → (l.filter p').length < (l.filter p).length
  | [], i, hi, _, _ => by cases hi
  | x :: l, i, hi, h1, h2 => by
    simp only [List.filter_cons]
    rcases List.mem_cons.1 hi with rfl | hi
    · rw [h1, h2]
      have := filt_le h l
      simp; omega
    · have ih := filt_lt h l hi h1 h2
      cases h3 : p' x with
      | true => rw [h x h3]; simpa using ih
      | false =>
        cases h4 : p x with
        | true => simp; omega
        | false => simpa using ih
def unl (ops : Array Oper) (listed : Array Bool) : List Nat := (List.range ops.size).filter fun j => !listed.getD j true
theorem getD_listed {listed : Array Bool} {j : Nat} (h : j < listed.size) (d d' : Bool) : listed.getD j d = listed.getD j d' := by
  simp [h]
theorem pairs_get {f : Nat → Nat → Bool} : ∀ {l : List Nat}, pairsB f l = true → ∀ {pre post : List Nat} {x : Nat}, l = pre ++ x :: post → ∀ y ∈ post, f x y = true
  | [], _, pre, post, x, h, y, _ => by cases pre <;> cases h
  | z :: l, hp, [], post, x, h, y, hy => by
    cases h
    simp only [pairsB, Bool.and_eq_true] at hp
    exact List.all_eq_true.1 hp.1 y hy
  | z :: l, hp, w :: pre, post, x, h, y, hy => by
    cases h
    simp only [pairsB, Bool.and_eq_true] at hp
    exact pairs_get hp.2 rfl y hy
theorem mem_range0 {s n k : Nat} : k ∈ range0 s n ↔ s ≤ k ∧ k < s + n := by
  induction n generalizing s with
  | zero =>
    simp only [range0, List.not_mem_nil, false_iff]
    omega
  | succ n ih => simp only [range0, List.mem_cons, ih]; omega
structure Way (E : Env) (call : FuncId → List AV → Sto → (AV → Sto → Prop) → Prop) (inl : Inl Prop) (nt m : Nat) (ops : Array Oper) (K : Fr → Sto → Prop) (s0 : St) (listed : Array Bool) (a : Act) (s : St) (fr : Fr) (n : Nat) (rest done seen : List Nat) : Prop where
  size : listed.size = ops.size
  closed : Closed ops listed
  effs : ∀ e, e ∈ effsOf E.dl m ops ↔ e ∈ done ∨ e ∈ rest
  isDone : ∀ e ∈ done, listed.getD e false = true
  isRest : ∀ e ∈ rest, listed.getD e false = false
  hseen : ∀ i, isQuiet E.dl ops i = true → listed.getD i false = true → i ∈ seen
  qseen : ∀ i ∈ quiets E.dl m ops (predTab ops.toList []) done rest, i ∈ seen
  facts : ∀ i ∈ quiets E.dl m ops (predTab ops.toList []) done rest, Fact E nt ops fr s.σ i
  nodup : rest.Nodup
  len : rest.length = n
  tail : match (generalizing := false) rest with
    | [] => K fr s.σ
    | _ :: _ => ∀ e ∈ nexts (predTab ops.toList []) rest, ∃ o, ops[e]? = some o ∧ evEff (PA call) E inl nt ops o fr s.σ fun fr σ' => evPh (PA call) E inl nt m ops (predTab ops.toList []) (n - 1) (without e rest) (done ++ [e]) seen fr σ' K
  frame : FrL s fr a nt m ops listed
  tailU : ∀ j, m ≤ j → listed.getD j false = false
  mle : m ≤ ops.size
  sim : Sim s
  j : J s0 s
theorem allOf_prop {call} {F : Nat → Prop} : ∀ {l : List Nat}, allOf (PA call) F l → ∀ e ∈ l, F e
  | [], h, e, he => by cases he
  | [x], h, e, he => by
    have : e = x := by simpa using he
    rw [this]; exact h
  | x :: y :: r, h, e, he => by
    rcases List.mem_cons.1 he with rfl | he
    · exact h.1
    · exact allOf_prop (l := y :: r) h.2 e he
theorem mem_without {e k : Nat} : ∀ {l : List Nat}, l.Nodup → (k ∈ without e l ↔ k ∈ l ∧ k ≠ e)
  | [], _ => by simp [without]
  | x :: r, h => by
    obtain ⟨h1, h2⟩ := List.nodup_cons.1 h
    have ih := mem_without (e := e) (k := k) h2
    simp only [without]
    cases hb : Nat.beq x e with
    | true =>
      have hxe := beq_eq.1 hb
      subst hxe
      simp only [cond_true, List.mem_cons]
      constructor
      · intro hk; exact ⟨.inr hk, fun e => h1 (e ▸ hk)⟩
      · rintro ⟨hk | hk, hne⟩
        · exact (hne hk).elim
        · exact hk
    | false =>
      have hxe : x ≠ e := fun he => by rw [beq_eq.2 he] at hb; cases hb
      simp only [cond_false, List.mem_cons, ih]
      constructor
      · rintro (hk | ⟨hk, hne⟩)
        · subst hk; exact ⟨.inl rfl, hxe⟩
        · exact ⟨.inr hk, hne⟩
      · rintro ⟨hk | hk, hne⟩
        · exact .inl hk
        · exact .inr ⟨hk, hne⟩
theorem nodup_without {e : Nat} : ∀ {l : List Nat}, l.Nodup → (without e l).Nodup
  | [], h => h
  | x :: r, h => by
    obtain ⟨h1, h2⟩ := List.nodup_cons.1 h
    simp only [without]
    cases hb : Nat.beq x e with
    | true => exact h2
    | false =>
      refine List.nodup_cons.2 ⟨fun hx => h1 ((mem_without h2).1 hx).1, nodup_without h2⟩
theorem length_without {e : Nat} : ∀ {l : List Nat}, e ∈ l → (without e l).length + 1 = l.length
  | [], h => by cases h
  | x :: r, h => by
    simp only [without]
    cases hb : Nat.beq x e with
    | true => rfl
    | false =>
      have hxe : x ≠ e := fun he => by rw [beq_eq.2 he] at hb; cases hb
      have : e ∈ r := by
        rcases List.mem_cons.1 h with h | h
        · exact (hxe h.symm).elim
        · exact h
      simp only [cond_false, List.length_cons, length_without this]
theorem nodup_range0 : ∀ (n s : Nat), (range0 s n).Nodup
  | 0, s => List.nodup_nil
  | n + 1, s => by
    refine List.nodup_cons.2 ⟨fun h => ?_, nodup_range0 n (s + 1)⟩
    have := mem_range0.1 h
    omega
theorem Way.enter {E : Env} {call} {inl : Inl Prop} {nt m : Nat} {ops : Array Oper} {K : Fr → Sto → Prop} {s0 : St} {listed : Array Bool} {a : Act} {s : St} {fr : Fr} {n : Nat} {rest done seen : List Nat} (hsz : listed.size = ops.size) (hcl : Closed ops listed) (heff : ∀ e, e ∈ effsOf E.dl m ops ↔ e ∈ done ∨ e ∈ rest)
    (hd : ∀ e ∈ done, listed.getD e false = true) (hr : ∀ e ∈ rest, listed.getD e false = false) (hseen : ∀ i, isQuiet E.dl ops i = true → listed.getD i false = true → i ∈ seen) (hF : FrL s fr a nt m ops listed) (hU : ∀ j, m ≤ j → listed.getD j false = false) (hm : m ≤ ops.size) (hS : Sim s) (hJ : J s0 s) (hnd : rest.Nodup) (hlen : rest.length = n)
    (h : evPh (PA call) E inl nt m ops (predTab ops.toList []) n rest done seen fr s.σ K) : ∃ fr' seen', Way E call inl nt m ops K s0 listed a s fr' n rest done seen' := by
  have hfr : ∀ {fr' : Fr} {qs : List Nat}, (∀ i ∈ qs, i < m ∧ isQuiet E.dl ops i = true) → (∀ t, (∀ i ∈ qs, i ∉ seen → dstOf ops i ≠ some t) → Fr.get fr' t = Fr.get fr t) → FrL s fr' a nt m ops listed := by
    intro fr' qs hqs hg
    refine ⟨fun t ht => ?_, hF.defers, hF.size⟩
    rw [hg t]
    · exact hF.get t ht
    · intro i hi hns hdi
      have hlt : i < m := (hqs i hi).1
      refine ht (List.mem_filterMap.2 ⟨i, mem_range0.2 ⟨Nat.zero_le _, by omega⟩, ?_⟩)
      rw [if_neg, hdi]
      intro hl
      exact hns (hseen i (hqs i hi).2 (by rw [getD_listed (by omega) false true]; exact hl))
  have hq : ∀ {rest : List Nat}, ∀ i ∈ quiets E.dl m ops (predTab ops.toList []) done rest, i < m ∧ isQuiet E.dl ops i = true := by
    intro rest i hi
    unfold quiets at hi
    rw [List.mem_filter] at hi
    simp only [Bool.and_eq_true] at hi
    exact ⟨by have := mem_range0.1 hi.1; omega, hi.2.1.1⟩
  cases rest with
  | nil =>
    have h' : evQs (PA call) E inl nt ops seen (quiets E.dl m ops (predTab ops.toList []) done []) fr s.σ fun fr => K fr s.σ := by
      cases n <;> exact h
    obtain ⟨fr', k1, k2, k3⟩ := evQs_prop h'
    exact ⟨fr', quiets E.dl m ops (predTab ops.toList []) done [] ++ seen, ⟨hsz, hcl, heff, hd, hr, fun i h1 h2 => List.mem_append_right _ (hseen i h1 h2), fun i hi => List.mem_append_left _ hi, k3, hnd, hlen, k1, hfr hq k2, hU, hm, hS, hJ⟩⟩
  | cons e rest =>
    cases n with
    | zero => cases hlen
    | succ n =>
    simp only [evPh] at h
    obtain ⟨fr', k1, k2, k3⟩ := evQs_prop h
    have k1 := allOf_prop k1
    refine ⟨fr', quiets E.dl m ops (predTab ops.toList []) done (e :: rest) ++ seen, ⟨hsz, hcl, heff, hd, hr, fun i h1 h2 => List.mem_append_right _ (hseen i h1 h2), fun i hi => List.mem_append_left _ hi, k3, hnd, hlen, fun e' he' => ?_, hfr hq k2, hU, hm, hS, hJ⟩⟩
    have k1 := k1 e' he'
    split at k1
    · exact k1.elim
    · rename_i o ho
      exact ⟨o, ho, k1⟩
theorem getD_set_mono {listed : Array Bool} {i j : Nat} (h : listed.getD j false = true) : (listed.setIfInBounds i true).getD j false = true := getD_set_true h
theorem getD_set_inv {listed : Array Bool} {i j : Nat} (h : (listed.setIfInBounds i true).getD j false = true) : j = i ∨ listed.getD j false = true := by
  by_cases hij : i = j
  · exact .inl hij.symm
  · rw [getD_set_ne false hij] at h; exact .inr h
theorem direct_mono {ops : Array Oper} {listed : Array Bool} {i j : Nat} (h : Direct ops listed j) : Direct ops (listed.setIfInBounds i true) j := by
  obtain ⟨o, ho, hall⟩ := h
  exact ⟨o, ho, fun e he hb => getD_set_mono (hall e he hb)⟩
theorem closed_set {ops : Array Oper} {listed : Array Bool} {i : Nat} (hc : Closed ops listed) (hi : Direct ops listed i) : Closed ops (listed.setIfInBounds i true) := by
  intro j hj
  rcases getD_set_inv hj with rfl | hj
  · exact direct_mono hi
  · exact direct_mono (hc j hj)
theorem dst_lt {ops : Array Oper} {j t : Nat} (h : dstOf ops j = some t) : j < ops.size := by
  unfold dstOf at h
  cases ho : ops[j]? with
  | none => rw [ho] at h; cases h
  | some o => exact (Array.getElem?_eq_some_iff.1 ho).1
theorem mem_unlisted {m : Nat} {ops : Array Oper} {listed : Array Bool} {t : Nat} : t ∈ unlistedDsts m ops listed ↔ ∃ j, (j < m ∧ listed.getD j true ≠ true) ∧ dstOf ops j = some t := by
  unfold unlistedDsts
  rw [List.mem_filterMap]
  constructor
  · rintro ⟨j, hr, h⟩
    split at h
    · cases h
    · rename_i hl; exact ⟨j, ⟨by have := mem_range0.1 hr; omega, hl⟩, h⟩
  · rintro ⟨j, ⟨h0, h1⟩, h2⟩
    exact ⟨j, mem_range0.2 ⟨Nat.zero_le _, by omega⟩, by rw [if_neg h1]; exact h2⟩
theorem FrL.put {s s' : St} {fr : Fr} {a : Act} {nt m : Nat} {ops : Array Oper} {listed : Array Bool} (hF : FrL s fr a nt m ops listed) (hS : Sim s) (hJ : J s s') {i : Nat} {o : Oper} (ho : ops[i]? = some o) (hd : dstOk nt o.dst = true) {fr' : Fr} {c : Value}
    (h1 : ∀ t, o.dst ≠ some t → Fr.get fr' t = Fr.get fr t) (h2 : ∀ t, o.dst = some t → s'.vv (Fr.get fr' t) c) : FrL s' fr' (a.put o.dst c) nt m ops (listed.setIfInBounds i true) := by
  have hdi : dstOf ops i = o.dst := by simp [dstOf, ho]
  refine ⟨fun t ht => ?_, ?_, ?_⟩
  · by_cases hdt : o.dst = some t
    · have hlt : t < a.tmps.size := by
        rw [hF.size]
        rw [hdt] at hd
        simpa [dstOk, Nat.blt_eq] using hd
      have e : (a.put o.dst c).tmps.getD t undef = c := by
        rw [hdt]
        simp [Act.put, Array.getD_eq_getD_getElem?, hlt]
      rw [e]
      exact h2 t hdt
    · have e : (a.put o.dst c).tmps.getD t undef = a.tmps.getD t undef := by
        cases hx : o.dst with
        | none => rfl
        | some u =>
          have hne : u ≠ t := fun h => hdt (by rw [hx, h])
          simp only [Act.put, Array.getD_eq_getD_getElem?]
          rw [Array.getElem?_setIfInBounds_ne hne]
      rw [e, h1 t hdt]
      refine hJ.vv hS (hF.get t fun hm => ht ?_)
      obtain ⟨j, k1, k2⟩ := mem_unlisted.1 hm
      refine mem_unlisted.2 ⟨j, ?_, k2⟩
      have hne : i ≠ j := fun e => hdt (by rw [← hdi, e]; exact k2)
      rw [getD_set_ne true hne]
      exact ⟨k1.1, k1.2⟩
  · cases o.dst with
    | none => exact hF.defers
    | some u => exact hF.defers
  · cases o.dst with
    | none => exact hF.size
    | some u => simp [Act.put, hF.size]
theorem all_listed {ops : Array Oper} {listed : Array Bool} (hsz : listed.size = ops.size) (hback : ∀ i o, ops[i]? = some o → backB i o = true) (hr : Region.ready .any ops listed = []) : ∀ j, j < ops.size → listed.getD j false = true := by
  intro j
  induction j using Nat.strongRecOn with
  | _ j ih =>
    intro hj
    cases hl : listed.getD j false with
    | true => rfl
    | false =>
      have ho : ops[j]? = some ops[j] := by simp [hj]
      have hm : j ∈ Region.ready .any ops listed := by
        refine mem_ready.2 ⟨by rw [getD_listed (by omega) true false]; exact hl, ops[j], ho, fun e he hb => ?_⟩
        have := List.all_eq_true.1 (hback j _ ho) e (by simpa using he)
        rw [hb] at this
        simp only [Bool.not_true, Bool.false_or, Nat.blt_eq] at this
        exact ih e.on this (by omega)
      rw [hr] at hm
      cases hm
theorem tail_all {E : Env} (hE : EnvOK P E) {call} (hcall : CallOK P call) {inl : Inl Prop} (hinl : CallOK P inl) {nt m : Nat} {ops : Array Oper} {K : Fr → Sto → Prop} {s0 : St} {Q : Exit → Act → World → Prop} (hback : ∀ i o, ops[i]? = some o → backB i o = true) (hpre : ∀ j, m ≤ j → j < ops.size → ∀ i, i < j → i ∈ predAt (predTab ops.toList []) j)
    (hQ : ∀ s' fr' a', J s0 s' → Sim s' → FrR s' fr' a' nt → K fr' s'.σ → Q .normal a' s'.w) : ∀ (fuel k : Nat) {listed : Array Bool} {a : Act} {s : St} {fr : Fr}, m ≤ k → k ≤ ops.size → ops.size ≤ k + fuel → listed.size = ops.size → Closed ops listed → (∀ j, j < k → listed.getD j false = true) → (∀ j, k ≤ j → listed.getD j false = false) →
    J s0 s → Sim s → FrR s fr a nt → evOps (PA call) E inl nt ops (ops.toList.drop k) fr s.σ K → wpAny P .any ops Q fuel listed a s.w := by
  intro fuel
  induction fuel with
  | zero =>
    intro k listed a s fr hmk hk hf hsz hcl hlt hge hJ hS hF h
    have hr : Region.ready .any ops listed = [] := by
      cases hr : Region.ready .any ops listed with
      | nil => rfl
      | cons i is =>
        have hi : i ∈ Region.ready .any ops listed := by rw [hr]; simp
        obtain ⟨h1, o, ho, _⟩ := mem_ready.1 hi
        have hil := (Array.getElem?_eq_some_iff.1 ho).1
        have := hlt i (by omega)
        rw [getD_listed (by omega) false true, h1] at this
        cases this
    rw [List.drop_eq_nil_of_le (by simp; omega)] at h
    exact ⟨hr, hQ s fr a hJ hS hF h⟩
  | succ fuel ih =>
    intro k listed a s fr hmk hk hf hsz hcl hlt hge hJ hS hF h
    refine ⟨fun hr => ?_, fun i hi => ?_⟩
    · have hall := all_listed hsz hback hr
      have hke : k = ops.size := by
        rcases Nat.lt_or_ge k ops.size with hl | hl
        · have := hall k hl; rw [hge k (Nat.le_refl _)] at this; cases this
        · omega
      rw [List.drop_eq_nil_of_le (by simp; omega)] at h
      exact hQ s fr a hJ hS hF h
    · obtain ⟨hun, o, ho, hpr⟩ := mem_ready.1 hi
      have hilt := (Array.getElem?_eq_some_iff.1 ho).1
      have hDir : Direct ops listed i := ⟨o, ho, hpr⟩
      have hik : k ≤ i := by
        rcases Nat.lt_or_ge i k with hl | hl
        · have := hlt i hl
          rw [getD_listed (by omega) false true, hun] at this
          cases this
        · exact hl
      have hike : i = k := by
        rcases Nat.lt_or_ge k i with hl | hl
        · have := tab_before (hpre i (by omega) hilt k hl) listed hcl hDir
          rw [hge k (Nat.le_refl _)] at this
          cases this
        · omega
      subst hike
      have hd : ops.toList.drop i = o :: ops.toList.drop (i + 1) := by
        rw [List.drop_eq_getElem_cons (by simpa using hilt)]
        have : ops.toList[i]'(by simpa using hilt) = o := by
          have h2 : ops[i]? = some ops[i] := by simp [hilt]
          rw [ho] at h2
          simpa using (Option.some.inj h2).symm
        rw [this]
      rw [hd] at h
      have h' : evEff (PA call) E inl nt ops o fr s.σ fun fr σ' => evOps (PA call) E inl nt ops (ops.toList.drop (i + 1)) fr σ' K := by
        unfold evEff
        simp only [evOps] at h ⊢
        exact h
      refine eff_go hE hcall hinl hS hF ho (fun t ht => rfl) h' fun fr1 v s' c hdk he j1 j2 j3 j4 => ?_
      have hF1 : FrR s fr1 a nt := ⟨fun t => by rw [he t]; exact hF.get t, hF.defers, hF.size⟩
      refine ih (i + 1) (by omega) (by omega) (by omega) (by simp [hsz]) (closed_set hcl hDir) (fun j hj => ?_) (fun j hj => ?_) (hJ.trans j1) j2 ((hF1.mono hS j1).set hdk j3) j4
      · by_cases hji : i = j
        · subst hji; simp [hsz, hilt]
        · rw [getD_set_ne false hji]; exact hlt j (by omega)
      · rw [getD_set_ne false (by omega)]; exact hge j (by omega)
theorem draw_all {E : Env} (hE : EnvOK P E) {call} (hcall : CallOK P call) {inl : Inl Prop} (hinl : CallOK P inl) {nt m : Nat} {ops : Array Oper} {K : Fr → Sto → Prop} {s0 : St} {Q : Exit → Act → World → Prop} (hok : orderOk m ops = true)
    (hQ : ∀ s' fr' a', J s0 s' → Sim s' → FrR s' fr' a' nt → K fr' s'.σ → Q .normal a' s'.w) : ∀ (fuel : Nat) {listed : Array Bool} {a : Act} {s : St} {fr : Fr} {n : Nat} {rest done seen : List Nat}, Way E call inl nt m ops (fun fr σ => evOps (PA call) E inl nt ops (ops.toList.drop m) fr σ K) s0 listed a s fr n rest done seen →
    (unl ops listed).length ≤ fuel → wpAny P .any ops Q fuel listed a s.w := by
  unfold orderOk tailOk at hok
  simp only [Bool.and_eq_true] at hok
  obtain ⟨⟨hfed, hdst⟩, hmle, htail⟩ := hok
  have hmle := Nat.le_of_ble_eq_true hmle
  have htl : ∀ j, m ≤ j → j < ops.size → (∀ o, ops[j]? = some o → backB j o = true) ∧ ∀ i, i < j → i ∈ predAt (predTab ops.toList []) j := by
    intro j hj hjs
    have := List.all_eq_true.1 htail j (mem_range0.2 ⟨hj, by omega⟩)
    rw [Bool.and_eq_true] at this
    refine ⟨fun o ho => ?_, fun i hi => mem_iff.1 (List.all_eq_true.1 this.2 i (mem_range0.2 ⟨Nat.zero_le _, by omega⟩))⟩
    have h1 := this.1
    rw [ho] at h1
    exact h1
  have hfedi : ∀ i o, i < m → ops[i]? = some o → backB i o = true ∧ ∀ j, j < m → dstIn ops j (looks ops o) = true → j ∈ predAt (predTab ops.toList []) i := by
    intro i o hi ho
    have := List.all_eq_true.1 hfed i (mem_range0.2 ⟨Nat.zero_le _, by omega⟩)
    simp only [fedB, ho, Bool.and_eq_true] at this
    refine ⟨this.1, fun j hjm hj => ?_⟩
    have := List.all_eq_true.1 this.2 j (mem_range0.2 ⟨Nat.zero_le _, by omega⟩)
    rw [hj] at this
    simpa [mem_iff] using this
  have hback : ∀ i o, ops[i]? = some o → backB i o = true := fun i o ho => by
    rcases Nat.lt_or_ge i m with hi | hi
    · exact (hfedi i o hi ho).1
    · exact (htl i hi (Array.getElem?_eq_some_iff.1 ho).1).1 o ho
  have ended : ∀ {listed : Array Bool} {a : Act} {s : St} {fr : Fr} {n : Nat} {rest done seen : List Nat}, Way E call inl nt m ops (fun fr σ => evOps (PA call) E inl nt ops (ops.toList.drop m) fr σ K) s0 listed a s fr n rest done seen → (∀ j, j < m → listed.getD j false = true) → ∀ fuel, (unl ops listed).length ≤ fuel → wpAny P .any ops Q fuel listed a s.w := by
    intro listed a s fr n rest done seen hW hall fuel hu
    have hrest : rest = [] := by
      cases hre : rest with
      | nil => rfl
      | cons e rest' =>
        have he : e ∈ effsOf E.dl m ops := (hW.effs e).2 (.inr (by rw [hre]; simp))
        have hlt : e < m := by
          unfold effsOf at he
          have := mem_range0.1 (List.mem_filter.1 he).1
          omega
        have h1 := hW.isRest e (by rw [hre]; simp)
        rw [hall e hlt] at h1
        cases h1
    have ht := hW.tail
    rw [hrest] at ht
    have hul : ops.size ≤ m + fuel := by
      have h1 : (List.range' m (ops.size - m)).length ≤ (unl ops listed).length := by
        refine List.Nodup.length_le_of_subset List.nodup_range' fun j hj => ?_
        rw [List.mem_range'_1] at hj
        refine List.mem_filter.2 ⟨List.mem_range.2 (by omega), ?_⟩
        have := hW.tailU j hj.1
        rw [getD_listed (by rw [hW.size]; omega) false true] at this
        rw [this]; rfl
      rw [List.length_range'] at h1
      omega
    refine tail_all hE hcall hinl hback (fun j hj hjs => (htl j hj hjs).2) hQ fuel m (Nat.le_refl _) hmle hul hW.size hW.closed hall hW.tailU hW.j hW.sim ⟨fun t => hW.frame.get t ?_, hW.frame.defers, hW.frame.size⟩ ht
    intro hm
    obtain ⟨j, k1, k2⟩ := mem_unlisted.1 hm
    have hlt := dst_lt k2
    exact k1.2 (by rw [getD_listed (by rw [hW.size]; exact hlt) true false]; exact hall j k1.1)
  intro fuel
  induction fuel with
  | zero =>
    intro listed a s fr n rest done seen hW hu
    refine ended hW (fun j hj => ?_) 0 hu
    cases hl : listed.getD j false with
    | true => rfl
    | false =>
      have : j ∈ unl ops listed := List.mem_filter.2 ⟨List.mem_range.2 (by omega), by
        rw [getD_listed (by rw [hW.size]; omega) false true] at hl
        rw [hl]; rfl⟩
      have hn := List.eq_nil_of_length_eq_zero (Nat.le_zero.1 hu)
      rw [hn] at this
      cases this
  | succ fuel ih =>
    intro listed a s fr n rest done seen hW hu
    by_cases hall : ∀ j, j < m → listed.getD j false = true
    · exact ended hW hall _ hu
    refine ⟨fun hr => absurd (fun j hj => all_listed hW.size hback hr j (by omega)) hall, fun i hi => ?_⟩
    obtain ⟨hun, o, ho, hpre⟩ := mem_ready.1 hi
    have hilt := (Array.getElem?_eq_some_iff.1 ho).1
    have hDir : Direct ops listed i := ⟨o, ho, hpre⟩
    have hbefore : ∀ k ∈ predAt (predTab ops.toList []) i, listed.getD k false = true := fun k hk => tab_before hk listed hW.closed hDir
    have him : i < m := by
      rcases Nat.lt_or_ge i m with h | h
      · exact h
      · exact absurd (fun j hj => hbefore j ((htl i h hilt).2 j (by omega))) hall
    have hunf : listed.getD i false = false := by rw [getD_listed (by rw [hW.size]; exact hilt) false true]; exact hun
    have hu' : (unl ops (listed.setIfInBounds i true)).length ≤ fuel := by
      have := filt_lt (p := fun j => !listed.getD j true) (p' := fun j => !(listed.setIfInBounds i true).getD j true) (fun x hx => by
        by_cases hxi : i = x
        · subst hxi; rw [hun]; rfl
        · rw [getD_set_ne true hxi] at hx; exact hx) (List.range ops.size) (List.mem_range.2 hilt) (by rw [hun]; rfl) (by
          have : (listed.setIfInBounds i true).getD i true = true := by simp
          rw [this]; rfl)
      unfold unl at hu ⊢
      omega
    have hag : ∀ t ∈ looks ops o, Fr.get (mask (unlistedDsts m ops listed) fr) t = Fr.get fr t := by
      intro t ht
      refine mask_out fun hm => ?_
      obtain ⟨j, k1, k2⟩ := mem_unlisted.1 hm
      have hj := (hfedi i o him ho).2 j k1.1 (by unfold dstIn; rw [k2]; exact mem_iff.2 ht)
      have := hbefore j hj
      rw [getD_listed (by rw [hW.size]; exact dst_lt k2) false true] at this
      exact k1.2 this
    have hcl' := closed_set hW.closed hDir
    have hsz' : (listed.setIfInBounds i true).size = ops.size := by simp [hW.size]
    cases hq : quietOp E.dl o.op with
    | true =>
      have hiq : isQuiet E.dl ops i = true := by simp [isQuiet, ho, hq]
      have hmem : i ∈ quiets E.dl m ops (predTab ops.toList []) done rest := by
        unfold quiets
        refine List.mem_filter.2 ⟨mem_range0.2 ⟨Nat.zero_le _, by omega⟩, ?_⟩
        simp only [Bool.and_eq_true]
        refine ⟨⟨hiq, List.all_eq_true.2 fun e he => ?_⟩, List.all_eq_true.2 fun e he => ?_⟩
        · cases hm : mem e (predAt (predTab ops.toList []) i) with
          | false => rfl
          | true =>
            have h1 := hbefore e (mem_iff.1 hm)
            rw [hW.isRest e he] at h1
            cases h1
        · cases hm : mem i (predAt (predTab ops.toList []) e) with
          | false => rfl
          | true =>
            have h1 := tab_before (mem_iff.1 hm) listed hW.closed (hW.closed e (hW.isDone e he))
            rw [hunf] at h1
            cases h1
      obtain ⟨o', v, f1, f2, f3, f4, f5⟩ := hW.facts i hmem
      rw [ho] at f1; cases f1
      have hv : qv E ops o (mask (unlistedDsts m ops listed) fr) s.σ = some v := by rw [qv_agree hag]; exact f4
      refine quiet_go hE hcall hinl hW.sim hW.frame.masked ho hq hv fun s' c j1 j2 j3 j4 => ?_
      refine ih (n := n) (rest := rest) (done := done) (seen := seen) (fr := fr) ⟨hsz', hcl', hW.effs, fun e he => getD_set_mono (hW.isDone e he), fun e he => ?_, fun k hk1 hk2 => ?_, hW.qseen, fun k hk => by rw [j3]; exact hW.facts k hk, hW.nodup, hW.len, by rw [j3]; exact hW.tail, ?_, ?_, hW.mle, j2, hW.j.trans j1⟩ hu'
      · have hne : i ≠ e := by
          rintro rfl
          have he' : i ∈ effsOf E.dl m ops := (hW.effs i).2 (.inr he)
          have := (List.mem_filter.1 he').2
          rw [hiq] at this
          cases this
        rw [getD_set_ne false hne]
        exact hW.isRest e he
      · rcases getD_set_inv hk2 with rfl | hk2
        · exact hW.qseen _ hmem
        · exact hW.hseen k hk1 hk2
      · exact hW.frame.put hW.sim j1 ho f2 (fun _ _ => rfl) (fun t ht => by rw [f5 t ht]; exact j4)
      · intro j hj
        rw [getD_set_ne false (by omega)]
        exact hW.tailU j hj
    | false =>
      have hie : i ∈ effsOf E.dl m ops := List.mem_filter.2 ⟨mem_range0.2 ⟨Nat.zero_le _, by omega⟩, by simp [isQuiet, ho, hq]⟩
      have hir : i ∈ rest := by
        rcases (hW.effs i).1 hie with h | h
        · have := hW.isDone i h
          rw [hunf] at this
          cases this
        · exact h
      have hnx : i ∈ nexts (predTab ops.toList []) rest := by
        unfold nexts
        refine List.mem_filter.2 ⟨hir, List.all_eq_true.2 fun e' he' => ?_⟩
        cases hm : mem e' (predAt (predTab ops.toList []) i) with
        | false => rfl
        | true =>
          have h1 := hbefore e' (mem_iff.1 hm)
          rw [hW.isRest e' he'] at h1
          cases h1
      have ht := hW.tail
      have htl : evEff (PA call) E inl nt ops o fr s.σ fun fr σ' => evPh (PA call) E inl nt m ops (predTab ops.toList []) (n - 1) (without i rest) (done ++ [i]) seen fr σ' (fun fr σ => evOps (PA call) E inl nt ops (ops.toList.drop m) fr σ K) := by
        cases rest with
        | nil => cases hir
        | cons x rest' =>
          obtain ⟨o', ho', htl⟩ := ht i hnx
          rw [ho] at ho'; cases ho'
          exact htl
      have hwl := length_without hir
      refine eff_go hE hcall hinl hW.sim hW.frame.masked ho hag htl fun fr1 v s' c hd he j1 j2 j3 j4 => ?_
      obtain ⟨fr2, seen2, hW2⟩ := Way.enter (s0 := s0) (a := a.put o.dst c) hsz' hcl' (rest := without i rest) (done := done ++ [i]) (seen := seen) (fun e => by
          rw [hW.effs e, List.mem_append, mem_without hW.nodup, List.mem_singleton]
          constructor
          · rintro (h | h)
            · exact .inl (.inl h)
            · by_cases hei : e = i
              · exact .inl (.inr hei)
              · exact .inr ⟨h, hei⟩
          · rintro ((h | h) | h)
            · exact .inl h
            · subst h; exact .inr hir
            · exact .inr h.1) (fun k hk => by
          rcases List.mem_append.1 hk with hk | hk
          · exact getD_set_mono (hW.isDone k hk)
          · have : k = i := by simpa using hk
            subst this
            have h1 : (listed.setIfInBounds k true).getD k false = true := by simp [hW.size, hilt]
            exact h1) (fun k hk => by
          obtain ⟨hkr, hne⟩ := (mem_without hW.nodup).1 hk
          rw [getD_set_ne false (fun e => hne e.symm)]
          exact hW.isRest k hkr) (fun k hk1 hk2 => by
          rcases getD_set_inv hk2 with rfl | hk2
          · have := (List.mem_filter.1 hie).2
            rw [hk1] at this
            cases this
          · exact hW.hseen k hk1 hk2)
          (hW.frame.put hW.sim j1 ho hd (fun t ht => by rw [set_get_ne ht, he]) (fun t ht => by rw [ht, set_get_eq]; exact j3)) (fun j hj => by rw [getD_set_ne false (by omega)]; exact hW.tailU j hj) hW.mle j2 (hW.j.trans j1) (nodup_without hW.nodup) (n := n - 1) (by have := hW.len; omega) j4
      exact ih hW2 hu'
theorem drawOK {E : Env} (hE : EnvOK P E) {call} (hcall : CallOK P call) {inl : Inl Prop} (hinl : CallOK P inl) : DrawOK P E call inl := by
  intro ops nt m K id Q s0 s fr a hJ hS hF h hQ
  obtain ⟨hok, h1⟩ := bif_prop h
  refine wp_region_any hE.mix ?_
  obtain ⟨hS', hJ'⟩ := hS.quiet (w' := { s.w with drawn := s.w.drawn + 1 }) keep_drew
  have hF' := hF.mono hS hJ'
  have hnone : ∀ j, (Array.replicate ops.size false).getD j false = false := fun j => by
    rw [Array.getD_eq_getD_getElem?, Array.getElem?_replicate]
    split <;> rfl
  obtain ⟨fr2, seen2, hW⟩ := Way.enter (E := E) (call := call) (inl := inl) (s0 := s0) (s := ⟨{ s.w with drawn := s.w.drawn + 1 }, s.F, s.ρ, s.σ⟩) (a := a) (listed := Array.replicate ops.size false) (by simp) (fun i hi => by rw [hnone i] at hi; cases hi) (m := m) (rest := effsOf E.dl m ops) (done := []) (seen := []) (fun e => ⟨fun h => .inr h, fun h => h.elim (fun h => by cases h) fun h => h⟩)
    (fun e he => by cases he) (fun e _ => hnone e) (fun i _ hi => by rw [hnone i] at hi; cases hi) ⟨fun t _ => hF'.get t, hF'.defers, hF'.size⟩ (fun j _ => hnone j) (by unfold orderOk tailOk at hok; simp only [Bool.and_eq_true] at hok; exact Nat.le_of_ble_eq_true hok.2.1) hS' (hJ.trans hJ') ((nodup_range0 _ _).filter _) rfl h1
  refine draw_all hE hcall hinl hok hQ ops.size hW ?_
  have := List.length_filter_le (fun j => !(Array.replicate ops.size false).getD j true) (List.range ops.size)
  rw [List.length_range] at this
  exact this
theorem ACall.sound {E : Env} (hE : EnvOK P E) {f : FuncId} {args : List AV} {τ : Sto} {Q : AV → Sto → Prop} (h : ACall E f args τ Q) : SC P f args τ Q :=
  ACall_sound hE (fun _ _ hc hi => drawOK hE hc hi) h
end
end Go.Abs
