/- Regions whose operations may come in any order: what comes before what; the phases. -/
import Derived.Test.YteeigkbjjoedoaaAOpsN
set_option linter.unusedVariables false
set_option linter.unusedSimpArgs false
namespace Go.Abs
def Direct (ops : Array Oper) (listed : Array Bool) (i : Nat) : Prop := ∃ o, ops[i]? = some o ∧ ∀ e ∈ o.after, Region.binds .any e = true → listed.getD e.on false = true
def Closed (ops : Array Oper) (listed : Array Bool) : Prop := ∀ i, listed.getD i false = true → Direct ops listed i
def Before (ops : Array Oper) (i k : Nat) : Prop := ∀ listed, Closed ops listed → Direct ops listed i → listed.getD k false = true
theorem mem_addNew {i k : Nat} {l : List Nat} (h : k ∈ addNew i l) : k = i ∨ k ∈ l := by
  unfold addNew at h
  cases hb : mem i l with
  | true => rw [hb] at h; exact .inr h
  | false => rw [hb] at h; simpa using h
theorem mem_addAll : ∀ {m l : List Nat} {k : Nat}, k ∈ addAll m l → k ∈ m ∨ k ∈ l
  | [], l, k, h => .inr h
  | i :: r, l, k, h => by
    rcases mem_addAll (m := r) h with h | h
    · exact .inl (by simp [h])
    · rcases mem_addNew h with h | h
      · exact .inl (by simp [h])
      · exact .inr h
theorem mem_predOf {T : List (List Nat)} : ∀ {es : List Edge} {acc : List Nat} {k : Nat}, k ∈ predOf T es acc → k ∈ acc ∨ ∃ e ∈ es, Region.binds .any e = true ∧ (k = e.on ∨ k ∈ predAt T e.on)
  | [], acc, k, h => .inl h
  | e :: r, acc, k, h => by
    simp only [predOf] at h
    cases hb : Region.binds .any e with
    | false =>
      rw [hb] at h
      rcases mem_predOf (es := r) h with h | ⟨e', h1, h2⟩
      · exact .inl h
      · exact .inr ⟨e', by simp [h1], h2⟩
    | true =>
      rw [hb] at h
      rcases mem_predOf (es := r) h with h | ⟨e', h1, h2⟩
      · rcases mem_addNew h with h | h
        · exact .inr ⟨e, by simp, hb, .inl h⟩
        · rcases mem_addAll h with h | h
          · exact .inr ⟨e, by simp, hb, .inr h⟩
          · exact .inl h
      · exact .inr ⟨e', by simp [h1], h2⟩
theorem predTab_before {ops : Array Oper} : ∀ (r : List Oper) (T : List (List Nat)), ops.toList.drop T.length = r → (∀ i k, k ∈ predAt T i → Before ops i k) → ∀ i k, k ∈ predAt (predTab r T) i → Before ops i k
  | [], T, _, h => h
  | o :: r, T, hd, h => by
    have hlt : T.length < ops.toList.length := by
      rcases Nat.lt_or_ge T.length ops.toList.length with h1 | h1
      · exact h1
      · rw [List.drop_eq_nil_iff.2 h1] at hd; cases hd
    have ho : ops[T.length]? = some o := by
      have := congrArg (·[0]?) hd
      simpa using this
    have hr : ops.toList.drop (T.length + 1) = r := by
      have := congrArg (List.drop 1) hd
      rw [List.drop_drop] at this
      simpa using this
    refine predTab_before r (T ++ [predOf T o.after.toList []]) (by rw [List.length_append]; exact hr) ?_
    intro i k hk
    unfold predAt at hk
    by_cases hi : i < T.length
    · rw [List.getElem?_append_left hi] at hk
      exact h i k hk
    · by_cases hi2 : i = T.length
      · subst hi2
        rw [List.getElem?_append_right (Nat.le_refl _), Nat.sub_self] at hk
        simp only [List.getElem?_cons_zero] at hk
        rcases mem_predOf hk with hk | ⟨e, h1, h2, h3⟩
        · cases hk
        · intro listed hC hD
          obtain ⟨o', ho', hall⟩ := hD
          rw [ho] at ho'; cases ho'
          have hon := hall e (by simpa using h1) h2
          rcases h3 with rfl | h3
          · exact hon
          · exact h e.on k h3 listed hC (hC e.on hon)
      · rw [List.getElem?_eq_none (by simp; omega)] at hk
        cases hk
theorem tab_before {ops : Array Oper} {i k : Nat} (h : k ∈ predAt (predTab ops.toList []) i) : Before ops i k :=
  predTab_before ops.toList [] (by simp) (fun i k h => by simp [predAt] at h) i k h
def pickB (b want : Bool) (x y : Option AV) : Option AV := if b = want then x else y
noncomputable def qv (E : Env) (all : Array Oper) (o : Oper) (fr : Fr) (σ : Sto) : Option AV :=
  match o.guard with
  | none => quietV E o fr σ
  | some (g, want) =>
    match (all[g]?).bind (·.dst) with
    | none => none
    | some t =>
      match Fr.get fr t with
      | .skip => some .skip
      | .d .bool b => pickB b want (quietV E o fr σ) (some .skip)
      | _ => none
theorem quietV_agree {E : Env} {o : Oper} {fr fr' : Fr} {σ : Sto} (h : ∀ x ∈ o.op.operands.toList, ∀ t, x = .tmp t → Fr.get fr t = Fr.get fr' t) : quietV E o fr σ = quietV E o fr' σ := opK_agree h
theorem looks_op {all : Array Oper} {o : Oper} {x : Operand} {t : Nat} (hx : x ∈ o.op.operands.toList) (ht : x = .tmp t) : t ∈ looks all o := by
  subst ht
  unfold looks
  exact List.mem_append_left _ (List.mem_filterMap.2 ⟨.tmp t, hx, rfl⟩)
theorem looks_guard {all : Array Oper} {o : Oper} {g : Nat} {want : Bool} {t : Nat} (hg : o.guard = some (g, want)) (ht : (all[g]?).bind (·.dst) = some t) : t ∈ looks all o := by
  unfold looks
  rw [hg]
  simp only [ht]
  exact List.mem_append_right _ (by simp)
theorem qv_agree {E : Env} {all : Array Oper} {o : Oper} {fr fr' : Fr} {σ : Sto} (h : ∀ t ∈ looks all o, Fr.get fr t = Fr.get fr' t) : qv E all o fr σ = qv E all o fr' σ := by
  have h1 : quietV E o fr σ = quietV E o fr' σ := quietV_agree fun x hx t ht => h t (looks_op hx ht)
  unfold qv
  split
  · exact h1
  · rename_i g want hg
    split
    · rfl
    · rename_i t ht
      rw [h t (looks_guard hg ht), h1]
theorem evQuiet_prop {E : Env} {call} {inl : Inl Prop} {all : Array Oper} {o : Oper} (hq : quietOp E.dl o.op = true) {fr : Fr} {σ : Sto} {K : Fr → AV → Prop} (h : evQuiet (PA call) E inl all o fr σ K) :
    ∃ fr' v, (∀ t, Fr.get fr' t = Fr.get fr t) ∧ qv E all o fr' σ = some v ∧ K fr' v := by
  unfold evQuiet at h
  split at h
  · rename_i hg
    obtain ⟨v, h1, h2⟩ := (quiet_prop hq).1 h
    exact ⟨fr, v, fun _ => rfl, by simp only [qv, hg]; exact h1, h2⟩
  · rename_i g want hg
    split at h
    · exact h.elim
    · rename_i t ht
      split at h
      · rename_i hs
        exact ⟨fr, .skip, fun _ => rfl, by simp only [qv, hg, ht, hs], h⟩
      · rename_i b hb
        have hext : ∀ (c : Bool), b = c → ∀ u, Fr.get ((t, .d .bool c) :: fr) u = Fr.get fr u := by
          intro c hc u
          simp only [Fr.get_cons, Fr.get_nil]
          cases hu : Nat.beq t u with
          | true => rw [← beq_eq.1 hu, hb, hc]; rfl
          | false => rfl
        have hyes : b = want → (opK (PA call).nb E inl o ((t, .d .bool want) :: fr) σ fun v _ => K ((t, .d .bool want) :: fr) v) → ∃ fr' v, (∀ t, Fr.get fr' t = Fr.get fr t) ∧ qv E all o fr' σ = some v ∧ K fr' v := by
          intro he h
          obtain ⟨v, h1, h2⟩ := (quiet_prop hq).1 h
          refine ⟨_, v, hext want he, ?_, h2⟩
          simp only [qv, hg, ht, hext want he t, hb]
          exact (if_pos he).trans h1
        have hno : b = (!want) → K ((t, .d .bool (!want)) :: fr) .skip → ∃ fr' v, (∀ t, Fr.get fr' t = Fr.get fr t) ∧ qv E all o fr' σ = some v ∧ K fr' v := by
          intro he h
          refine ⟨_, .skip, hext (!want) he, ?_, h⟩
          simp only [qv, hg, ht, hext (!want) he t, hb]
          exact if_neg (fun h3 : b = want => by rw [h3] at he; cases want <;> cases he)
        cases want with
        | true =>
          dsimp only [cond_true] at h
          rcases br_prop h with ⟨hb1, h2⟩ | ⟨hb1, h2⟩
          · exact hyes hb1 h2
          · exact hno hb1 h2
        | false =>
          dsimp only [cond_false] at h
          rcases br_prop h with ⟨hb1, h2⟩ | ⟨hb1, h2⟩
          · exact hno hb1 h2
          · exact hyes hb1 h2
      · exact h.elim
theorem eqTs_eq {α : Type} {f : α → α → Bool} (hf : ∀ x y, f x y = true → x = y) : ∀ {l m : List α}, eqTs f l m = true → l = m
  | [], [], _ => rfl
  | x :: r, y :: s, h => by
    simp only [eqTs, Bool.and_eq_true] at h
    rw [hf x y h.1, eqTs_eq hf h.2]
  | [], _ :: _, h => by simp [eqTs] at h
  | _ :: _, [], h => by simp [eqTs] at h
theorem eqT_eq : ∀ {t : Ty} {x y : t.T}, eqT t x y = true → x = y
  | .int _, x, y, h => eq_of_beq (α := Int) h
  | .bool, x, y, h => eq_of_beq (α := Bool) h
  | .str, x, y, h => eq_of_beq (α := List UInt8) h
  | .opq _, x, y, _ => rfl
  | .sl e, x, y, h => eqTs_eq (fun x y h => eqT_eq h) h
  | .pair a b, x, y, h => by
    simp only [eqT, Bool.and_eq_true] at h
    exact Prod.ext (eqT_eq h.1) (eqT_eq h.2)
  | .unit, x, y, _ => rfl
  | .arr _ e, x, y, h => eqTs_eq (fun x y h => eqT_eq h) h
theorem eqNs_eq : ∀ {l m : List Nat}, eqNs l m = true → l = m
  | [], [], _ => rfl
  | x :: r, y :: s, h => by
    simp only [eqNs, Bool.and_eq_true] at h
    rw [beq_eq.1 h.1, eqNs_eq h.2]
  | [], _ :: _, h => by simp [eqNs] at h
  | _ :: _, [], h => by simp [eqNs] at h
theorem eqPs_eq : ∀ {l m : List Nat}, eqPs l m = true → l = m
  | [], [], _ => rfl
  | x :: r, y :: s, h => by
    simp only [eqPs, Bool.and_eq_true, decide_eq_true_eq] at h
    rw [h.1, eqPs_eq h.2]
  | [], _ :: _, h => by simp [eqPs] at h
  | _ :: _, [], h => by simp [eqPs] at h
theorem sameB_eq : ∀ {n : Nat} {v w : AV}, sameB n v w = true → v = w := by
  have dd : ∀ {t u : Ty} {x : t.T} {y : u.T}, (if h : t = u then eqT u (cst h x) y else false) = true → ∃ e : t = u, cst e x = y := by
    intro t u x y h
    split at h
    · rename_i e; exact ⟨e, eqT_eq h⟩
    · cases h
  have main : ∀ (f : AV → AV → Bool) (n : Nat), (∀ l l', sameB n (.agg l) (.agg l') = true → l = l') → (∀ l l', sameB n (.tup l) (.tup l') = true → l = l') → ∀ {v w : AV}, sameB n v w = true → v = w := by
    intro f n hagg htup v w h
    cases v <;> cases w <;> (try (simp [sameB] at h; done))
    case skip.skip => rfl
    case d.d t x u y =>
      obtain ⟨e, h1⟩ := dd (by simpa only [sameB] using h)
      subst e; cases h1; rfl
    case dp.dp t x u y =>
      obtain ⟨e, h1⟩ := dd (by simpa only [sameB] using h)
      subst e; cases h1; rfl
    case dx.dx t x u y =>
      have h' : (if h : Ty.sl t = Ty.sl u then eqT (.sl u) (cst h x) y else false) = true := by simpa only [sameB] using h
      obtain ⟨e, h1⟩ := dd h'
      cases e; cases h1; rfl
    case nils.nils t u =>
      have : t = u := by simpa [sameB] using h
      rw [this]
    case vec.vec i j =>
      have : i = j := beq_eq.1 (by simpa only [sameB] using h)
      rw [this]
    case mp.mp i j =>
      have : i = j := beq_eq.1 (by simpa only [sameB] using h)
      rw [this]
    case sl.sl i o l c e i' o' l' c' e' =>
      simp only [sameB, Bool.and_eq_true, beq_iff_eq, decide_eq_true_eq] at h
      obtain ⟨h1, h5, h2, h3, h4⟩ := h
      rw [beq_eq.1 h1, h2, h3, h4, h5]
    case ptr.ptr i k p i' k' p' =>
      simp only [sameB, Bool.and_eq_true, decide_eq_true_eq] at h
      rw [beq_eq.1 h.1, h.2.1, eqPs_eq h.2.2]
    case asl.asl i k p e n i' k' p' e' n' =>
      simp only [sameB, Bool.and_eq_true, decide_eq_true_eq, beq_iff_eq] at h
      rw [beq_eq.1 h.1, h.2.1, eqPs_eq h.2.2.1, h.2.2.2.1, h.2.2.2.2]
    case agg.agg l l' => rw [hagg l l' h]
    case tup.tup l l' => rw [htup l l' h]
  intro n
  induction n with
  | zero => exact main (sameB 0) 0 (fun l l' h => by simp [sameB] at h) (fun l l' h => by simp [sameB] at h)
  | succ n ih => exact main (sameB n) (n + 1) (fun l l' h => eqTs_eq (f := sameB n) (fun x y h => ih h) (by simpa only [sameB] using h)) (fun l l' h => eqTs_eq (f := sameB n) (fun x y h => ih h) (by simpa only [sameB] using h))
end Go.Abs

set_option linter.unusedVariables false
set_option linter.unusedSimpArgs false
namespace Go.Abs
def Fact (E : Env) (nt : Nat) (all : Array Oper) (fr : Fr) (σ : Sto) (i : Nat) : Prop :=
  ∃ o v, all[i]? = some o ∧ dstOk nt o.dst = true ∧ quietOp E.dl o.op = true ∧ qv E all o fr σ = some v ∧ ∀ t, o.dst = some t → Fr.get fr t = v
theorem set_get_ne {fr : Fr} {dst : Option Nat} {v : AV} {t : Nat} (h : dst ≠ some t) : Fr.get (fr.set dst v) t = Fr.get fr t := by
  cases dst with
  | none => rfl
  | some u =>
    simp only [Fr.set, Fr.get_cons, Fr.get_nil]
    cases hb : Nat.beq u t with
    | true => exact (h (by rw [beq_eq.1 hb])).elim
    | false => rfl
theorem set_get_eq {fr : Fr} {v : AV} {t : Nat} : Fr.get (fr.set (some t) v) t = v := by
  simp only [Fr.set, Fr.get_cons, Fr.get_nil, Nat.beq_refl, cond_true]
theorem evQs_prop {E : Env} {call} {inl : Inl Prop} {nt : Nat} {all : Array Oper} {seen : List Nat} {σ : Sto} {K : Fr → Prop} : ∀ {is : List Nat} {fr : Fr}, evQs (PA call) E inl nt all seen is fr σ K →
    ∃ fr', K fr' ∧ (∀ t, (∀ i ∈ is, i ∉ seen → dstOf all i ≠ some t) → Fr.get fr' t = Fr.get fr t) ∧ ∀ i ∈ is, Fact E nt all fr' σ i
  | [], fr, h => ⟨fr, h, fun _ _ => rfl, fun i hi => by cases hi⟩
  | i :: r, fr, h => by
    simp only [evQs] at h
    split at h
    · exact h.elim
    · rename_i o ho
      obtain ⟨hc, h1⟩ := not_match h
      clear h
      simp only [Bool.and_eq_true] at hc
      obtain ⟨⟨⟨c1, c2⟩, c3⟩, c4⟩ := hc
      have hd : dstOf all i = o.dst := by simp [dstOf, ho]
      have hl : ∀ k ∈ i :: r, ∀ t ∈ looks all o, dstOf all k ≠ some t := by
        intro k hk t ht he
        have := List.all_eq_true.1 c3 k hk
        simp only [dstIn, he, mem_iff.2 ht] at this
        cases this
      have hdd : ∀ k ∈ r, ∀ t, o.dst = some t → dstOf all k ≠ some t := by
        intro k hk t ht he
        have := List.all_eq_true.1 c4 k hk
        simp only [dstEq, hd, ht, he, Nat.beq_refl] at this
        cases this
      obtain ⟨fr1, v, e1, e2, h2⟩ := evQuiet_prop c2 h1
      cases hs : mem i seen with
      | true =>
        rw [hs] at h2
        have hiseen := mem_iff.1 hs
        have key : evQs (PA call) E inl nt all seen r fr1 σ K ∧ ∀ t, o.dst = some t → Fr.get fr1 t = v := by
          dsimp only [cond_true] at h2
          cases hdst : o.dst with
          | none => rw [hdst] at h2; exact ⟨h2, fun t ht => by cases ht⟩
          | some t =>
            rw [hdst] at h2
            obtain ⟨k1, k2⟩ := bif_prop h2
            exact ⟨k2, fun u hu => by cases hu; exact sameB_eq k1⟩
        obtain ⟨fr', k1, k2, k3⟩ := evQs_prop key.1
        refine ⟨fr', k1, fun t ht => ?_, fun j hj => ?_⟩
        · rw [k2 t (fun k hk hns => ht k (by simp [hk]) hns), e1]
        · rcases List.mem_cons.1 hj with rfl | hj
          · refine ⟨o, v, ho, c1, c2, ?_, fun t ht => ?_⟩
            · rw [← e2]
              exact qv_agree fun t ht => k2 t fun k hk _ => hl k (by simp [hk]) t ht
            · rw [k2 t (fun k hk _ => hdd k hk t ht)]
              exact key.2 t ht
          · exact k3 j hj
      | false =>
        rw [hs] at h2
        have hins : i ∉ seen := fun h => by rw [mem_iff.2 h] at hs; cases hs
        obtain ⟨fr', k1, k2, k3⟩ := evQs_prop h2
        refine ⟨fr', k1, fun t ht => ?_, fun j hj => ?_⟩
        · rw [k2 t (fun k hk hns => ht k (by simp [hk]) hns), set_get_ne (by rw [← hd]; exact ht i (by simp) hins), e1]
        · rcases List.mem_cons.1 hj with rfl | hj
          · refine ⟨o, v, ho, c1, c2, ?_, fun t ht => ?_⟩
            · rw [← e2]
              refine qv_agree fun t ht => ?_
              rw [k2 t fun k hk _ => hl k (by simp [hk]) t ht]
              exact set_get_ne (by rw [← hd]; exact hl j (by simp) t ht)
            · rw [k2 t (fun k hk _ => hdd k hk t ht), ht]
              exact set_get_eq
          · exact k3 j hj
def unlistedDsts (m : Nat) (all : Array Oper) (listed : Array Bool) : List Nat := (range0 0 m).filterMap fun j => if listed.getD j true = true then none else dstOf all j
def mask (U : List Nat) (fr : Fr) : Fr := U.map (fun t => (t, AV.undef)) ++ fr
theorem mask_in : ∀ {U : List Nat} {fr : Fr} {t : Nat}, t ∈ U → Fr.get (mask U fr) t = .undef
  | u :: U, fr, t, h => by
    show Fr.get ((u, .undef) :: mask U fr) t = _
    simp only [Fr.get_cons, Fr.get_nil]
    cases hb : Nat.beq u t with
    | true => rfl
    | false =>
      have hne : t ≠ u := fun e => by rw [beq_eq.2 e.symm] at hb; cases hb
      exact mask_in (by simpa [hne] using h)
theorem mask_out : ∀ {U : List Nat} {fr : Fr} {t : Nat}, t ∉ U → Fr.get (mask U fr) t = Fr.get fr t
  | [], fr, t, _ => rfl
  | u :: U, fr, t, h => by
    show Fr.get ((u, .undef) :: mask U fr) t = _
    simp only [Fr.get_cons, Fr.get_nil]
    cases hb : Nat.beq u t with
    | true => exact (h (by rw [beq_eq.1 hb]; simp)).elim
    | false => exact mask_out (fun h2 => h (by simp [h2]))
structure FrL (s : St) (fr : Fr) (a : Act) (nt m : Nat) (all : Array Oper) (listed : Array Bool) : Prop where
  get : ∀ t, t ∉ unlistedDsts m all listed → s.vv (Fr.get fr t) (a.tmps.getD t undef)
  defers : a.defers = []
  size : a.tmps.size = nt
theorem FrL.masked {s : St} {fr : Fr} {a : Act} {nt m : Nat} {all : Array Oper} {listed : Array Bool} (h : FrL s fr a nt m all listed) : FrR s (mask (unlistedDsts m all listed) fr) a nt := by
  refine ⟨fun t => ?_, h.defers, h.size⟩
  by_cases ht : t ∈ unlistedDsts m all listed
  · rw [mask_in ht]; trivial
  · rw [mask_out ht]; exact h.get t ht
section
variable {P : Program}
theorem guard_go {s : St} {fr : Fr} {a : Act} {nt : Nat} (hF : FrR s fr a nt) {ops : Array Oper} {Q : Exit → Act → World → Prop} {i : Nat} {o : Oper} (ho : ops[i]? = some o) {next : Act → World → Prop}
    (h : (o.guard = none ∧ o.wp P a s.w next Q) ∨ ∃ g want t, o.guard = some (g, want) ∧ (ops[g]?).bind (·.dst) = some t ∧ ((Fr.get fr t = .skip ∧ next (a.put o.dst undef) s.w) ∨
      ∃ b : Bool, Fr.get fr t = .d .bool b ∧ (b = want → o.wp P a s.w next Q) ∧ (b ≠ want → next (a.put o.dst undef) s.w))) : wpOp P ops Q i next a s.w := by
  unfold wpOp
  simp only [ho]
  rcases h with ⟨hg, h⟩ | ⟨g, want, t, hg, ht, ⟨hs, h⟩ | ⟨b, hb, h1, h2⟩⟩
  · have : Region.wanted o (yielded ops a.tmps) = true := by simp [Region.wanted, hg]
    rw [if_pos this]
    exact .inl h
  · have hv := hF.get t
    rw [hs] at hv
    have hv : a.tmps.getD t undef = undef := hv
    have : Region.wanted o (yielded ops a.tmps) = false := by simp [Region.wanted, hg, yielded_undef ht hv]
    rw [this]
    exact h
  · have hv := hF.get t
    rw [hb] at hv
    have hvb := VV_bool hv
    have hw : Region.wanted o (yielded ops a.tmps) = (b == want) := by
      simp only [Region.wanted, hg, yielded_bool ht hvb]
      rfl
    by_cases hbw : b = want
    · have h3 : Region.wanted o (yielded ops a.tmps) = true := by rw [hw, hbw]; exact beq_self_eq_true want
      rw [if_pos h3]
      exact .inl (h1 hbw)
    · have h3 : Region.wanted o (yielded ops a.tmps) = false := by rw [hw]; exact beq_eq_false_iff_ne.2 hbw
      rw [h3]
      exact h2 hbw
theorem quiet_go {E : Env} (hE : EnvOK P E) {call} (hcall : CallOK P call) {inl : Inl Prop} (hinl : CallOK P inl) {s : St} (hS : Sim s) {fr : Fr} {a : Act} {nt : Nat} (hF : FrR s fr a nt) {ops : Array Oper} {Q : Exit → Act → World → Prop} {i : Nat} {o : Oper} (ho : ops[i]? = some o) (hq : quietOp E.dl o.op = true)
    {v : AV} (hv : qv E ops o fr s.σ = some v) {next : Act → World → Prop} (hn : ∀ s' c, J s s' → Sim s' → s'.σ = s.σ → s'.vv v c → next (a.put o.dst c) s'.w) : wpOp P ops Q i next a s.w := by
  have go : quietV E o fr s.σ = some v → o.wp P a s.w next Q := by
    intro h
    have h1 : opK (PA call) E inl o fr s.σ (fun v' σ' => v' = v ∧ σ' = s.σ) := nb_weak hq ((quiet_prop hq).2 ⟨v, h, rfl, rfl⟩)
    exact oper_sound hE hcall hinl hS hF h1 fun v' s' c j1 j2 j3 j4 => by
      obtain ⟨rfl, j5⟩ := j4
      exact hn s' c j1 j2 j5 j3
  have skip : v = .skip → next (a.put o.dst undef) s.w := fun e => hn s undef (.refl s) hS rfl (by rw [e]; rfl)
  refine guard_go hF ho ?_
  unfold qv at hv
  split at hv
  · rename_i hg; exact .inl ⟨hg, go hv⟩
  · rename_i g want hg
    split at hv
    · cases hv
    · rename_i t ht
      split at hv
      · rename_i hs
        cases hv
        exact .inr ⟨g, want, t, hg, ht, .inl ⟨hs, skip rfl⟩⟩
      · rename_i b hb
        refine .inr ⟨g, want, t, hg, ht, .inr ⟨b, hb, fun e => ?_, fun e => ?_⟩⟩
        · exact go ((if_pos e).symm.trans hv)
        · have := (if_neg e).symm.trans hv
          cases this
          exact skip rfl
      · cases hv
end
end Go.Abs
