/- The law of 'MovesSequence', in plain Lean: the law. -/
import Derived.Test.YtfdoaacapkopmaaAP4m
set_option linter.unusedVariables false
set_option linter.unusedSimpArgs false
namespace Go.Proofs.Ytfdoaacapkopmaa
open Go.Abs

theorem c21_ok {l : List Int} {v : Int} {k : Bool → Prop} (hl : l.length ≤ 1000) (h1 : v ∈ l → k true) (h2 : v ∉ l → k false) : c21 l v k := by
  constructor
  constructor
  intro I hI
  refine allInd (N := l.length) (p := fun i => ∀ h : i < l.length, l[i] ≠ v) (M := fun i => I v l (l.length : Int) (i : Int)) (fun h => hI _ _ _ _ (brDn (by omega) (h2 fun hm => ?_))) fun i hi hlt ih => hI _ _ _ _ ?_
  · obtain ⟨i, hi, e⟩ := List.mem_iff_getElem.1 hm
    exact h i hi hi e
  · rw [wrapS (by omega)]
    exact brD (by omega) (needAt hi (brE (fun e => h1 (e ▸ List.getElem_mem hi)) fun e => ih fun _ => e))

theorem j4r17_ok {k1 : Bool → Int → LL → Prop} {k2 : LL → Int → Int → LL → Int → Int → LL → List Int → Prop} {s1 s5 out : LL} {s2 f c s6 s7 : Int} {seen x : List Int} (hx : x.length = 2) (hs : seen.length ≤ 1000)
    (h1 : c ≠ 0 → (f = c ∧ out = []) ∧ k1 true f out) (h2 : c = 0 → k2 s1 s2 f s5 s6 s7 out (seen ++ [dd x])) : j4r17 k1 k2 s1 s2 f c s5 s6 s7 out seen x := by
  constructor
  refine brN (fun e => ?_) fun e => need0 hx (brT (roomS (by omega)) (h2 e))
  obtain ⟨⟨e1, e2⟩, h⟩ := h1 e
  refine brT (by simp [e1]) ?_
  subst e2
  exact h

theorem l4r8_ok {l out : LL} {sp f : Int} {k1 : Bool → Int → LL → Prop} {k2 : LL → Int → Int → LL → List Int → Prop} (hl : l.length ≤ 300) (hp : Prs l)
    (h1 : ∀ i, i < l.length → (∀ j, j < i → chk l sp j = 0) → chk l sp i ≠ 0 → (f = chk l sp i ∧ out = []) ∧ k1 true f out)
    (h2 : (∀ i, i < l.length → chk l sp i = 0) → k2 l sp f out (l.map dd)) : l4r8 k1 k2 l sp f l (l.length : Int) 0 out [] := by
  constructor
  intro I hI
  have key := allInd (N := l.length) (p := fun i => chk l sp i = 0) (M := fun i => I l sp f l (l.length : Int) (i : Int) out ((l.take i).map dd))
    (fun h => hI _ _ _ _ _ _ _ _ (brDn (by omega) (by rw [List.take_length]; exact h2 h)))
    (fun i hi hlt ih => hI _ _ _ _ _ _ _ _ (by
      have hx := hp _ (List.getElem_mem hi)
      have hc := chk_eq (sp := sp) hi
      have hj : ∀ c : Int, chk l sp i = c → j4r17 (fun z11 z12 z13 => k1 z11 z12 z13) (fun z14 z15 z16 z17 z18 z19 z20 z21 => I z14 z15 z16 z17 z18 (IntKind.wrap .i64 (z19 + 1)) z20 z21) l sp f c l (l.length : Int) (i : Int) out ((l.take i).map dd) l[i] := fun c e => by
        refine j4r17_ok hx (by simp; omega) (fun e2 => ?_) fun e2 => ?_
        · rw [← e]; exact h1 i hi hlt (by rw [e]; exact e2)
        · have := ih (by rw [e, e2])
          rw [List.take_succ_eq_append_getElem hi, List.map_append] at this
          show I l sp f l (l.length : Int) (IntKind.wrap .i64 ((i : Int) + 1)) out _
          rw [wrapS (by omega)]
          exact this
      refine brD (by omega) (needAt hi (need0 hx (brP (fun e => hj 4 (by rw [hc, if_pos (.inl e)])) fun e1 => need1 hx (brP (fun e => hj 4 (by rw [hc, if_pos (.inr e)])) fun e2 => need0 hx ?_))))
      have e0 : ¬ (dd l[i] < 0 ∨ ss l[i] < 0) := by omega
      rw [if_neg e0] at hc
      refine c21_ok (by simp; omega) (fun hm => ?_) fun hm => ?_
      · obtain ⟨y, hy, e⟩ := List.mem_map.1 hm
        obtain ⟨j, hj2, rfl⟩ := List.mem_take_iff_getElem.1 hy
        have hex : ∃ j, j < i ∧ dd (l[j]?.getD []) = dd l[i] := ⟨j, by omega, by rw [List.getElem?_eq_getElem (by omega)]; exact e⟩
        exact brT rfl (hj 7 (by rw [hc, if_pos hex]))
      · have hex : ¬ ∃ j, j < i ∧ dd (l[j]?.getD []) = dd l[i] := fun ⟨j, hj3, e⟩ => hm (List.mem_map.2 ⟨l[j]'(by omega), List.mem_take_iff_getElem.2 ⟨j, by omega, rfl⟩, by rw [List.getElem?_eq_getElem (by omega)] at e; exact e⟩)
        rw [if_neg hex] at hc
        refine brF rfl (need0 hx (brE (fun e => hj 1 (by rw [hc, if_pos (.inl e)])) fun e3 => need1 hx (brE (fun e => hj 1 (by rw [hc, if_pos (.inr e)])) fun e4 => hj 0 ?_)))
        rw [hc, if_neg (by omega)]))
  exact key

/-- the names and values of the law stand for the variables -/
structure Rep (ns vs : List Int) (σ : Int → Int) : Prop where
  len : ns.length = vs.length
  val : ∀ (i : Nat) (v : Int), ns[i]? = some v → vs[i]? = some (σ v)
  nd : ∀ (i j : Nat) (v : Int), ns[i]? = some v → ns[j]? = some v → i = j
  out : ∀ v, v ∉ ns → σ v = v

theorem c22_ok {ns vs : List Int} {σ : Int → Int} {v : Int} {k1 k2 : Int → List Int → List Int → Prop} (hr : Rep ns vs σ) (hl : ns.length ≤ 1000)
    (h : ∀ (i : Nat) (ns' vs' : List Int), Rep ns' vs' σ → ns'.length ≤ ns.length + 1 → ns'[i]? = some v → (∀ (j : Nat) (u : Int), ns[j]? = some u → ns'[j]? = some u) → k1 (i : Int) ns' vs' ∧ k2 (i : Int) ns' vs') : c22 v ns vs k1 k2 := by
  have hlen := hr.len
  constructor
  constructor
  intro I hI
  refine allInd (N := ns.length) (p := fun i => ∀ h : i < ns.length, ns[i] ≠ v) (M := fun i => I v (ns.length : Int) (i : Int) ns vs) (fun hno => hI _ _ _ _ _ (brDn (by omega) ?_)) fun i hi hlt ih => hI _ _ _ _ _ ?_
  · have hv : v ∉ ns := fun hm => by
      obtain ⟨i, hi, e⟩ := List.mem_iff_getElem.1 hm
      exact hno i hi hi e
    have hk := (h ns.length (ns ++ [v]) (vs ++ [v]) ⟨by simp [hlen], fun i u hu => ?_, fun i j u hi hj => ?_, fun u hu => hr.out u fun hm => hu (List.mem_append_left _ hm)⟩ (by simp) (by simp) (fun j u hu => by
      have := (List.getElem?_eq_some_iff.1 hu).1
      rw [List.getElem?_append_left (by omega)]; exact hu)).2
    · have e : IntKind.wrap .i64 ((((ns ++ [v]).length : Nat) : Int) - 1) = ((ns.length : Nat) : Int) := by
        have : (ns ++ [v]).length = ns.length + 1 := by simp
        rw [this, wrap64 (by omega) (by omega)]; omega
      have r1 : roomB (ns.length + 1) 8 = true := roomS (by omega)
      have r2 : roomB (vs.length + 1) 8 = true := roomS (by omega)
      rw [← e] at hk
      exact ⟨brT (eqT_self _ _) ⟨brT r1 (brT (eqT_self _ _) (brT r2 hk)), brT r1 (brT r2 hk)⟩, brT (eqT_self _ _) (brT r1 (brT r2 hk))⟩
    · by_cases e : i < ns.length
      · rw [List.getElem?_append_left e] at hu
        rw [List.getElem?_append_left (by omega)]; exact hr.val i u hu
      · by_cases e2 : i = ns.length
        · subst e2
          rw [List.getElem?_append_right (by omega), Nat.sub_self] at hu
          have : v = u := by simpa using hu
          subst this
          rw [hr.out v hv, hlen]; simp
        · rw [List.getElem?_eq_none (by simp; omega)] at hu; cases hu
    · have hlt : ∀ {i : Nat} {u : Int}, (ns ++ [v])[i]? = some u → (ns[i]? = some u ∧ i < ns.length) ∨ (i = ns.length ∧ u = v) := fun {i u} hh => by
        by_cases e : i < ns.length
        · rw [List.getElem?_append_left e] at hh; exact .inl ⟨hh, e⟩
        · by_cases e2 : i = ns.length
          · subst e2
            rw [List.getElem?_append_right (by omega), Nat.sub_self] at hh
            exact .inr ⟨rfl, by simpa using hh.symm⟩
          · rw [List.getElem?_eq_none (by simp; omega)] at hh; cases hh
      rcases hlt hi with ⟨a1, a2⟩ | ⟨a1, a2⟩ <;> rcases hlt hj with ⟨b1, b2⟩ | ⟨b1, b2⟩
      · exact hr.nd i j u a1 b1
      · subst b2; exact absurd (List.mem_of_getElem? a1) hv
      · subst a2; exact absurd (List.mem_of_getElem? b1) hv
      · omega
  · rw [wrapS (by omega), Int.toNat_natCast]
    refine brD (by omega) (brD (by omega) (needNth hi (brE (fun e => ?_) fun e => ih fun _ => e)))
    exact (h i ns vs hr (by omega) (by rw [List.getElem?_eq_getElem hi, e]) fun _ _ hu => hu).1

theorem rep_get {ns vs : List Int} {σ : Int → Int} (hr : Rep ns vs σ) {i : Nat} {v : Int} (h : ns[i]? = some v) : i < vs.length ∧ vs[i]? = some (σ v) := by
  have := (List.getElem?_eq_some_iff.1 h).1
  exact ⟨by rw [← hr.len]; exact this, hr.val i v h⟩
theorem rep_set {ns vs : List Int} {σ : Int → Int} (hr : Rep ns vs σ) {i : Nat} {v a : Int} (h : ns[i]? = some v) : Rep ns (vs.set i a) (upd σ v a) := by
  have hi := (rep_get hr h).1
  refine ⟨by simp [hr.len], fun j u hu => ?_, hr.nd, fun u hu => ?_⟩
  · by_cases e : j = i
    · subst e
      have : u = v := by rw [h] at hu; exact (Option.some.inj hu).symm
      subst this
      rw [List.getElem?_set_self hi, upd_self]
    · have hne : u ≠ v := fun e2 => e (hr.nd j i u hu (e2 ▸ h))
      rw [List.getElem?_set_ne (fun e2 => e e2.symm), upd_ne hne]; exact hr.val j u hu
  · have hne : u ≠ v := fun e2 => hu (e2 ▸ List.mem_of_getElem? h)
    rw [upd_ne hne]; exact hr.out u hu

theorem l4r24_ok {l out : LL} {sp f : Int} {seen : List Int} {k : LL → Int → Int → List Int → List Int → List Int → Prop} (hp : Prs out) (hb : out.length ≤ 400)
    (h : ∀ ns vs, Rep ns vs (ex out) → ns.length ≤ 2 * out.length → k l sp f seen ns vs) : l4r24 k l sp f (out.length : Int) 0 seen [] [] out := by
  constructor
  intro I hI
  have key := upInd (N := out.length) (M := fun j => ∀ ns vs, Rep ns vs (ex (out.take j)) → ns.length ≤ 2 * j → I l sp f (out.length : Int) (j : Int) seen ns vs out)
    (by
      intro ns vs h1 h2
      apply hI
      rw [List.take_length] at h1
      exact brDn (by omega) (h ns vs h1 h2))
    (by
      intro j hj ih ns vs h1 h2
      apply hI
      have hx := hp _ (List.getElem_mem hj)
      have hex : ex (out.take (j + 1)) = upd (ex (out.take j)) (dd out[j]) (ex (out.take j) (ss out[j])) := by
        rw [List.take_succ_eq_append_getElem hj, ex_snoc]; rfl
      rw [hex] at ih
      rw [wrapS (by omega), Int.toNat_natCast]
      refine brD (by omega) (brD (by omega) (needNth hj (need0 hx (c22_ok h1 (by omega) fun i n1 v1 r1 b1 g1 _ => ?_))))
      have both : ∀ {n1 v1 : List Int} {i : Nat}, Rep n1 v1 (ex (out.take j)) → n1.length ≤ ns.length + 1 → n1[i]? = some (dd out[j]) →
          ∀ (i2 : Nat) (n2 v2 : List Int), Rep n2 v2 (ex (out.take j)) → n2.length ≤ n1.length + 1 → n2[i2]? = some (ss out[j]) → (∀ (j : Nat) (u : Int), n1[j]? = some u → n2[j]? = some u) →
          br (decide ((0 : Int) ≤ (i2 : Int) ∧ ((i2 : Nat) : Int) < ((v2.length : Nat) : Int))) (need False (v2)[(Int.toNat (i2 : Int))]? fun y19 =>
            br (decide ((0 : Int) ≤ (i : Int) ∧ ((i : Nat) : Int) < ((v2.length : Nat) : Int))) (need False (v2)[(Int.toNat (i : Int))]? fun y20 =>
              I l sp f (out.length : Int) ((j + 1 : Nat) : Int) seen n2 (List.set v2 (Int.toNat (i : Int)) y19) out) False) False := by
        intro n1 v1 i r1 b1 g1 i2 n2 v2 r2 b2 g2 mono
        obtain ⟨q1, q2⟩ := rep_get r2 g2
        obtain ⟨p1, p2⟩ := rep_get r2 (mono _ _ g1)
        rw [Int.toNat_natCast, Int.toNat_natCast]
        exact brD (by omega) (needS q2 (brD (by omega) (needS p2 (ih n2 _ (rep_set r2 (mono _ _ g1)) (by omega)))))
      exact ⟨need1 hx (c22_ok r1 (by omega) fun i2 n2 v2 r2 b2 g2 mono => ⟨both r1 b1 g1 i2 n2 v2 r2 b2 g2 mono, both r1 b1 g1 i2 n2 v2 r2 b2 g2 mono⟩), need1 hx (c22_ok r1 (by omega) fun i2 n2 v2 r2 b2 g2 mono => ⟨both r1 b1 g1 i2 n2 v2 r2 b2 g2 mono, both r1 b1 g1 i2 n2 v2 r2 b2 g2 mono⟩)⟩)
    0 (Nat.zero_le _)
  exact key [] [] ⟨rfl, fun i v h => by simp at h, fun i j v h => by simp at h, fun _ _ => rfl⟩ (by simp)

theorem l4r31_ok {l : LL} {sp f : Int} {seen ns vs : List Int} {σ : Int → Int} {k1 : Bool → Prop} {k2 : Int → Int → List Int → List Int → List Int → Prop} (hp : Prs l) (hl : l.length ≤ 300) (hn : ns.length ≤ 600) (hr : Rep ns vs σ)
    (hx : ∀ x ∈ l, σ (dd x) = ss x) (h : ∀ ns vs, Rep ns vs σ → ns.length ≤ 1000 → k2 sp f seen ns vs) : l4r31 k1 k2 sp f l (l.length : Int) 0 seen ns vs := by
  constructor
  intro I hI
  have key := upInd (N := l.length) (M := fun j => ∀ ns vs, Rep ns vs σ → ns.length ≤ 600 + j → I sp f l (l.length : Int) (j : Int) seen ns vs)
    (by
      intro ns vs h1 h2
      apply hI
      exact brDn (by omega) (h ns vs h1 (by omega)))
    (by
      intro j hj ih ns vs h1 h2
      apply hI
      have hx2 := hp _ (List.getElem_mem hj)
      have hv := hx _ (List.getElem_mem hj)
      rw [wrapS (by omega)]
      refine brD (by omega) (needAt hj (need0 hx2 (c22_ok h1 (by omega) fun i n1 v1 r1 b1 g1 _ => ?_)))
      obtain ⟨q1, q2⟩ := rep_get r1 g1
      rw [hv] at q2
      rw [Int.toNat_natCast]
      have := ih n1 v1 r1 (by omega)
      exact ⟨brD (by omega) (needS q2 (need1 hx2 (brN (fun e => absurd rfl e) fun _ => this))), brD (by omega) (needS q2 (need1 hx2 (brN (fun e => absurd rfl e) fun _ => this)))⟩)
    0 (Nat.zero_le _)
  exact key ns vs hr (by omega)

theorem l4r38_ok {sp f : Int} {seen ns vs : List Int} {σ : Int → Int} {k1 : Bool → Prop} {k2 : Int → Prop} (hs : seen.length ≤ 1000) (hn : ns.length ≤ 1000) (hr : Rep ns vs σ)
    (hx : ∀ v, v ≠ sp → v ∉ seen → σ v = v) (h : k2 f) : l4r38 k1 k2 sp f (ns.length : Int) 0 seen vs ns := by
  have hlen := hr.len
  constructor
  intro I hI
  exact upInd (N := ns.length) (M := fun j => I sp f (ns.length : Int) (j : Int) seen vs ns)
    (by
      apply hI
      exact brDn (by omega) h)
    (by
      intro j hj ih
      apply hI
      have hv := hr.val j ns[j] (List.getElem?_eq_getElem hj)
      rw [wrapS (by omega), Int.toNat_natCast]
      refine brD (by omega) (brD (by omega) (needNth hj (brN (fun e => c21_ok hs (fun _ => brF rfl ih) fun hno => brT rfl (brD (by omega) (needS hv ?_))) fun _ => ih)))
      rw [hx _ e hno]
      exact brN (fun e => absurd rfl e) fun _ => ih)
    0 (Nat.zero_le _)

def IvC (T out : LL) : Prop := (T = [[1, 2], [2, 1]] ∧ out = []) ∨ (T = [[2, 9]] ∧ out = [[9, 1], [1, 2]]) ∨ (T = [] ∧ out = [[9, 1], [1, 2], [2, 9]])
theorem keepsC : Keeps IvC 9 := by
  refine ⟨fun {T out} h => ?_, fun {T out} h => ?_, fun {T out} i hi h hf => ?_, fun {T out} h0 h hf => ?_⟩
  · rcases h with ⟨rfl, rfl⟩ | ⟨rfl, rfl⟩ | ⟨rfl, rfl⟩
    · intro y hy; simp at hy; rcases hy with rfl | rfl <;> rfl
    · intro y hy; simp at hy; subst hy; rfl
    · intro y hy; cases hy
  · rcases h with ⟨rfl, rfl⟩ | ⟨rfl, rfl⟩ | ⟨rfl, rfl⟩ <;> decide
  · rcases h with ⟨rfl, rfl⟩ | ⟨rfl, rfl⟩ | ⟨rfl, rfl⟩
    · have hi2 : i < 2 := hi
      rcases (by omega : i = 0 ∨ i = 1) with rfl | rfl
      · exact absurd rfl (hf [2, 1] (by simp))
      · exact absurd rfl (hf [1, 2] (by simp))
    · have hi2 : i < 1 := hi
      obtain rfl : i = 0 := by omega
      exact .inr (.inr ⟨rfl, rfl⟩)
    · exact absurd hi (by simp)
  · rcases h with ⟨rfl, rfl⟩ | ⟨rfl, rfl⟩ | ⟨rfl, rfl⟩
    · exact .inr (.inl ⟨rfl, rfl⟩)
    · obtain ⟨y, hy, e⟩ := hf [2, 9] (by simp)
      simp at hy; subst hy
      exact absurd e (by decide)
    · exact absurd h0 (by simp)

abbrev mvT : Ty := .arr 2 (.int .i64)
theorem law4 {x1 : LL} {x2 : Int} {k : Bool → Prop} (hg : Go.Abs.Good (.sl mvT) x1) (_ : Go.Abs.Good (.int .i64) x2) (h : k true) : c4 x1 x2 k := by
  constructor
  unfold tc4
  have hmin : minI ((x1.length : Nat) : Int) 40 = ((min x1.length 40 : Nat) : Int) := by unfold minI; split <;> omega
  rw [hmin, Int.toNat_natCast, List.drop_zero]
  refine brD (by omega) ?_
  generalize hl0 : x1.take (min x1.length 40) = l
  have hl : l.length ≤ 40 := by rw [← hl0, List.length_take]; omega
  have hp : Prs l := fun y hy => by
    rw [← hl0] at hy
    have h1 : Go.Abs.Good mvT y := hg.2 y (List.mem_of_mem_take hy)
    exact h1.1
  have hz : ∀ i, i < 2 → chk [[1, 2], [2, 1]] 9 i = 0 := fun i hi => by
    rcases (by omega : i = 0 ∨ i = 1) with rfl | rfl <;> decide
  refine c20_ok (l := [[1, 2], [2, 1]]) (by decide) (fun y hy => ?_) (fun i hi _ hb => absurd (hz i hi) hb) fun _ => ⟨IvC, keepsC, .inl ⟨by decide, rfl⟩, fun out ho => ?_⟩
  · simp at hy; rcases hy with rfl | rfl <;> rfl
  have ho : out = [[9, 1], [1, 2], [2, 9]] := by
    rcases ho with ⟨e, _⟩ | ⟨e, _⟩ | ⟨_, e⟩
    · cases e
    · cases e
    · exact e
  subst ho
  refine brF (by decide) (brF (by decide) (brD (by decide) (needS rfl (brF (by decide) (brD (by decide) (needS rfl (brF (by decide) (brD (by decide) (needS rfl (brF (by decide) ?_))))))))))
  refine c20_ok (by omega) hp (fun i hi hlt hb => ?_) fun hz => ?_
  · refine l4r8_ok (by omega) hp (fun i2 hi2 hlt2 hb2 => ?_) fun hz => absurd (hz i hi) hb
    have : i2 = i := by
      by_cases e1 : i2 < i
      · exact absurd (hlt i2 e1) hb2
      · by_cases e2 : i < i2
        · exact absurd (hlt2 i e2) hb
        · omega
    subst this
    exact ⟨⟨rfl, rfl⟩, h⟩
  · obtain ⟨hsp, hst⟩ := inv_start (by omega) hp hz
    refine ⟨InvB l x2, keeps hsp, hst, fun out ho => ?_⟩
    obtain ⟨hI, hb⟩ := ho
    have hb : out.length ≤ 80 := by simpa using hb
    have hx : ∀ x ∈ l, ex out (dd x) = ss x := fun x hx => by
      rcases hI.pend x hx with ⟨y, hy, _⟩ | ⟨e, _⟩
      · cases hy
      · exact e
    refine l4r8_ok (by omega) hp (fun i hi _ hb2 => absurd (hz i hi) hb2) fun _ => l4r24_ok hI.prO (by omega) fun ns vs r1 b1 => l4r31_ok hp (by omega) (by omega) r1 hx fun ns vs r2 b2 => l4r38_ok (by simp; omega) b2 r2 (fun v hv hno => hI.oth v hv fun x hx e => hno (List.mem_map.2 ⟨x, hx, e⟩)) ?_
    exact h
end Go.Proofs.Ytfdoaacapkopmaa
