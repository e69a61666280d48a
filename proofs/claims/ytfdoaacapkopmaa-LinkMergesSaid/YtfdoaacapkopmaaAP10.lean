/- The law of 'LinkMerges', in plain Lean: the reference and the law. -/
import Derived.Test.YtfdoaacapkopmaaAP10c
set_option linter.unusedVariables false
set_option linter.unusedSimpArgs false
namespace Go.Proofs.Ytfdoaacapkopmaa
open Go.Abs

theorem count_lt : ∀ (m : List Bool) (i : Nat), m[i]? = some true → (m.set i false).count true < m.count true
  | [], i, h => by simp at h
  | b :: m, 0, h => by simp at h; subst h; simp [List.count_cons]
  | b :: m, i + 1, h => by
    have := count_lt m i (by simpa using h)
    simp only [List.set_cons_succ, List.count_cons]; omega

theorem idx_inj {n a b i j : Nat} (hb : b < n) (hj : j < n) (h : a * n + b = i * n + j) : a = i ∧ b = j := by
  have hn : 0 < n := by omega
  have h1 : (b + a * n) / n = a := by rw [Nat.add_mul_div_right _ _ hn, Nat.div_eq_of_lt hb]; omega
  have h2 : (j + i * n) / n = i := by rw [Nat.add_mul_div_right _ _ hn, Nat.div_eq_of_lt hj]; omega
  have h3 : b + a * n = j + i * n := by omega
  rw [h3, h2] at h1
  subst h1
  exact ⟨rfl, by omega⟩

/-- a state of the reference's pairs -/
structure IV (x : List LF) (cls : List Int) (m0 m : List Bool) (ch : Bool) : Prop where
  len : m.length = x.length * x.length
  up : ∀ i j, i < x.length → j < x.length → RC cls i j → RM x.length m i j
  no : ch = false → m = m0
  yes : ch = true → m.count true < m0.count true
def Done (x : List LF) (m0 : List Bool) (ch : Bool) (i j : Nat) : Prop :=
  ch = false → ∀ a b, (a < i ∨ (a = i ∧ b < j)) → RM x.length m0 a b → S (RM x.length m0) (F x a) (F x b)

theorem l57r15_ok {x : List LF} {cls : List Int} {m0 m : List Bool} {ch : Bool} {i : Nat} {k : List LF → Int → Bool → Int → Int → List Bool → Prop} (hx : Inp x) (hc : Fin' x cls) (hi : i < x.length)
    (h1 : IV x cls m0 m ch) (h2 : Done x m0 ch i 0) (h : ∀ m ch, IV x cls m0 m ch → Done x m0 ch (i + 1) 0 → k x (x.length : Int) ch (x.length : Int) (i : Int) m) :
    l57r15 k x (x.length : Int) ch (i : Int) (x.length : Int) (i : Int) (x.length : Int) 0 m := by
  have hle := hx.le
  constructor
  intro I hI
  have key := upInd (N := x.length) (M := fun j => ∀ m ch, IV x cls m0 m ch → Done x m0 ch i j → I x (x.length : Int) ch (i : Int) (x.length : Int) (i : Int) (x.length : Int) (j : Int) m)
    (by
      intro m ch h1 h2
      apply hI
      refine brDn (by omega) (h m ch h1 fun e a b hab hR => h2 e a b ?_ hR)
      have := hR.2.1
      omega)
    (by
      intro j hj ih m ch h1 h2
      apply hI
      have hix := idx hi hj
      have hm := h1.len
      rw [idxI hle hi hj, wrapS (by omega), Int.toNat_natCast]
      have hgo : (ch = false → RM x.length m0 i j → S (RM x.length m0) (F x i) (F x j)) → I x (x.length : Int) ch (i : Int) (x.length : Int) (i : Int) (x.length : Int) ((j + 1 : Nat) : Int) m := fun hh =>
        ih m ch h1 fun e a b hab hR => by
          by_cases e2 : a = i ∧ b = j
          · rw [e2.1, e2.2] at hR ⊢; exact hh e hR
          · exact h2 e a b (by omega) hR
      refine brD (by omega) (brD (by omega) (needNth (by omega) (brB (fun e1 => needAt hi (needAt hj ?_)) fun e1 => hgo fun e hR => ?_)))
      · have hci := hx.calls i hi
        have hcj := hx.calls j hj
        refine c121_ok hle hm (hx.lens _ (List.getElem_mem hi)) hci hcj (fun hs => brF rfl (hgo fun e hR => ?_)) fun hs => brT rfl (brD (by omega) (needNth (by omega) (ih _ true ⟨by simp [hm], fun a b ha hb hab => ?_, fun e => (by cases e), fun _ => ?_⟩ fun e => (by cases e))))
        · rw [← h1.no e, F_eq hi, F_eq hj]; exact hs
        · have hr := h1.up a b ha hb hab
          refine ⟨ha, hb, ?_⟩
          by_cases e2 : a * x.length + b = i * x.length + j
          · obtain ⟨rfl, rfl⟩ := idx_inj hb hj e2
            refine absurd ?_ hs
            have hp := hc.post a b ha hb hab
            rw [F_eq ha, F_eq hb] at hp
            refine S_mono (fun t q1 q2 hh => ?_) hp
            have := hci t q1 (Nat.zero_le _)
            have := hcj t q2 (Nat.zero_le _)
            exact h1.up _ _ (by omega) (by omega) hh
          · rw [List.getElem?_set_ne (by omega)]; exact hr.2.2
        · have hlt := count_lt m (i * x.length + j) (by rw [List.getElem?_eq_getElem (by omega), e1])
          cases hch : ch with
          | false => rw [← h1.no hch]; exact hlt
          | true => exact Nat.lt_trans hlt (h1.yes hch)
      · rw [← h1.no e] at hR
        have := hR.2.2
        rw [List.getElem?_eq_getElem (by omega), e1] at this
        cases this)
    0 (Nat.zero_le _)
  exact key m ch h1 h2

theorem l57r12_ok {x : List LF} {cls : List Int} {m0 : List Bool} {k : List LF → Int → Bool → List Bool → Prop} (hx : Inp x) (hc : Fin' x cls)
    (h1 : IV x cls m0 m0 false) (h : ∀ m ch, IV x cls m0 m ch → Done x m0 ch x.length 0 → k x (x.length : Int) ch m) :
    l57r12 k x (x.length : Int) false (x.length : Int) 0 m0 := by
  have hle := hx.le
  constructor
  intro I hI
  have key := upInd (N := x.length) (M := fun i => ∀ m ch, IV x cls m0 m ch → Done x m0 ch i 0 → I x (x.length : Int) ch (x.length : Int) (i : Int) m)
    (by
      intro m ch h1 h2
      apply hI
      exact brDn (by omega) (h m ch h1 h2))
    (by
      intro i hi ih m ch h1 h2
      apply hI
      refine brD (by omega) (l57r15_ok hx hc hi h1 h2 fun m ch h3 h4 => ?_)
      rw [wrapS (by omega)]
      exact ih m ch h3 h4)
    0 (Nat.zero_le _)
  exact key m0 false h1 fun _ a b hab => by omega

theorem l57r9_ok {x : List LF} {cls : List Int} {m0 : List Bool} {k : Int → List Bool → Prop} (hx : Inp x) (hc : Fin' x cls)
    (h1 : IV x cls m0 m0 false) (h : ∀ m, IV x cls m m false → Post x (RM x.length m) → k (x.length : Int) m) : l57r9 k x (x.length : Int) true m0 := by
  constructor
  intro I hI
  have key : ∀ c : Nat, ∀ m, IV x cls m m false → m.count true ≤ c → I x (x.length : Int) true m := by
    intro c
    induction c with
    | zero =>
      intro m h1 hle
      apply hI
      refine brT rfl (l57r12_ok hx hc h1 fun m2 ch h2 h3 => ?_)
      cases hch : ch with
      | true => have := h2.yes hch; omega
      | false =>
        have := h2.no hch
        subst this
        apply hI
        refine brF rfl (h m2 h1 fun i j hij => ⟨hij.1, hij.2.1, h3 hch i j (.inl hij.1) hij⟩)
    | succ c ih =>
      intro m h1 hle
      apply hI
      refine brT rfl (l57r12_ok hx hc h1 fun m2 ch h2 h3 => ?_)
      cases hch : ch with
      | true =>
        have := h2.yes hch
        exact ih m2 ⟨h2.len, h2.up, fun _ => rfl, fun e => (by cases e)⟩ (by omega)
      | false =>
        have := h2.no hch
        subst this
        apply hI
        refine brF rfl (h m2 h1 fun i j hij => ⟨hij.1, hij.2.1, h3 hch i j (.inl hij.1) hij⟩)
  exact key _ m0 h1 (Nat.le_refl _)

theorem l57r26_ok {x : List LF} {cls out : List Int} {m : List Bool} {i v : Nat} {k : Int → Int → Int → Int → List Bool → List Int → Prop} (hx : Inp x) (hi : i < x.length)
    (h1 : IV x cls m m false) (hv : Lst (RM x.length m) i v) (h : k (x.length : Int) (v : Int) (x.length : Int) (i : Int) m out) : l57r26 k (x.length : Int) (i : Int) 0 (x.length : Int) (i : Int) m out := by
  have hle := hx.le
  obtain ⟨g1, g2, g3⟩ := hv
  have hm := h1.len
  constructor
  intro I hI
  exact upInd (N := v) (M := fun t => I (x.length : Int) (i : Int) (t : Int) (x.length : Int) (i : Int) m out)
    (by
      apply hI
      have hix := idx hi (j := v) (by omega)
      rw [idxI hle hi (by omega), Int.toNat_natCast]
      exact brD (by omega) (needS g2.2.2 (brF rfl h)))
    (by
      intro t ht ih
      apply hI
      have hix := idx hi (j := t) (by omega)
      rw [idxI hle hi (by omega), Int.toNat_natCast, wrapS (by omega)]
      refine brD (by omega) (needNth (by omega) (brB (fun _ => ih) fun e => absurd ?_ (g3 t ht)))
      refine ⟨hi, by omega, ?_⟩
      rw [List.getElem?_eq_getElem (by omega)]
      exact congrArg some (by simpa using e))
    0 (Nat.zero_le _)

theorem l57r23_ok {x : List LF} {cls : List Int} {m : List Bool} {k : List Int → Prop} (hx : Inp x) (hc : Fin' x cls) (h1 : IV x cls m m false) (hp : Post x (RM x.length m)) (h : k cls) :
    l57r23 k (x.length : Int) (x.length : Int) 0 m [] := by
  have hle := hx.le
  have hl := hc.len
  constructor
  intro I hI
  have key := upInd (N := x.length) (M := fun i => I (x.length : Int) (x.length : Int) (i : Int) m (cls.take i))
    (by
      apply hI
      refine brDn (by omega) ?_
      rw [← hl, List.take_length]; exact h)
    (by
      intro i hi ih
      apply hI
      obtain ⟨v, hv, g1, g2, g3⟩ := hc.right i hi
      refine brD (by omega) (l57r26_ok hx hi h1 (v := v) ⟨g1, h1.up i v hi (by omega) g2, fun j hj hR => g3 j hj (hc.top _ hp i j hR)⟩ ?_)
      refine brT (roomS (by simp; omega)) ?_
      rw [wrapS (by omega)]
      rw [List.take_add_one, hv] at ih
      exact ih)
    0 (Nat.zero_le _)
  exact key

theorem l57r4_ok {x : List LF} {n : Int} {N : Nat} {m : List Bool} {k : List LF → Int → List Bool → Prop} (hN : N ≤ 1000) (hm : m.length = N) (h : ∀ m : List Bool, m.length = N → (∀ t, t < N → m[t]? = some true) → k x n m) :
    l57r4 k x n (N : Int) 0 m := by
  constructor
  intro I hI
  have key := upInd (N := N) (M := fun i => ∀ m : List Bool, m.length = N → (∀ t, t < i → m[t]? = some true) → I x n (N : Int) (i : Int) m)
    (by
      intro m h1 h2
      apply hI
      exact brDn (by omega) (h m h1 h2))
    (by
      intro i hi ih m h1 h2
      apply hI
      rw [wrapS (by omega), Int.toNat_natCast]
      refine brD (by omega) (brD (by omega) (needNth (by omega) (ih _ (by simp [h1]) fun t ht => ?_)))
      by_cases e : t = i
      · subst e; rw [List.getElem?_set_self (by omega)]
      · rw [List.getElem?_set_ne (by omega)]; exact h2 t (by omega))
    0 (Nat.zero_le _)
  exact key m hm fun t ht => absurd ht (by omega)

theorem c57_ok {x : List LF} {cls : List Int} {k : List Int → Prop} (hx : Inp x) (hc : Fin' x cls) (h : k cls) : c57 x k := by
  have hle := hx.le
  have h2 : x.length * x.length ≤ 12 * 12 := Nat.mul_le_mul hle hle
  have h3 : IntKind.wrap .i64 (((x.length : Nat) : Int) * ((x.length : Nat) : Int)) = ((x.length * x.length : Nat) : Int) := by
    have e : ((x.length : Nat) : Int) * ((x.length : Nat) : Int) = ((x.length * x.length : Nat) : Int) := by simp
    rw [e, wrap64 (by omega) (by omega)]
  constructor
  unfold tc57
  rw [h3, Int.toNat_natCast, List.length_replicate]
  refine brD (by omega) (l57r4_ok (by omega) (by simp) fun m g1 g2 => l57r9_ok (m0 := m) hx hc ⟨g1, fun i j hi hj _ => ⟨hi, hj, g2 _ (idx hi hj)⟩, fun _ => rfl, fun e => (by cases e)⟩ fun m h4 h5 => l57r23_ok hx hc h4 h5 h)

def fact : List LF := [(0, [((22, 0, 0, 0, 0, ()), (-1), ())], [], [], 1, ()), (0, [((22, 0, 0, 0, 0, ()), (-1), ())], [], [], 1, ())]
theorem c50_fact {k : Int → Prop} (h : k 0) : c50 [((22, 0, 0, 0, 0, ()), (-1), ())] k := by
  constructor
  refine brF (by decide) ?_
  constructor
  intro I hI
  apply hI
  refine brT (by decide) (needS rfl (brF (by decide) (c25_ok (brF (by decide) (brF (by decide) (brF (by decide) (brF (by decide) ?_)))))))
  apply hI
  exact brF (by decide) h
theorem c120_fact {k : Int → Prop} (h : k 0) : c120 (0, [((22, 0, 0, 0, 0, ()), (-1), ())], [], [], 1, ()) 2 k := by
  constructor
  constructor
  intro I hI
  apply hI
  refine brT (by decide) (needS rfl (brF (by decide) ?_))
  apply hI
  refine brF (by decide) ?_
  clear hI I
  constructor
  intro I hI
  apply hI
  refine brF (by decide) ?_
  clear hI I
  constructor
  intro I hI
  apply hI
  exact brF (by decide) h
theorem c56_fact {k : Int → Prop} (h : k 0) : c56 fact k := by
  constructor
  refine brF (by decide) ?_
  constructor
  intro I hI
  apply hI
  refine brT (by decide) (needS rfl (c50_fact (brF (by decide) (brF (by decide) (brF (by decide) (brF (by decide) (c120_fact (brF (by decide) ?_))))))))
  apply hI
  refine brT (by decide) (needS rfl (c50_fact (brF (by decide) (brF (by decide) (brF (by decide) (brF (by decide) (c120_fact (brF (by decide) ?_))))))))
  apply hI
  exact brF (by decide) h
theorem F_fact (i : Nat) (hi : i < 2) : F fact i = (0, [((22, 0, 0, 0, 0, ()), (-1), ())], [], [], 1, ()) := by
  rcases (by omega : i = 0 ∨ i = 1) with rfl | rfl <;> rfl
theorem c54_ok {k : Bool → Prop} (h : k true) : c54 k := by
  constructor
  refine c55_ok (x := fact) (e := 0) (by decide) (fun f hf => ?_) (fun _ j hj i hi => ?_) (fun k => c56_fact) (fun e => absurd rfl e) fun _ cls hc => ?_
  · have : f = (0, [((22, 0, 0, 0, 0, ()), (-1), ())], [], [], 1, ()) := by
      simp [fact] at hf; exact hf
    subst this
    exact ⟨by decide, by decide, by decide, fun m hm => by cases hm⟩
  · have h2 : j < 2 := hj
    rcases (by omega : j = 0 ∨ j = 1) with rfl | rfl <;> exact absurd hi (by simp [fact])
  · have hl := hc.len
    have hR : RC cls 0 1 := by
      refine hc.top (fun i j => i < 2 ∧ j < 2) (fun i j hij => ⟨hij.1, hij.2, ?_⟩) 0 1 (by omega)
      rw [F_fact i hij.1, F_fact j hij.2]
      exact ⟨rfl, rfl, rfl, rfl, fun i h1 => absurd h1 (by simp)⟩
    obtain ⟨v, hv, h1, _⟩ := hc.right 0 (by decide)
    have hv0 : v = 0 := by omega
    subst hv0
    have hcls : cls = [0, 0] := by
      have h2 : cls.length = 2 := hl
      match cls, h2 with
      | [a, b], _ =>
        have e1 : a = 0 := by simpa using hv
        have e2 : a = b := by simpa [RC] using hR
        subst e2; subst e1; rfl
    subst hcls
    exact brT rfl (c32_ok (by decide) (fun _ => h) fun e => absurd rfl e)

abbrev itT : Ty := .pair opT (.pair (.int .i64) .unit)
abbrev clT : Ty := .pair (.int .i64) (.pair (.int .i64) .unit)
abbrev mpT : Ty := .pair (.int .i64) (.pair .bool (.pair (.sl (.int .i64)) (.pair (.int .i64) .unit)))
abbrev lfT : Ty := .pair (.int .i64) (.pair (.sl itT) (.pair (.sl clT) (.pair (.sl mpT) (.pair (.int .i64) .unit))))
theorem good_lens {x : List LF} (h : Go.Abs.Good (.sl lfT) x) : ∀ f ∈ x, Lens f := fun f hf => by
  have h1 : Go.Abs.Good lfT f := h.2 f hf
  obtain ⟨_, h2, h3, h4, _⟩ := h1
  exact ⟨h2.1, h3.1, h4.1, fun m hm => (show Go.Abs.Good mpT m from h4.2 m hm).2.2.1.1⟩

theorem law10 {x1 : List LF} {k : Bool → Prop} (hg : Go.Abs.Good (.sl lfT) x1) (h : k true) : c10 x1 k := by
  constructor
  unfold tc10
  refine c54_ok (brF rfl ?_)
  have hmin : minI ((x1.length : Nat) : Int) 12 = ((min x1.length 12 : Nat) : Int) := by unfold minI; split <;> omega
  rw [hmin, Int.toNat_natCast, List.drop_zero]
  refine brD (by omega) ?_
  generalize hl0 : x1.take (min x1.length 12) = l
  have hl : l.length ≤ 12 := by rw [← hl0, List.length_take]; omega
  have hlens : ∀ f ∈ l, Lens f := fun f hf => good_lens hg f (by rw [← hl0] at hf; exact List.mem_of_mem_take hf)
  obtain ⟨e, he, hk⟩ := ex_c56 hlens
  refine c55_ok hl hlens he hk (fun e1 => hk _ (brN (fun _ => brT (by simp) h) fun e2 => absurd e2 e1)) fun e0 cls hc => hk _ (brN (fun e1 => absurd e0 e1) fun _ => brT rfl (c57_ok ⟨hl, he e0, hlens⟩ hc (c32_ok (by rw [hc.len, hml]; omega) (fun _ => h) fun e => absurd rfl e)))
end Go.Proofs.Ytfdoaacapkopmaa
