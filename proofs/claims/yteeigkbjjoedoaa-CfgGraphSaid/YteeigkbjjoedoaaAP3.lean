/- Predecessors, reachable blocks and orders, as the program and the reference say it. -/
import Derived.Test.YteeigkbjjoedoaaAD3
import Derived.Test.YteeigkbjjoedoaaAPKit2
import Derived.Test.YteeigkbjjoedoaaARow1
import Derived.Test.YteeigkbjjoedoaaARow6
set_option linter.unusedVariables false
set_option linter.unusedSimpArgs false
namespace Go.Proofs.Yteeigkbjjoedoaa
open Go.Abs
theorem hml : maxLen = 9223372036854775807 := rfl
theorem allInd {N : Nat} {p : Nat → Prop} {M : Nat → Prop} (hN : (∀ i, i < N → p i) → M N)
    (hs : ∀ i, i < N → (∀ j, j < i → p j) → (p i → M (i + 1)) → M i) : M 0 := by
  have key := upInd (N := N) (M := fun i => (∀ j, j < i → p j) → M i) hN (fun i hi ih hp =>
    hs i hi hp (fun h => ih fun j hj => by
      by_cases e : j = i
      · subst e; exact h
      · exact hp j (by omega)))
  exact key 0 (Nat.zero_le _) fun j hj => absurd hj (by omega)
theorem dropInd {α : Type} {l : List α} {M : Nat → List α → Prop} (hN : M l.length [])
    (hs : ∀ i, (h : i < l.length) → M (i + 1) (l.drop (i + 1)) → M i (l[i] :: l.drop (i + 1))) : M 0 l := by
  have key := upInd (N := l.length) (M := fun i => M i (l.drop i)) (by rw [List.drop_length]; exact hN) (fun i hi ih => by rw [drop_cons hi]; exact hs i hi ih) 0 (Nat.zero_le _)
  rwa [List.drop_zero] at key
abbrev ED := Int × List Int × Unit
abbrev TM := Int × Int × Int × List Int × List ED × Unit
abbrev IN := Int × Int × Int × List Int × Unit
abbrev BK := List Int × List IN × TM × Unit
abbrev FU := Int × List BK × Unit
theorem c26_ok {a b c : Int} {k : Bool → Prop} (h : k (decide (b ≤ a ∧ a ≤ c))) : c26 a b c k := by
  constructor
  refine brP (fun e => ?_) fun e => ?_
  · rw [show decide (a ≤ c) = decide (b ≤ a ∧ a ≤ c) by simp only [decide_eq_decide]; omega]; exact h
  · rw [show decide (b ≤ a ∧ a ≤ c) = false by rw [decide_eq_false_iff_not]; omega] at h; exact h
theorem c21_ok {a b c : Int} {k : Bool → Prop} (h : k (decide (b ≤ a ∧ a ≤ c))) : c21 a b c k := by
  constructor
  refine brP (fun e => ?_) fun e => ?_
  · rw [show decide (a ≤ c) = decide (b ≤ a ∧ a ≤ c) by simp only [decide_eq_decide]; omega]; exact h
  · rw [show decide (b ≤ a ∧ a ≤ c) = false by rw [decide_eq_false_iff_not]; omega] at h; exact h
theorem c26_if {a b c : Int} {k : Bool → Prop} (h1 : b ≤ a ∧ a ≤ c → k true) (h2 : ¬ (b ≤ a ∧ a ≤ c) → k false) : c26 a b c k := by
  refine c26_ok ?_
  by_cases e : b ≤ a ∧ a ≤ c
  · rw [decide_eq_true e]; exact h1 e
  · rw [decide_eq_false e]; exact h2 e
theorem c21_if {a b c : Int} {k : Bool → Prop} (h1 : b ≤ a ∧ a ≤ c → k true) (h2 : ¬ (b ≤ a ∧ a ≤ c) → k false) : c21 a b c k := by
  refine c21_ok ?_
  by_cases e : b ≤ a ∧ a ≤ c
  · rw [decide_eq_true e]; exact h1 e
  · rw [decide_eq_false e]; exact h2 e
theorem c59_if {a : Int} {k : Bool → Prop} (h1 : -1073741824 ≤ a ∧ a ≤ 1073741823 → k true) (h2 : ¬ (-1073741824 ≤ a ∧ a ≤ 1073741823) → k false) : c59 a k := ⟨c26_if h1 h2⟩
theorem c55_if {a : Int} {k : Bool → Prop} (h1 : -1073741824 ≤ a ∧ a ≤ 1073741823 → k true) (h2 : ¬ (-1073741824 ≤ a ∧ a ≤ 1073741823) → k false) : c55 a k := ⟨c21_if h1 h2⟩
theorem c34_ok {l : List Int} {v : Int} {k : Bool → Prop} (hl : l.length ≤ maxLen) (h1 : v ∈ l → k true) (h2 : v ∉ l → k false) : c34 l v k := by
  have hm := hml
  constructor
  constructor
  intro I hI
  refine allInd (N := l.length) (p := fun i => ∀ h : i < l.length, l[i] ≠ v) (M := fun i => I v l (l.length : Int) (i : Int)) (fun h => hI _ _ _ _ (brDn (by omega) (h2 fun hm => ?_))) fun i hi hlt ih => hI _ _ _ _ ?_
  · obtain ⟨i, hi, e⟩ := List.mem_iff_getElem.1 hm
    exact h i hi hi e
  · rw [wrapS (by omega)]
    exact brD (by omega) (needAt hi (brE (fun e => h1 (e ▸ List.getElem_mem hi)) fun e => ih fun _ => e))
theorem c60_ok {l : List Int} {v : Int} {k : Bool → Prop} (hl : l.length ≤ maxLen) (h1 : v ∈ l → k true) (h2 : v ∉ l → k false) : c60 l v k := by
  have hm := hml
  constructor
  constructor
  constructor
  intro I hI
  refine allInd (N := l.length) (p := fun i => ∀ h : i < l.length, l[i] ≠ v) (M := fun i => I l v (l.length : Int) (i : Int)) (fun h => hI _ _ _ _ (brDn (by omega) ?_)) fun i hi hlt ih => hI _ _ _ _ ?_
  · exact h2 fun hm => by
      obtain ⟨i, hi, e⟩ := List.mem_iff_getElem.1 hm
      exact h i hi hi e
  · rw [wrapS (by omega)]
    refine brD (by omega) (needAt hi (brE (fun e => ?_) fun e => ih fun _ w => e w.symm))
    have : decide ((i : Int) ≥ 0) = true := by rw [decide_eq_true_eq]; omega
    show k (decide ((i : Int) ≥ 0))
    rw [this]
    exact h1 (e ▸ List.getElem_mem hi)
def ar (x : IN) : Int :=
  if x.2.1 = 0 then 0
  else if x.2.1 = 10 ∨ x.2.1 = 11 ∨ x.2.1 = 12 ∨ x.2.1 = 15 ∨ x.2.1 = 17 ∨ x.2.1 = 24 then 1
  else if (1 ≤ x.2.1 ∧ x.2.1 ≤ 7) ∨ x.2.1 = 16 ∨ x.2.1 = 18 ∨ x.2.1 = 19 ∨ x.2.1 = 21 ∨ x.2.1 = 23 then 2
  else if x.2.1 = 20 then 3
  else if x.2.1 = 8 ∨ x.2.1 = 9 ∨ x.2.1 = 13 ∨ x.2.1 = 14 then -1
  else if x.2.1 = 22 ∧ x.2.2.1 = 2 then 2
  else if x.2.1 = 22 ∧ x.2.2.1 = 4 then 4 else -2
theorem c54_ok {x : IN} {k : Int → Prop} (h : k (ar x)) : c54 x k := by
  have go : ∀ v, ar x = v → k v := fun v e => e ▸ h
  constructor
  repeat (first | refine brE (fun e => go _ (by simp [ar, e])) fun _ => ?_ | (refine brE (fun e => ?_) fun _ => ?_; rotate_left))
  · exact go _ (by simp [ar, *]; omega)
  · rename_i e
    refine brE (fun e2 => go _ (by simp [ar, e, e2])) fun e2 => brE (fun e3 => go _ (by simp [ar, e, e3])) fun e3 => go _ (by simp [ar, e, e2, e3])
theorem c56_ok {x : IN} {k : Int → Bool → Prop} (h1 : ar x = -2 → ∀ z, k z false) (h2 : ar x ≠ -2 → k (ar x) true) : c56 x k := by
  have go : ∀ v, ar x = v → v ≠ -2 → k v true := fun v e w => e ▸ h2 (e ▸ w)
  constructor
  repeat (first | refine brE (fun e => go _ (by simp [ar, e]) (by decide)) fun _ => ?_ | (refine brE (fun e => ?_) fun _ => ?_; rotate_left))
  · exact h1 (by simp [ar, *]; omega) _
  · rename_i e
    refine brE (fun e2 => go _ (by simp [ar, e, e2]) (by omega)) fun e2 => ?_
    cases hb : (x.2.2.1 == 4) with
    | true =>
      have e3 : x.2.2.1 = 4 := by simpa using hb
      exact go _ (by simp [ar, e, e3]) (by omega)
    | false =>
      have e3 : x.2.2.1 ≠ 4 := by simpa using hb
      exact h1 (by simp [ar, e, e2, e3]) _
def numP (x : IN) : Prop :=
  (x.2.1 = 0 → -1073741824 ≤ x.2.2.1 ∧ x.2.2.1 ≤ 1073741823) ∧ (x.2.1 = 8 ∨ x.2.1 = 9 ∨ x.2.1 = 13 → 0 ≤ x.2.2.1 ∧ x.2.2.1 ≤ 255) ∧ (x.2.1 = 11 → 0 ≤ x.2.2.1 ∧ x.2.2.1 ≤ 15) ∧
  (x.2.1 = 23 → x.2.2.1 = 1 ∨ x.2.2.1 = 2 ∨ x.2.2.1 = 3) ∧ (x.2.1 = 24 → 0 ≤ x.2.2.1 ∧ x.2.2.1 ≤ 3) ∧
  (x.2.1 ≠ 0 ∧ x.2.1 ≠ 8 ∧ x.2.1 ≠ 9 ∧ x.2.1 ≠ 13 ∧ x.2.1 ≠ 11 ∧ x.2.1 ≠ 23 ∧ x.2.1 ≠ 24 ∧ x.2.1 ≠ 22 → x.2.2.1 = 0)
theorem beq_if {a b : Int} {k : Bool → Prop} (h1 : a = b → k true) (h2 : a ≠ b → k false) : k (a == b) := by
  by_cases e : a = b
  · rw [show (a == b) = true by simpa using e]; exact h1 e
  · rw [show (a == b) = false by simpa using e]; exact h2 e
theorem c57_ok {x : IN} {k : Bool → Prop} (h1 : numP x → k true) (h2 : ¬ numP x → k false) : c57 x k := by
  constructor
  refine brE (fun e => c59_if (fun q => h1 ?_) fun q => h2 ?_) fun e0 => ?_
  · unfold numP; omega
  · unfold numP; omega
  refine brE (fun e => c26_if (fun q => h1 ?_) fun q => h2 ?_) fun e1 => ?_
  · unfold numP; omega
  · unfold numP; omega
  refine brE (fun e => c26_if (fun q => h1 ?_) fun q => h2 ?_) fun e2 => ?_
  · unfold numP; omega
  · unfold numP; omega
  refine brE (fun e => c26_if (fun q => h1 ?_) fun q => h2 ?_) fun e3 => ?_
  · unfold numP; omega
  · unfold numP; omega
  refine brE (fun e => c26_if (fun q => h1 ?_) fun q => h2 ?_) fun e4 => ?_
  · unfold numP; omega
  · unfold numP; omega
  refine brE (fun e => ?_) fun e5 => ?_
  · refine brE (fun e2 => h1 ?_) fun e2 => brE (fun e3 => h1 ?_) fun e3 => beq_if (fun q => h1 ?_) fun q => h2 ?_
    all_goals (unfold numP; omega)
  refine brE (fun e => c26_if (fun q => h1 ?_) fun q => h2 ?_) fun e6 => ?_
  · unfold numP; omega
  · unfold numP; omega
  refine brE (fun e => h1 ?_) fun e7 => beq_if (fun q => h1 ?_) fun q => h2 ?_
  all_goals (unfold numP; omega)
def Lg (x : IN) : Prop := ((x.2.1 = 8 ∨ x.2.1 = 9) ∧ 16 < x.2.2.2.1.length) ∨ ((x.2.1 = 13 ∨ x.2.1 = 14) ∧ 6 < x.2.2.2.1.length)
def Bf (x : IN) : Prop := ar x = -2 ∨ (0 ≤ ar x ∧ (x.2.2.2.1.length : Int) ≠ ar x) ∨ (x.2.1 = 14 ∧ x.2.2.2.1.length = 0)
open Classical in
noncomputable def formE (x : IN) : Int := if Bf x then 3 else if Lg x then 2 else if numP x then 0 else 4
theorem j37s5_ok {k1 : Int → Prop} {k2 : Prop} {s : Bool} {x : IN} (h1 : s = true → k1 2) (h2 : s = false → ¬ numP x → k1 4) (h3 : s = false → numP x → k2) : j37s5 k1 k2 s x := by
  constructor
  exact brB h1 fun e => c57_ok (fun q => brF rfl (h3 e q)) fun q => brT rfl (h2 e q)
theorem j37s2_ok {k1 : Int → Prop} {k2 : Prop} {s : Bool} {x : IN} (h1 : s = true → k1 3) (h2 : s = false → Lg x → k1 2) (h3 : s = false → ¬ Lg x → ¬ numP x → k1 4) (h4 : s = false → ¬ Lg x → numP x → k2) : j37s2 k1 k2 s x := by
  constructor
  refine brB h1 fun hs => ?_
  have go : ∀ b : Bool, (b = true ↔ Lg x) → j37s5 k1 k2 b x := fun b hb => j37s5_ok (fun q => h2 hs (hb.1 q)) (fun q => h3 hs fun w => by rw [hb.2 w] at q; cases q) (fun q => h4 hs fun w => by rw [hb.2 w] at q; cases q)
  have no : ¬ Lg x → j37s5 k1 k2 false x := fun q => go false ⟨fun w => (by cases w), fun w => (q w).elim⟩
  have six : x.2.1 = 13 ∨ x.2.1 = 14 → j37s5 k1 k2 (decide (((x.2.2.2.1.length : Nat) : Int) > 6)) x := fun q => go _ (by rw [decide_eq_true_eq]; unfold Lg; omega)
  refine brE (fun e => brP (fun q => go true ⟨fun _ => ?_, fun _ => rfl⟩) fun q => brE (fun e1 => ?_) fun e1 => brE (fun e2 => ?_) fun e2 => no ?_) fun e => ?_
  · unfold Lg; omega
  · omega
  · omega
  · unfold Lg; omega
  refine brE (fun e => brP (fun q => go true ⟨fun _ => ?_, fun _ => rfl⟩) fun q => brE (fun e1 => ?_) fun e1 => brE (fun e2 => ?_) fun e2 => no ?_) fun e => ?_
  · unfold Lg; omega
  · omega
  · omega
  · unfold Lg; omega
  refine brE (fun e => six (.inl e)) fun e3 => brE (fun e => six (.inr e)) fun e4 => no ?_
  unfold Lg; omega
theorem c37_ok {x : IN} {k : Int → Prop} (h : k (formE x)) : c37 x k := by
  have go : ∀ v, formE x = v → k v := fun v e => e ▸ h
  have main : ∀ s : Bool, (s = true ↔ Bf x) → j37s2 k (j37r9 k) s x := fun s hs => j37s2_ok (fun q => go _ (if_pos (hs.1 q)))
    (fun q w => go _ ((if_neg fun w2 => by rw [hs.2 w2] at q; cases q).trans (if_pos w)))
    (fun q w w3 => go _ ((if_neg fun w2 => by rw [hs.2 w2] at q; cases q).trans ((if_neg w).trans (if_neg w3))))
    (fun q w w3 => ⟨go _ ((if_neg fun w2 => by rw [hs.2 w2] at q; cases q).trans ((if_neg w).trans (if_pos w3)))⟩)
  constructor
  refine c56_ok (fun e z => brT rfl (main true ⟨fun _ => .inl e, fun _ => rfl⟩)) fun e => brF rfl (brP (fun e1 => brN (fun e2 => main true ⟨fun _ => .inr (.inl ⟨e1, e2⟩), fun _ => rfl⟩) fun e2 => ?_) fun e1 => ?_)
  · refine brE (fun e3 => main _ ?_) fun e3 => main false ⟨fun w => (by cases w), fun w => ?_⟩
    · rw [beq_iff_eq]; unfold Bf; omega
    · unfold Bf at w; omega
  · refine brE (fun e3 => main _ ?_) fun e3 => main false ⟨fun w => (by cases w), fun w => ?_⟩
    · rw [beq_iff_eq]; unfold Bf; omega
    · unfold Bf at w; omega
theorem j32r6_ok {x : IN} {k : Int → Prop} (h1 : numP x → k 0) (h2 : ¬ numP x → k 4) : j32r6 k x := by
  constructor
  refine brE (fun e => c55_if (fun q => brF rfl (h1 ?_)) fun q => brT rfl (h2 ?_)) fun e0 => ?_
  · unfold numP; omega
  · unfold numP; omega
  refine brE (fun e => c21_if (fun q => brF rfl (h1 ?_)) fun q => brT rfl (h2 ?_)) fun e1 => ?_
  · unfold numP; omega
  · unfold numP; omega
  refine brE (fun e => c21_if (fun q => brF rfl (h1 ?_)) fun q => brT rfl (h2 ?_)) fun e2 => ?_
  · unfold numP; omega
  · unfold numP; omega
  refine brE (fun e => c21_if (fun q => brF rfl (h1 ?_)) fun q => brT rfl (h2 ?_)) fun e3 => ?_
  · unfold numP; omega
  · unfold numP; omega
  refine brE (fun e => c21_if (fun q => brF rfl (h1 ?_)) fun q => brT rfl (h2 ?_)) fun e4 => ?_
  · unfold numP; omega
  · unfold numP; omega
  refine brE (fun e => ?_) fun e5 => ?_
  · refine brE (fun e2 => h1 ?_) fun e2 => brE (fun e3 => h1 ?_) fun e3 => brN (fun q => h2 ?_) fun q => h1 ?_
    all_goals (unfold numP; omega)
  refine brE (fun e => c21_if (fun q => brF rfl (h1 ?_)) fun q => brT rfl (h2 ?_)) fun e6 => ?_
  · unfold numP; omega
  · unfold numP; omega
  refine brE (fun e => h1 ?_) fun e7 => brN (fun q => h2 ?_) fun q => h1 ?_
  all_goals (unfold numP; omega)
theorem j32r4_ok {x : IN} {k : Int → Prop} (h1 : Lg x → k 2) (h2 : ¬ Lg x → numP x → k 0) (h3 : ¬ Lg x → ¬ numP x → k 4) : j32r4 k x := by
  have go : ∀ b : Bool, (b = true ↔ Lg x) → j32s4 k (fun z => j32r6 k z) b x := fun b hb => ⟨brB (fun q => h1 (hb.1 q)) fun q => j32r6_ok (h2 fun w => by rw [hb.2 w] at q; cases q) (h3 fun w => by rw [hb.2 w] at q; cases q)⟩
  have no : ¬ Lg x → j32s4 k (fun z => j32r6 k z) false x := fun q => go false ⟨fun w => (by cases w), fun w => (q w).elim⟩
  have six : x.2.1 = 13 ∨ x.2.1 = 14 → j32s4 k (fun z => j32r6 k z) (decide (((x.2.2.2.1.length : Nat) : Int) > 6)) x := fun q => go _ (by rw [decide_eq_true_eq]; unfold Lg; omega)
  constructor
  refine brE (fun e => brP (fun q => go true ⟨fun _ => ?_, fun _ => rfl⟩) fun q => brE (fun e1 => ?_) fun e1 => brE (fun e2 => ?_) fun e2 => no ?_) fun e => ?_
  · unfold Lg; omega
  · omega
  · omega
  · unfold Lg; omega
  refine brE (fun e => brP (fun q => go true ⟨fun _ => ?_, fun _ => rfl⟩) fun q => brE (fun e1 => ?_) fun e1 => brE (fun e2 => ?_) fun e2 => no ?_) fun e => ?_
  · unfold Lg; omega
  · omega
  · omega
  · unfold Lg; omega
  refine brE (fun e => six (.inl e)) fun e3 => brE (fun e => six (.inr e)) fun e4 => no ?_
  unfold Lg; omega
theorem c32_ok {x : IN} {k : Int → Prop} (h : k (formE x)) : c32 x k := by
  have go : ∀ v, formE x = v → k v := fun v e => e ▸ h
  have yes : Bf x → k 3 := fun q => go _ (if_pos q)
  have no : ¬ Bf x → j32r4 k x := fun q => j32r4_ok (fun w => go _ ((if_neg q).trans (if_pos w))) (fun w w2 => go _ ((if_neg q).trans ((if_neg w).trans (if_pos w2)))) (fun w w2 => go _ ((if_neg q).trans ((if_neg w).trans (if_neg w2))))
  constructor
  refine c54_ok (brE (fun e => yes (.inl e)) fun e => brP (fun e1 => brN (fun e2 => yes (.inr (.inl ⟨e1, fun w => e2 w.symm⟩))) fun e2 => ?_) fun e1 => ?_)
  · refine brE (fun e3 => brP (fun e4 => yes ?_) fun e4 => no ?_) fun e3 => no ?_
    all_goals (unfold Bf; omega)
  · refine brE (fun e3 => brP (fun e4 => yes ?_) fun e4 => no ?_) fun e3 => no ?_
    all_goals (unfold Bf; omega)
def shpP (t : TM) : Prop :=
  (t.1 = 0 ∧ t.2.2.2.2.1.length = 0 ∧ t.2.2.1 = 0 ∧ t.2.2.2.1.length = 0) ∨ (t.1 = 1 ∧ t.2.2.2.2.1.length = 1 ∧ t.2.1 = 0 ∧ t.2.2.1 = 0 ∧ t.2.2.2.1.length = 0) ∨
  (t.1 = 2 ∧ t.2.2.2.2.1.length = 2 ∧ t.2.2.1 = 0 ∧ t.2.2.2.1.length = 0) ∨ (t.1 = 3 ∧ (t.2.2.2.2.1.length : Int) = IntKind.wrap .i64 ((t.2.2.2.1.length : Int) + 1) ∧ t.2.2.1 = 0) ∨
  (t.1 = 4 ∧ t.2.2.2.2.1.length = 0 ∧ t.2.1 = 0 ∧ t.2.2.2.1.length = 0)
theorem j58r14_ok {e : Int} {a n c : Bool} {t : TM} {k : Bool → Prop} (h1 : (t.2.2.2.2.1.length : Int) = e → (a = true ∨ t.2.1 = 0) → (n = true ∨ t.2.2.1 = 0) → (c = true ∨ t.2.2.2.1.length = 0) → k true)
    (h2 : ¬ ((t.2.2.2.2.1.length : Int) = e ∧ (a = true ∨ t.2.1 = 0) ∧ (n = true ∨ t.2.2.1 = 0) ∧ (c = true ∨ t.2.2.2.1.length = 0)) → k false) : j58r14 k e a n c t := by
  have hc : (t.2.2.2.2.1.length : Int) = e → (a = true ∨ t.2.1 = 0) → (n = true ∨ t.2.2.1 = 0) → br c (k true) (k (((t.2.2.2.1.length : Nat) : Int) == 0)) := fun e1 e2 e3 =>
    brB (fun q => h1 e1 e2 e3 (.inl q)) fun q => beq_if (fun w => h1 e1 e2 e3 (.inr (by omega))) fun w => h2 fun ⟨_, _, _, z⟩ => z.elim (fun z => by rw [q] at z; cases z) fun z => w (by omega)
  have hn : (t.2.2.2.2.1.length : Int) = e → (a = true ∨ t.2.1 = 0) → br n (br c (k true) (k (((t.2.2.2.1.length : Nat) : Int) == 0))) (br (t.2.2.1 == 0) (br c (k true) (k (((t.2.2.2.1.length : Nat) : Int) == 0))) (k false)) := fun e1 e2 =>
    brB (fun q => hc e1 e2 (.inl q)) fun q => brE (fun w => hc e1 e2 (.inr w)) fun w => h2 fun ⟨_, _, z, _⟩ => z.elim (fun z => by rw [q] at z; cases z) fun z => w z
  constructor
  refine brE (fun e1 => brB (fun q => hn e1 (.inl q)) fun q => brE (fun w => hn e1 (.inr w)) fun w => h2 ?_) fun e1 => h2 fun z => e1 z.1
  exact fun ⟨_, z, _⟩ => z.elim (fun z => by rw [q] at z; cases z) fun z => w z
theorem c58_ok {t : TM} {k : Bool → Prop} (h1 : shpP t → k true) (h2 : ¬ shpP t → k false) : c58 t k := by
  constructor
  refine brE (fun e => j58r14_ok (fun a b c d => h1 ?_) fun q => h2 fun w => q ?_) fun e0 => ?_
  · simp only [Bool.false_eq_true, false_or] at c d; unfold shpP; omega
  · simp only [Bool.false_eq_true, false_or, true_or, true_and]; unfold shpP at w; omega
  refine brE (fun e => j58r14_ok (fun a b c d => h1 ?_) fun q => h2 fun w => q ?_) fun e1 => ?_
  · simp only [Bool.false_eq_true, false_or] at b c d; unfold shpP; omega
  · simp only [Bool.false_eq_true, false_or, true_or, true_and]; unfold shpP at w; omega
  refine brE (fun e => j58r14_ok (fun a b c d => h1 ?_) fun q => h2 fun w => q ?_) fun e2 => ?_
  · simp only [Bool.false_eq_true, false_or] at c d; unfold shpP; omega
  · simp only [Bool.false_eq_true, false_or, true_or, true_and]; unfold shpP at w; omega
  refine brE (fun e => j58r14_ok (fun a b c d => h1 ?_) fun q => h2 fun w => q ?_) fun e3 => ?_
  · simp only [Bool.false_eq_true, false_or] at c; exact .inr (.inr (.inr (.inl ⟨e, a, c⟩)))
  · simp only [Bool.false_eq_true, false_or, true_or, true_and, and_true]; unfold shpP at w; omega
  refine brE (fun e => j58r14_ok (fun a b c d => h1 ?_) fun q => h2 fun w => q ?_) fun e4 => h2 fun w => ?_
  · simp only [Bool.false_eq_true, false_or] at b d; unfold shpP; omega
  · simp only [Bool.false_eq_true, false_or, true_or, true_and]; unfold shpP at w; omega
  · unfold shpP at w; omega
def casE : List Int → List Int → Int
  | _, [] => 0
  | q, c :: r => if ¬ (-1073741824 ≤ c ∧ c ≤ 1073741823) then 4 else if c ∈ q then 7 else casE (q ++ [c]) r
theorem take_snoc {α : Type} {l : List α} {i : Nat} (h : i < l.length) : l.take i ++ [l[i]] = l.take (i + 1) := (List.take_succ_eq_append_getElem h).symm
theorem l38r8_ok {f : FU} {t : TM} {k1 : Int → Prop} {k2 : FU → TM → Prop} (hl : t.2.2.2.1.length ≤ 256) (h1 : casE [] t.2.2.2.1 ≠ 0 → k1 (casE [] t.2.2.2.1)) (h2 : casE [] t.2.2.2.1 = 0 → k2 f t) : l38r8 k1 k2 t.2.2.2.1 (t.2.2.2.1.length : Int) 0 f t := by
  have hm := hml
  constructor
  intro I hI
  have key := dropInd (l := t.2.2.2.1) (M := fun i r => (casE (t.2.2.2.1.take i) r ≠ 0 → k1 (casE (t.2.2.2.1.take i) r)) → (casE (t.2.2.2.1.take i) r = 0 → k2 f t) → I t.2.2.2.1 (t.2.2.2.1.length : Int) (i : Int) f t)
    (fun _ h2 => hI _ _ _ _ _ (brDn (by omega) (h2 rfl)))
    (fun i hi ih h1 h2 => by
      apply hI
      rw [casE, take_snoc hi] at h1 h2
      rw [wrapS (by omega), Int.toNat_natCast]
      refine brD (by omega) (needAt hi (c59_if (fun e => brF rfl (brD (by omega) ?_)) fun e => brT rfl ?_))
      · rw [if_neg (fun w => w e)] at h1 h2
        rw [List.drop_zero]
        refine c60_ok (by rw [List.length_take]; omega) (fun q => brT rfl ?_) fun q => brF rfl ?_
        · rw [if_pos q] at h1; exact h1 (by decide)
        · rw [if_neg q] at h1 h2; exact ih h1 h2
      · rw [if_pos e] at h1; exact h1 (by decide))
  exact key h1 h2
theorem l33r11_ok {f : FU} {t : TM} {k1 : Int → Prop} {k2 : FU → TM → Prop} (hl : t.2.2.2.1.length ≤ 256) (h1 : casE [] t.2.2.2.1 ≠ 0 → k1 (casE [] t.2.2.2.1)) (h2 : casE [] t.2.2.2.1 = 0 → k2 f t) : l33r11 k1 k2 t.2.2.2.1 (t.2.2.2.1.length : Int) 0 f t := by
  have hm := hml
  constructor
  intro I hI
  have key := dropInd (l := t.2.2.2.1) (M := fun i r => (casE (t.2.2.2.1.take i) r ≠ 0 → k1 (casE (t.2.2.2.1.take i) r)) → (casE (t.2.2.2.1.take i) r = 0 → k2 f t) → I t.2.2.2.1 (t.2.2.2.1.length : Int) (i : Int) f t)
    (fun _ h2 => hI _ _ _ _ _ (brDn (by omega) (h2 rfl)))
    (fun i hi ih h1 h2 => by
      apply hI
      rw [casE, take_snoc hi] at h1 h2
      rw [wrapS (by omega), Int.toNat_natCast]
      refine brD (by omega) (needAt hi (c55_if (fun e => brF rfl (brD (by omega) ?_)) fun e => brT rfl ?_))
      · rw [if_neg (fun w => w e)] at h1 h2
        rw [List.drop_zero]
        refine c34_ok (by rw [List.length_take]; omega) (fun q => brT rfl ?_) fun q => brF rfl ?_
        · rw [if_pos q] at h1; exact h1 (by decide)
        · rw [if_neg q] at h1 h2; exact ih h1 h2
      · rw [if_pos e] at h1; exact h1 (by decide))
  exact key h1 h2
def parN (bs : List BK) (i : Nat) : Nat := match bs[i]? with | some b => b.1.length | none => 0
def edgE (bs : List BK) : List ED → Int
  | [] => 0
  | e :: r => if ¬ (1 ≤ e.1 ∧ e.1 ≤ (bs.length : Int) - 1) then 4 else if e.2.1.length ≠ parN bs e.1.toNat then 3 else edgE bs r
theorem parN_at {bs : List BK} {i : Nat} (h : i < bs.length) : parN bs i = bs[i].1.length := by unfold parN; rw [List.getElem?_eq_getElem h]
theorem edg_ok {f : FU} {A : Prop} {k : Int → Prop} {y : ED} {z : BK} (h0 : 0 ≤ y.1) (h : y.1.toNat < f.2.1.length) (hz : f.2.1[y.1.toNat] = z) (h1 : y.2.1.length ≠ z.1.length → k 3) (h2 : y.2.1.length = z.1.length → A) {s t : Ty} {u : s.T} {v : t.T} {t1 t2 t3 : Ty} {a1 : t1.T} {a2 : t2.T} {a3 : t3.T} {g : BK → Bool} (hg : g z = true) :
    (br (true && true) (br (eqT s u u) (br (true && true) (br (eqT t v v) (need False (at? f.2.1 y.1) fun y8 => br (g y8) (br (eqT t1 a1 a1) (br (eqT t2 a2 a2) (br (((y.2.1.length : Nat) : Int) != ((z.1.length : Nat) : Int)) (k 3) A) False) False) False) False) False) False) False) ∧
    (br (true && true) (br (eqT t3 a3 a3) (br (((y.2.1.length : Nat) : Int) != ((z.1.length : Nat) : Int)) (k 3) A) False) False) := by
  have fin : br (((y.2.1.length : Nat) : Int) != ((z.1.length : Nat) : Int)) (k 3) A := brN (fun e => h1 (by omega)) fun e => h2 (by omega)
  refine ⟨brT rfl (brT (eqT_self _ _) (brT rfl (brT (eqT_self _ _) (needAtI h0 h ?_)))), brT rfl (brT (eqT_self _ _) fin)⟩
  rw [hz]
  exact brT hg (brT (eqT_self _ _) (brT (eqT_self _ _) fin))
theorem l38r16_ok {f : FU} {l : List ED} {k1 : Int → Prop} {k2 : Prop} (hn : f.2.1.length ≤ 128) (hl : l.length ≤ maxLen) (h1 : edgE f.2.1 l ≠ 0 → k1 (edgE f.2.1 l)) (h2 : edgE f.2.1 l = 0 → k2) : l38r16 k1 k2 l (l.length : Int) 0 f := by
  have hm := hml
  constructor
  intro I hI
  have key := dropInd (l := l) (M := fun i r => (edgE f.2.1 r ≠ 0 → k1 (edgE f.2.1 r)) → (edgE f.2.1 r = 0 → k2) → I l (l.length : Int) (i : Int) f)
    (fun _ h2 => hI _ _ _ _ (brDn (by omega) (h2 rfl)))
    (fun i hi ih h1 h2 => by
      apply hI
      rw [edgE] at h1 h2
      rw [wrapS (n := i) (by omega), wrap64 (a := ((f.2.1.length : Nat) : Int) - 1) (by omega) (by omega)]
      refine brD (by omega) (needAt hi (c26_if (fun e => brF rfl ?_) fun e => brT rfl ?_))
      · rw [if_neg (fun w => w e)] at h1 h2
        have hb : l[i].1.toNat < f.2.1.length := by omega
        refine needAtI (by omega) hb ?_
        rw [parN_at hb] at h1 h2
        refine edg_ok (by omega) hb rfl (fun q => ?_) (fun q => ?_) (eqT_self _ _)
        · rw [if_pos q] at h1; exact h1 (by decide)
        · rw [if_neg (fun w => w q)] at h1 h2; exact ih h1 h2
      · rw [if_pos e] at h1; exact h1 (by decide))
  exact key h1 h2
theorem l33r19_ok {f : FU} {l : List ED} {k1 : Int → Prop} {k2 : Prop} (hn : f.2.1.length ≤ 128) (hl : l.length ≤ maxLen) (h1 : edgE f.2.1 l ≠ 0 → k1 (edgE f.2.1 l)) (h2 : edgE f.2.1 l = 0 → k2) : l33r19 k1 k2 l (l.length : Int) 0 f := by
  have hm := hml
  constructor
  intro I hI
  have key := dropInd (l := l) (M := fun i r => (edgE f.2.1 r ≠ 0 → k1 (edgE f.2.1 r)) → (edgE f.2.1 r = 0 → k2) → I l (l.length : Int) (i : Int) f)
    (fun _ h2 => hI _ _ _ _ (brDn (by omega) (h2 rfl)))
    (fun i hi ih h1 h2 => by
      apply hI
      rw [edgE] at h1 h2
      rw [wrapS (n := i) (by omega), wrap64 (a := ((f.2.1.length : Nat) : Int) - 1) (by omega) (by omega)]
      refine brD (by omega) (needAt hi (c21_if (fun e => brF rfl ?_) fun e => brT rfl ?_))
      · rw [if_neg (fun w => w e)] at h1 h2
        have hb : l[i].1.toNat < f.2.1.length := by omega
        refine needAtI (by omega) hb ?_
        rw [parN_at hb] at h1 h2
        refine edg_ok (by omega) hb rfl (fun q => ?_) (fun q => ?_) (eqT_self _ _)
        · rw [if_pos q] at h1; exact h1 (by decide)
        · rw [if_neg (fun w => w q)] at h1 h2; exact ih h1 h2
      · rw [if_pos e] at h1; exact h1 (by decide))
  exact key h1 h2
open Classical in
noncomputable def endE (f : FU) (t : TM) : Int :=
  if ¬ shpP t then 3 else if 256 < t.2.2.2.1.length then 2 else if t.1 = 4 ∧ ¬ (1 ≤ t.2.2.1 ∧ t.2.2.1 ≤ 6) then 4 else if casE [] t.2.2.2.1 ≠ 0 then casE [] t.2.2.2.1 else edgE f.2.1 t.2.2.2.2.1
theorem c38_ok {f : FU} {t : TM} {k : Int → Prop} (hn : f.2.1.length ≤ 128) (hT : t.2.2.2.2.1.length ≤ maxLen) (h : k (endE f t)) : c38 f t k := by
  constructor
  refine c58_ok (fun e => brF rfl (brP (fun e2 => ?_) fun e2 => ?_)) fun e => brT rfl ?_
  · rw [endE, if_neg (fun w => w e), if_pos (by omega)] at h; exact h
  · rw [endE, if_neg (fun w => w e), if_neg (by omega)] at h
    have hl : t.2.2.2.1.length ≤ 256 := by omega
    refine brE (fun e3 => c26_if (fun e4 => brF rfl ?_) fun e4 => brT rfl ?_) fun e3 => ?_
    · rw [if_neg (by omega)] at h
      refine l38r8_ok hl (fun q => ?_) fun q => l38r16_ok hn hT (fun w => ?_) fun w => ?_
      · rw [if_pos q] at h; exact h
      · rw [if_neg (fun w => w q)] at h; exact h
      · rw [if_neg (fun w => w q), w] at h; exact h
    · rw [if_pos ⟨e3, e4⟩] at h; exact h
    · rw [if_neg (by omega)] at h
      refine l38r8_ok hl (fun q => ?_) fun q => l38r16_ok hn hT (fun w => ?_) fun w => ?_
      · rw [if_pos q] at h; exact h
      · rw [if_neg (fun w => w q)] at h; exact h
      · rw [if_neg (fun w => w q), w] at h; exact h
  · rw [endE, if_pos e] at h; exact h
theorem j33r6_ok {f : FU} {t : TM} {k : Int → Prop} (hn : f.2.1.length ≤ 128) (hT : t.2.2.2.2.1.length ≤ maxLen) (e : shpP t) (h : k (endE f t)) : j33r6 k f t := by
  rw [endE, if_neg (fun w => w e)] at h
  constructor
  refine brP (fun e2 => ?_) fun e2 => ?_
  · rw [if_pos (by omega)] at h; exact h
  · rw [if_neg (by omega)] at h
    have hl : t.2.2.2.1.length ≤ 256 := by omega
    refine brE (fun e3 => c21_if (fun e4 => brF rfl ?_) fun e4 => brT rfl ?_) fun e3 => ?_
    · rw [if_neg (by omega)] at h
      refine l33r11_ok hl (fun q => ?_) fun q => l33r19_ok hn hT (fun w => ?_) fun w => ?_
      · rw [if_pos q] at h; exact h
      · rw [if_neg (fun w => w q)] at h; exact h
      · rw [if_neg (fun w => w q), w] at h; exact h
    · rw [if_pos ⟨e3, e4⟩] at h; exact h
    · rw [if_neg (by omega)] at h
      refine l33r11_ok hl (fun q => ?_) fun q => l33r19_ok hn hT (fun w => ?_) fun w => ?_
      · rw [if_pos q] at h; exact h
      · rw [if_neg (fun w => w q)] at h; exact h
      · rw [if_neg (fun w => w q), w] at h; exact h
set_option maxHeartbeats 4000000 in
theorem c33_ok {f : FU} {t : TM} {k : Int → Prop} (hn : f.2.1.length ≤ 128) (hT : t.2.2.2.2.1.length ≤ maxLen) (h : k (endE f t)) : c33 f t k := by
  have h3 : ¬ shpP t → k 3 := fun q => by rw [endE, if_pos q] at h; exact h
  have hr : shpP t → j33r6 k f t := fun q => j33r6_ok hn hT q h
  have hJ : ∀ b : Bool, (b = true ↔ ¬ shpP t) → j33s4 k (fun z6 z7 => j33r6 k z6 z7) b f t := fun b hb => ⟨brB (fun q => h3 (hb.1 q)) fun q => hr (Classical.byContradiction fun w => by rw [hb.2 w] at q; cases q)⟩
  constructor
  refine c21_if (fun e => brF rfl (brD (by omega) ?_)) fun e => brT rfl (h3 fun w => e (by unfold shpP at w; omega))
  have main : ∀ v : Int, (t.1 = 0 ∧ v = 0) ∨ (t.1 = 1 ∧ v = 1) ∨ (t.1 = 2 ∧ v = 2) ∨ (t.1 = 3 ∧ v = IntKind.wrap .i64 ((t.2.2.2.1.length : Int) + 1)) ∨ (t.1 = 4 ∧ v = 0) →
      ([0, 1, 2, IntKind.wrap .i64 ((t.2.2.2.1.length : Int) + 1), 0] : List Int)[t.1.toNat]? = some v := by
    rintro v (⟨a, b⟩ | ⟨a, b⟩ | ⟨a, b⟩ | ⟨a, b⟩ | ⟨a, b⟩) <;> rw [a, b] <;> rfl
  obtain ⟨v, hv⟩ : ∃ v : Int, (t.1 = 0 ∧ v = 0) ∨ (t.1 = 1 ∧ v = 1) ∨ (t.1 = 2 ∧ v = 2) ∨ (t.1 = 3 ∧ v = IntKind.wrap .i64 ((t.2.2.2.1.length : Int) + 1)) ∨ (t.1 = 4 ∧ v = 0) := by
    have : t.1 = 0 ∨ t.1 = 1 ∨ t.1 = 2 ∨ t.1 = 3 ∨ t.1 = 4 := by omega
    rcases this with a | a | a | a | a
    · exact ⟨0, .inl ⟨a, rfl⟩⟩
    · exact ⟨1, .inr (.inl ⟨a, rfl⟩)⟩
    · exact ⟨2, .inr (.inr (.inl ⟨a, rfl⟩))⟩
    · exact ⟨_, .inr (.inr (.inr (.inl ⟨a, rfl⟩)))⟩
    · exact ⟨0, .inr (.inr (.inr (.inr ⟨a, rfl⟩)))⟩
  generalize hw : IntKind.wrap .i64 ((t.2.2.2.1.length : Int) + 1) = w0 at hv main
  have hs : shpP t ↔ (t.1 = 0 ∧ t.2.2.2.2.1.length = 0 ∧ t.2.2.1 = 0 ∧ t.2.2.2.1.length = 0) ∨ (t.1 = 1 ∧ t.2.2.2.2.1.length = 1 ∧ t.2.1 = 0 ∧ t.2.2.1 = 0 ∧ t.2.2.2.1.length = 0) ∨
      (t.1 = 2 ∧ t.2.2.2.2.1.length = 2 ∧ t.2.2.1 = 0 ∧ t.2.2.2.1.length = 0) ∨ (t.1 = 3 ∧ (t.2.2.2.2.1.length : Int) = w0 ∧ t.2.2.1 = 0) ∨
      (t.1 = 4 ∧ t.2.2.2.2.1.length = 0 ∧ t.2.1 = 0 ∧ t.2.2.2.1.length = 0) := by rw [← hw]; exact Iff.rfl
  have yes : ¬ shpP t → j33s4 k (fun z6 z7 => j33r6 k z6 z7) true f t := fun q => hJ true ⟨fun _ => q, fun _ => rfl⟩
  have no : shpP t → j33s4 k (fun z6 z7 => j33r6 k z6 z7) false f t := fun q => hJ false ⟨fun w => (by cases w), fun w => (w q).elim⟩
  have arg : (t.2.1 = 0 ↔ shpP t) → j33s4 k (fun z6 z7 => j33r6 k z6 z7) (t.2.1 != 0) f t := fun q => hJ _ (by rw [bne_iff_ne, ← q])
  have hm := main v hv
  clear main
  rcases hv with ⟨a, b⟩ | ⟨a, b⟩ | ⟨a, b⟩ | ⟨a, b⟩ | ⟨a, b⟩
  · have hp : shpP t ↔ t.2.2.2.2.1.length = 0 ∧ t.2.2.1 = 0 ∧ t.2.2.2.1.length = 0 := hs.trans (by omega)
    clear hs
    refine needS hm (brN (fun e1 => h3 ?_) fun e1 => brN (fun e2 => brP (fun e3 => yes ?_) fun e3 => brN (fun e4 => brN (fun e5 => yes ?_) fun e5 => brE (fun e6 => arg ?_) fun e6 => brE (fun e7 => arg ?_) fun e7 => no ?_) fun e4 => brE (fun e6 => arg ?_) fun e6 => brE (fun e7 => arg ?_) fun e7 => no ?_) fun e2 =>
      brN (fun e4 => brN (fun e5 => yes ?_) fun e5 => brE (fun e6 => arg ?_) fun e6 => brE (fun e7 => arg ?_) fun e7 => no ?_) fun e4 => brE (fun e6 => arg ?_) fun e6 => brE (fun e7 => arg ?_) fun e7 => no ?_)
    all_goals first | omega | (rw [hp]; omega)
  · have hp : shpP t ↔ t.2.2.2.2.1.length = 1 ∧ t.2.1 = 0 ∧ t.2.2.1 = 0 ∧ t.2.2.2.1.length = 0 := hs.trans (by omega)
    clear hs
    refine needS hm (brN (fun e1 => h3 ?_) fun e1 => brN (fun e2 => brP (fun e3 => yes ?_) fun e3 => brN (fun e4 => brN (fun e5 => yes ?_) fun e5 => brE (fun e6 => arg ?_) fun e6 => brE (fun e7 => arg ?_) fun e7 => no ?_) fun e4 => brE (fun e6 => arg ?_) fun e6 => brE (fun e7 => arg ?_) fun e7 => no ?_) fun e2 =>
      brN (fun e4 => brN (fun e5 => yes ?_) fun e5 => brE (fun e6 => arg ?_) fun e6 => brE (fun e7 => arg ?_) fun e7 => no ?_) fun e4 => brE (fun e6 => arg ?_) fun e6 => brE (fun e7 => arg ?_) fun e7 => no ?_)
    all_goals first | omega | (rw [hp]; omega)
  · have hp : shpP t ↔ t.2.2.2.2.1.length = 2 ∧ t.2.2.1 = 0 ∧ t.2.2.2.1.length = 0 := hs.trans (by omega)
    clear hs
    refine needS hm (brN (fun e1 => h3 ?_) fun e1 => brN (fun e2 => brP (fun e3 => yes ?_) fun e3 => brN (fun e4 => brN (fun e5 => yes ?_) fun e5 => brE (fun e6 => arg ?_) fun e6 => brE (fun e7 => arg ?_) fun e7 => no ?_) fun e4 => brE (fun e6 => arg ?_) fun e6 => brE (fun e7 => arg ?_) fun e7 => no ?_) fun e2 =>
      brN (fun e4 => brN (fun e5 => yes ?_) fun e5 => brE (fun e6 => arg ?_) fun e6 => brE (fun e7 => arg ?_) fun e7 => no ?_) fun e4 => brE (fun e6 => arg ?_) fun e6 => brE (fun e7 => arg ?_) fun e7 => no ?_)
    all_goals first | omega | (rw [hp]; omega)
  · have hp : shpP t ↔ (t.2.2.2.2.1.length : Int) = w0 ∧ t.2.2.1 = 0 := hs.trans (by omega)
    clear hs
    refine needS hm (brN (fun e1 => h3 ?_) fun e1 => brN (fun e2 => brP (fun e3 => yes ?_) fun e3 => brN (fun e4 => brN (fun e5 => yes ?_) fun e5 => brE (fun e6 => arg ?_) fun e6 => brE (fun e7 => arg ?_) fun e7 => no ?_) fun e4 => brE (fun e6 => arg ?_) fun e6 => brE (fun e7 => arg ?_) fun e7 => no ?_) fun e2 =>
      brN (fun e4 => brN (fun e5 => yes ?_) fun e5 => brE (fun e6 => arg ?_) fun e6 => brE (fun e7 => arg ?_) fun e7 => no ?_) fun e4 => brE (fun e6 => arg ?_) fun e6 => brE (fun e7 => arg ?_) fun e7 => no ?_)
    all_goals first | omega | (rw [hp]; omega)
  · have hp : shpP t ↔ t.2.2.2.2.1.length = 0 ∧ t.2.1 = 0 ∧ t.2.2.2.1.length = 0 := hs.trans (by omega)
    clear hs
    refine needS hm (brN (fun e1 => h3 ?_) fun e1 => brN (fun e2 => brP (fun e3 => yes ?_) fun e3 => brN (fun e4 => brN (fun e5 => yes ?_) fun e5 => brE (fun e6 => arg ?_) fun e6 => brE (fun e7 => arg ?_) fun e7 => no ?_) fun e4 => brE (fun e6 => arg ?_) fun e6 => brE (fun e7 => arg ?_) fun e7 => no ?_) fun e2 =>
      brN (fun e4 => brN (fun e5 => yes ?_) fun e5 => brE (fun e6 => arg ?_) fun e6 => brE (fun e7 => arg ?_) fun e7 => no ?_) fun e4 => brE (fun e6 => arg ?_) fun e6 => brE (fun e7 => arg ?_) fun e7 => no ?_)
    all_goals first | omega | (rw [hp]; omega)
abbrev PL3 := Int × Int × Unit
abbrev MP := List (Int × PL3)
def keys (m : MP) : List Int := m.map (·.1)
theorem keys_snoc {m : MP} {v : Int} {p : PL3} : keys (m ++ [(v, p)]) = keys m ++ [v] := by unfold keys; rw [List.map_append]; rfl
theorem mget_none {m : MP} {v : Int} : mget m v = none ↔ v ∉ keys m := by
  induction m with
  | nil => simp [mget, keys]
  | cons p r ih =>
    unfold mget
    by_cases e : p.1 = v
    · simp [e, keys]
    · have e2 : @BEq.beq Int _ p.1 v = false := by simpa using e
      rw [e2]
      show mget r v = none ↔ _
      rw [ih]
      have : v ∈ keys (p :: r) ↔ v ∈ keys r := by
        show v ∈ p.1 :: keys r ↔ _
        rw [List.mem_cons]
        exact ⟨fun w => w.resolve_left fun w => e w.symm, .inr⟩
      rw [this]
theorem mhas_iff {m : MP} {v : Int} : mhas m v = true ↔ v ∈ keys m := by
  unfold mhas
  cases h : mget m v with
  | none => have := mget_none.1 h; simp [this]
  | some x => simp; exact Classical.byContradiction fun w => by rw [mget_none.2 w] at h; cases h
theorem mput_new {m : MP} {v : Int} {p : PL3} (h : v ∉ keys m) : mput m v p = m ++ [(v, p)] := by
  induction m with
  | nil => rfl
  | cons q r ih =>
    have e : q.1 ≠ v := fun e => h (by unfold keys; simp [e])
    have e2 : @BEq.beq Int _ q.1 v = false := by simpa using e
    unfold mput
    rw [e2]
    show q :: mput r v p = _
    rw [ih fun w => h (by unfold keys at *; simp [w])]
    rfl
theorem pig : ∀ (N : Nat) (l : List Int), l.Nodup → (∀ x ∈ l, 0 ≤ x ∧ x < (N : Int)) → l.length ≤ N
  | 0, [], _, _ => Nat.le_refl _
  | 0, x :: l, _, h => by have := h x List.mem_cons_self; omega
  | N + 1, l, hd, h => by
    have h1 := pig N (l.erase (N : Int)) (hd.erase _) fun x hx => by
      have h2 := (hd.mem_erase_iff).1 hx
      have h3 := h x h2.2
      have h4 := h2.1
      simp only [ne_eq] at h4
      omega
    by_cases e : (N : Int) ∈ l
    · rw [List.length_erase_of_mem e] at h1; omega
    · rw [List.erase_of_not_mem e] at h1; omega
structure Kd (s : List Int) : Prop where
  nd : s.Nodup
  rg : ∀ x ∈ s, 0 ≤ x ∧ x ≤ 4095
theorem Kd.len {s : List Int} (h : Kd s) : s.length ≤ 4096 := pig 4096 s h.nd fun x hx => by have := h.rg x hx; omega
def defE (v : Int) (s : List Int) : Int := if ¬ (0 ≤ v ∧ v ≤ 4095) then 4 else if v ∈ s then 7 else 0
theorem defE_zero {v : Int} {s : List Int} (h : defE v s = 0) : (0 ≤ v ∧ v ≤ 4095) ∧ v ∉ s := by
  unfold defE at h
  split at h
  · cases h
  · rename_i e
    split at h
    · cases h
    · rename_i e2
      exact ⟨Classical.byContradiction e, e2⟩
theorem Kd.snoc {v : Int} {s : List Int} (h : Kd s) (hv : defE v s = 0) : Kd (s ++ [v]) := by
  obtain ⟨h1, h2⟩ := defE_zero hv
  refine ⟨?_, fun x hx => ?_⟩
  · rw [List.nodup_append]
    refine ⟨h.nd, by simp, fun a ha b hb e => ?_⟩
    rw [List.mem_singleton] at hb
    subst hb; subst e
    exact h2 ha
  · rcases List.mem_append.1 hx with hx | hx
    · exact h.rg x hx
    · rw [List.mem_singleton] at hx; subst hx; exact h1
theorem c31_ok {v : Int} {s : List Int} {k : Int → Prop} (hl : s.length ≤ maxLen) (h : k (defE v s)) : c31 v s k := by
  unfold defE at h
  constructor
  refine c21_if (fun e => brF rfl ?_) fun e => brT rfl ?_
  · rw [if_neg (fun w => w e)] at h
    refine c34_ok hl (fun q => brT rfl ?_) fun q => brF rfl ?_
    · rw [if_pos q] at h; exact h
    · rw [if_neg q] at h; exact h
  · rw [if_pos e] at h; exact h
theorem c36_ok {v : Int} {p : PL3} {f : FU} {m : MP} {k : Int → FU → MP → Prop} (h1 : defE v (keys m) ≠ 0 → k (defE v (keys m)) f m) (h2 : defE v (keys m) = 0 → k 0 f (m ++ [(v, p)])) : c36 v p f m k := by
  unfold defE at h1 h2
  constructor
  refine c26_if (fun e => brF rfl ?_) fun e => brT rfl ?_
  · rw [if_neg (fun w => w e)] at h1 h2
    refine brB (fun q => ?_) fun q => ?_
    · rw [if_pos (mhas_iff.1 q)] at h1; exact h1 (by decide)
    · have q' : v ∉ keys m := fun w => by rw [mhas_iff.2 w] at q; cases q
      rw [if_neg q'] at h2
      rw [mput_new q']
      exact h2 rfl
  · rw [if_pos e] at h1; exact h1 (by decide)
def parE (p : PL3) : List Int → MP → Int × MP
  | [], m => (0, m)
  | v :: r, m => if defE v (keys m) ≠ 0 then (defE v (keys m), m) else parE p r (m ++ [(v, p)])
noncomputable def insE (k : Int) : Nat → List IN → MP → Int × MP
  | _, [], m => (0, m)
  | n, x :: r, m => if defE x.1 (keys m) ≠ 0 then (defE x.1 (keys m), m) else if formE x ≠ 0 then (formE x, m) else insE k (n + 1) r (m ++ [(x.1, (k, ((n + 1 : Nat) : Int), ()))])
noncomputable def blkE (f : FU) (k : Int) (b : BK) (m : MP) : Int × MP :=
  if (parE (k, 0, ()) b.1 m).1 ≠ 0 then parE (k, 0, ()) b.1 m else
  if (insE k 0 b.2.1 (parE (k, 0, ()) b.1 m).2).1 ≠ 0 then insE k 0 b.2.1 (parE (k, 0, ()) b.1 m).2 else (endE f b.2.2.1, (insE k 0 b.2.1 (parE (k, 0, ()) b.1 m).2).2)
noncomputable def shpE (f : FU) : Nat → List BK → MP → Int × MP
  | _, [], m => (0, m)
  | k, b :: r, m => if (blkE f (k : Int) b m).1 ≠ 0 then blkE f (k : Int) b m else shpE f (k + 1) r (blkE f (k : Int) b m).2
theorem l27r3_ok {f : FU} {b : BK} {kb : Int} {l : List Int} {m : MP} {k1 : Int → FU → MP → Prop} {k2 : Int → FU → MP → BK → Prop} (hl : l.length ≤ maxLen)
    (h1 : (parE (kb, 0, ()) l m).1 ≠ 0 → ∀ m', k1 (parE (kb, 0, ()) l m).1 f m') (h2 : (parE (kb, 0, ()) l m).1 = 0 → k2 kb f (parE (kb, 0, ()) l m).2 b) : l27r3 k1 k2 kb l (l.length : Int) 0 f m b := by
  have hm := hml
  constructor
  intro I hI
  have key := dropInd (l := l) (M := fun i r => ∀ m, ((parE (kb, 0, ()) r m).1 ≠ 0 → ∀ m', k1 (parE (kb, 0, ()) r m).1 f m') → ((parE (kb, 0, ()) r m).1 = 0 → k2 kb f (parE (kb, 0, ()) r m).2 b) → I kb l (l.length : Int) (i : Int) f m b)
    (fun m _ h2 => hI _ _ _ _ _ _ _ (brDn (by omega) (h2 rfl)))
    (fun i hi ih m h1 h2 => by
      apply hI
      rw [parE] at h1 h2
      rw [wrapS (n := i) (by omega)]
      refine brD (by omega) (needAt hi (c36_ok (fun e => brN (fun _ => ?_) fun w => (e w).elim) fun e => brF rfl ?_))
      · rw [if_pos e] at h1; exact h1 e _
      · rw [if_neg (fun w => w e)] at h1 h2; exact ih _ h1 h2)
  exact key m h1 h2
theorem l27r10_ok {f : FU} {b : BK} {kb : Int} {l : List IN} {m : MP} {k1 : Int → FU → MP → Prop} {k2 : FU → MP → BK → Prop} (hl : l.length ≤ maxLen)
    (h1 : (insE kb 0 l m).1 ≠ 0 → ∀ m', k1 (insE kb 0 l m).1 f m') (h2 : (insE kb 0 l m).1 = 0 → k2 f (insE kb 0 l m).2 b) : l27r10 k1 k2 kb l (l.length : Int) 0 f m b := by
  have hm := hml
  constructor
  intro I hI
  have key := dropInd (l := l) (M := fun i r => ∀ m, ((insE kb i r m).1 ≠ 0 → ∀ m', k1 (insE kb i r m).1 f m') → ((insE kb i r m).1 = 0 → k2 f (insE kb i r m).2 b) → I kb l (l.length : Int) (i : Int) f m b)
    (fun m _ h2 => hI _ _ _ _ _ _ _ (brDn (by omega) (h2 rfl)))
    (fun i hi ih m h1 h2 => by
      apply hI
      rw [insE] at h1 h2
      rw [wrapS (n := i) (by omega)]
      refine brD (by omega) (needAt hi (c36_ok (fun e => brN (fun _ => ?_) fun w => (e w).elim) fun e => brF rfl (c37_ok (brN (fun e2 => ?_) fun e2 => ?_))))
      · rw [if_pos e] at h1; exact h1 e _
      · rw [if_neg (fun w => w e), if_pos e2] at h1; exact h1 e2 _
      · rw [if_neg (fun w => w e), if_neg (fun w => w e2)] at h1 h2; exact ih _ h1 h2)
  exact key m h1 h2
structure Szu (f : FU) : Prop where
  bl : f.2.1.length ≤ maxLen
  par : ∀ b ∈ f.2.1, b.1.length ≤ maxLen
  ins : ∀ b ∈ f.2.1, b.2.1.length ≤ maxLen
  to : ∀ b ∈ f.2.1, b.2.2.1.2.2.2.2.1.length ≤ maxLen
  args : ∀ b ∈ f.2.1, ∀ x ∈ b.2.1, x.2.2.2.1.length ≤ maxLen
  edg : ∀ b ∈ f.2.1, ∀ e ∈ b.2.2.1.2.2.2.2.1, e.2.1.length ≤ maxLen
theorem c27_ok {f : FU} {kb : Nat} {m : MP} {k : Int → FU → MP → Prop} (hz : Szu f) (hn : f.2.1.length ≤ 128) (hk : kb < f.2.1.length)
    (h1 : (blkE f (kb : Int) f.2.1[kb] m).1 ≠ 0 → ∀ m', k (blkE f (kb : Int) f.2.1[kb] m).1 f m') (h2 : (blkE f (kb : Int) f.2.1[kb] m).1 = 0 → k 0 f (blkE f (kb : Int) f.2.1[kb] m).2) : c27 (kb : Int) f m k := by
  have hb : f.2.1[kb] ∈ f.2.1 := List.getElem_mem hk
  constructor
  refine needAt hk (l27r3_ok (hz.par _ hb) (fun e m' => ?_) fun e => l27r10_ok (hz.ins _ hb) (fun e2 m' => ?_) fun e2 => c38_ok hn (hz.to _ hb) ?_)
  · rw [blkE, if_pos e] at h1; exact h1 e m'
  · rw [blkE, if_neg (fun w => w e), if_pos e2] at h1; exact h1 e2 m'
  · rw [blkE, if_neg (fun w => w e), if_neg (fun w => w e2)] at h1 h2
    by_cases e3 : endE f f.2.1[kb].2.2.1 = 0
    · rw [e3]; exact h2 e3
    · exact h1 e3 _
theorem l16r15_ok {f : FU} {m : MP} {k1 : Int → Prop} {k2 : FU → MP → Prop} (hz : Szu f) (hn : f.2.1.length ≤ 128)
    (h1 : (shpE f 0 f.2.1 m).1 ≠ 0 → k1 (shpE f 0 f.2.1 m).1) (h2 : (shpE f 0 f.2.1 m).1 = 0 → k2 f (shpE f 0 f.2.1 m).2) : l16r15 k1 k2 (f.2.1.length : Int) 0 f m := by
  constructor
  intro I hI
  have key := dropInd (l := f.2.1) (M := fun i r => ∀ m, ((shpE f i r m).1 ≠ 0 → k1 (shpE f i r m).1) → ((shpE f i r m).1 = 0 → k2 f (shpE f i r m).2) → I (f.2.1.length : Int) (i : Int) f m)
    (fun m _ h2 => hI _ _ _ _ (brDn (by omega) (h2 rfl)))
    (fun i hi ih m h1 h2 => by
      apply hI
      rw [shpE] at h1 h2
      rw [wrapS (n := i) (by omega)]
      refine brD (by omega) (c27_ok hz hn hi (fun e m' => brN (fun _ => ?_) fun w => (e w).elim) fun e => brF rfl ?_)
      · rw [if_pos e] at h1; exact h1 e
      · rw [if_neg (fun w => w e)] at h1 h2; exact ih _ h1 h2)
  exact key m h1 h2
theorem parE_kd {p : PL3} : ∀ {l : List Int} {m : MP}, Kd (keys m) → (parE p l m).1 = 0 → Kd (keys (parE p l m).2)
  | [], m, h, _ => h
  | v :: r, m, h, e => by
    rw [parE] at e ⊢
    by_cases q : defE v (keys m) = 0
    · rw [if_neg (fun w => w q)] at e ⊢
      exact parE_kd (by rw [keys_snoc]; exact h.snoc q) e
    · rw [if_pos q] at e; exact (q e).elim
theorem insE_kd {kb : Int} : ∀ {l : List IN} {n : Nat} {m : MP}, Kd (keys m) → (insE kb n l m).1 = 0 → Kd (keys (insE kb n l m).2)
  | [], n, m, h, _ => h
  | x :: r, n, m, h, e => by
    rw [insE] at e ⊢
    by_cases q : defE x.1 (keys m) = 0
    · rw [if_neg (fun w => w q)] at e ⊢
      by_cases q2 : formE x = 0
      · rw [if_neg (fun w => w q2)] at e ⊢
        exact insE_kd (by rw [keys_snoc]; exact h.snoc q) e
      · rw [if_pos q2] at e; exact (q2 e).elim
    · rw [if_pos q] at e; exact (q e).elim
theorem blkE_kd {f : FU} {kb : Int} {b : BK} {m : MP} (h : Kd (keys m)) (e : (blkE f kb b m).1 = 0) : Kd (keys (blkE f kb b m).2) := by
  rw [blkE] at e ⊢
  by_cases q : (parE (kb, 0, ()) b.1 m).1 = 0
  · rw [if_neg (fun w => w q)] at e ⊢
    by_cases q2 : (insE kb 0 b.2.1 (parE (kb, 0, ()) b.1 m).2).1 = 0
    · rw [if_neg (fun w => w q2)] at e ⊢
      exact insE_kd (parE_kd h q) q2
    · rw [if_pos q2] at e; exact (q2 e).elim
  · rw [if_pos q] at e; exact (q e).elim
theorem l22r6_ok {f : FU} {b : BK} {bs : List BK} {nb kb : Int} {p : PL3} {l : List Int} {m : MP} {k1 : Int → Prop} {k2 : List BK → Int → Int → FU → List Int → BK → Prop} (hl : l.length ≤ maxLen) (hd : Kd (keys m))
    (h1 : (parE p l m).1 ≠ 0 → k1 (parE p l m).1) (h2 : (parE p l m).1 = 0 → k2 bs nb kb f (keys (parE p l m).2) b) : l22r6 k1 k2 bs nb kb l (l.length : Int) 0 f (keys m) b := by
  have hm := hml
  constructor
  intro I hI
  have key := dropInd (l := l) (M := fun i r => ∀ m, Kd (keys m) → ((parE p r m).1 ≠ 0 → k1 (parE p r m).1) → ((parE p r m).1 = 0 → k2 bs nb kb f (keys (parE p r m).2) b) → I bs nb kb l (l.length : Int) (i : Int) f (keys m) b)
    (fun m _ _ h2 => hI _ _ _ _ _ _ _ _ _ (brDn (by omega) (h2 rfl)))
    (fun i hi ih m hd h1 h2 => by
      apply hI
      have hkl := hd.len
      rw [parE] at h1 h2
      rw [wrapS (n := i) (by omega)]
      refine brD (by omega) (needAt hi (c31_ok (by omega) (brN (fun e => ?_) fun e => brT (roomS (by omega)) ?_)))
      · rw [if_pos e] at h1; exact h1 e
      · rw [if_neg (fun w => w e)] at h1 h2
        have := ih _ (by rw [keys_snoc]; exact hd.snoc e) h1 h2
        rw [keys_snoc] at this
        exact this)
  exact key m hd h1 h2
theorem l22r14_ok {f : FU} {b : BK} {bs : List BK} {nb kb k0 : Int} {l : List IN} {m : MP} {k1 : Int → Prop} {k2 : List BK → Int → Int → FU → List Int → BK → Prop} (hl : l.length ≤ maxLen) (hd : Kd (keys m))
    (h1 : (insE k0 0 l m).1 ≠ 0 → k1 (insE k0 0 l m).1) (h2 : (insE k0 0 l m).1 = 0 → k2 bs nb kb f (keys (insE k0 0 l m).2) b) : l22r14 k1 k2 bs nb kb l (l.length : Int) 0 f (keys m) b := by
  have hm := hml
  constructor
  intro I hI
  have key := dropInd (l := l) (M := fun i r => ∀ m, Kd (keys m) → ((insE k0 i r m).1 ≠ 0 → k1 (insE k0 i r m).1) → ((insE k0 i r m).1 = 0 → k2 bs nb kb f (keys (insE k0 i r m).2) b) → I bs nb kb l (l.length : Int) (i : Int) f (keys m) b)
    (fun m _ _ h2 => hI _ _ _ _ _ _ _ _ _ (brDn (by omega) (h2 rfl)))
    (fun i hi ih m hd h1 h2 => by
      apply hI
      have hkl := hd.len
      rw [insE] at h1 h2
      rw [wrapS (n := i) (by omega)]
      refine brD (by omega) (needAt hi (c31_ok (by omega) (brN (fun e => ?_) fun e => brT (roomS (by omega)) (c32_ok (brN (fun e2 => ?_) fun e2 => ?_)))))
      · rw [if_pos e] at h1; exact h1 e
      · rw [if_neg (fun w => w e), if_pos e2] at h1; exact h1 e2
      · rw [if_neg (fun w => w e), if_neg (fun w => w e2)] at h1 h2
        have := ih _ (by rw [keys_snoc]; exact hd.snoc e) h1 h2
        rw [keys_snoc] at this
        exact this)
  exact key m hd h1 h2
theorem l22r3_ok {f : FU} {m : MP} {k1 : Int → Prop} {k2 : Prop} (hz : Szu f) (hn : f.2.1.length ≤ 128) (hd : Kd (keys m))
    (h1 : (shpE f 0 f.2.1 m).1 ≠ 0 → k1 (shpE f 0 f.2.1 m).1) (h2 : (shpE f 0 f.2.1 m).1 = 0 → k2) : l22r3 k1 k2 f.2.1 (f.2.1.length : Int) 0 f (keys m) := by
  constructor
  intro I hI
  have key := dropInd (l := f.2.1) (M := fun i r => ∀ m, Kd (keys m) → ((shpE f i r m).1 ≠ 0 → k1 (shpE f i r m).1) → ((shpE f i r m).1 = 0 → k2) → I f.2.1 (f.2.1.length : Int) (i : Int) f (keys m))
    (fun m _ _ h2 => hI _ _ _ _ _ (brDn (by omega) (h2 rfl)))
    (fun i hi ih m hd h1 h2 => by
      apply hI
      have hb : f.2.1[i] ∈ f.2.1 := List.getElem_mem hi
      rw [shpE] at h1 h2
      have g1 : ∀ v, (blkE f (i : Int) f.2.1[i] m).1 = v → v ≠ 0 → k1 v := fun v e w => by
        rw [if_pos (by rw [e]; exact w), e] at h1; exact h1 w
      refine brD (by omega) (needAt hi (l22r6_ok (p := ((i : Int), 0, ())) (hz.par _ hb) hd (fun e => g1 _ (by rw [blkE, if_pos e]) e) fun e => l22r14_ok (k0 := (i : Int)) (hz.ins _ hb) (parE_kd hd e) (fun e2 => g1 _ (by rw [blkE, if_neg (fun w => w e), if_pos e2]) e2) fun e2 => c33_ok hn (hz.to _ hb) (brN (fun e3 => g1 _ (by rw [blkE, if_neg (fun w => w e), if_neg (fun w => w e2)]) e3) fun e3 => ?_)))
      have e4 : blkE f (i : Int) f.2.1[i] m = (0, (insE (i : Int) 0 f.2.1[i].2.1 (parE ((i : Int), 0, ()) f.2.1[i].1 m).2).2) := by rw [blkE, if_neg (fun w => w e), if_neg (fun w => w e2), e3]
      rw [e4, if_neg (fun w => w rfl)] at h1 h2
      rw [wrapS (n := i) (by omega)]
      exact ih _ (insE_kd (parE_kd hd e) e2) h1 h2)
  exact key m hd h1 h2
theorem c22_ok {f : FU} {k : Int → Prop} (hz : Szu f) (hn : f.2.1.length ≤ 128) (h : k (shpE f 0 f.2.1 []).1) : c22 f k := by
  constructor
  have hd : Kd (keys []) := ⟨List.nodup_nil, fun x hx => by cases hx⟩
  exact l22r3_ok (m := []) hz hn hd (fun _ => h) fun e => by rw [e] at h; exact h
def manyI : Int → List BK → Int
  | s, [] => s
  | s, b :: r => manyI (IntKind.wrap .i64 (s + (b.2.1.length : Int))) r
theorem l16r3_ok {f : FU} {k : Int → FU → Prop} (hl : f.2.1.length ≤ maxLen) (h : k (manyI 0 f.2.1) f) : l16r3 k 0 f.2.1 (f.2.1.length : Int) 0 f := by
  have hm := hml
  constructor
  intro I hI
  have key := dropInd (l := f.2.1) (M := fun i r => ∀ s, k (manyI s r) f → I s f.2.1 (f.2.1.length : Int) (i : Int) f)
    (fun s h => hI _ _ _ _ _ (brDn (by omega) h))
    (fun i hi ih s h => by
      apply hI
      rw [wrapS (n := i) (by omega)]
      exact brD (by omega) (needAt hi (ih _ h)))
  exact key 0 h
theorem l9r3_ok {f : FU} {k : Int → FU → Prop} (hl : f.2.1.length ≤ maxLen) (h : k (manyI 0 f.2.1) f) : l9r3 k 0 f.2.1 (f.2.1.length : Int) 0 f := by
  have hm := hml
  constructor
  intro I hI
  have key := dropInd (l := f.2.1) (M := fun i r => ∀ s, k (manyI s r) f → I s f.2.1 (f.2.1.length : Int) (i : Int) f)
    (fun s h => hI _ _ _ _ _ (brDn (by omega) h))
    (fun i hi ih s h => by
      apply hI
      rw [wrapS (n := i) (by omega)]
      exact brD (by omega) (needAt hi (ih _ h)))
  exact key 0 h
def insL (kb : Int) : Nat → List IN → MP
  | _, [] => []
  | n, x :: r => (x.1, (kb, ((n + 1 : Nat) : Int), ())) :: insL kb (n + 1) r
def blkL (kb : Int) (b : BK) : MP := b.1.map (fun v => (v, (kb, (0 : Int), ()))) ++ insL kb 0 b.2.1
def shpL : Nat → List BK → MP
  | _, [] => []
  | k, b :: r => blkL (k : Int) b ++ shpL (k + 1) r
theorem parE_eq {p : PL3} : ∀ {l : List Int} {m : MP}, (parE p l m).1 = 0 → (parE p l m).2 = m ++ l.map fun v => (v, p)
  | [], m, _ => by simp [parE]
  | v :: r, m, e => by
    rw [parE] at e ⊢
    by_cases q : defE v (keys m) = 0
    · rw [if_neg (fun w => w q)] at e ⊢
      rw [parE_eq e, List.append_assoc]
      rfl
    · rw [if_pos q] at e; exact (q e).elim
theorem insE_eq {kb : Int} : ∀ {l : List IN} {n : Nat} {m : MP}, (insE kb n l m).1 = 0 → (insE kb n l m).2 = m ++ insL kb n l ∧ ∀ x ∈ l, formE x = 0
  | [], n, m, _ => by simp [insE, insL]
  | x :: r, n, m, e => by
    rw [insE] at e ⊢
    by_cases q : defE x.1 (keys m) = 0
    · rw [if_neg (fun w => w q)] at e ⊢
      by_cases q2 : formE x = 0
      · rw [if_neg (fun w => w q2)] at e ⊢
        obtain ⟨h1, h2⟩ := insE_eq e
        rw [h1, List.append_assoc]
        refine ⟨rfl, fun y hy => ?_⟩
        rcases List.mem_cons.1 hy with rfl | hy
        · exact q2
        · exact h2 y hy
      · rw [if_pos q2] at e; exact (q2 e).elim
    · rw [if_pos q] at e; exact (q e).elim
theorem blkE_eq {f : FU} {kb : Int} {b : BK} {m : MP} (e : (blkE f kb b m).1 = 0) : (blkE f kb b m).2 = m ++ blkL kb b ∧ (∀ x ∈ b.2.1, formE x = 0) ∧ endE f b.2.2.1 = 0 := by
  rw [blkE] at e ⊢
  by_cases q : (parE (kb, 0, ()) b.1 m).1 = 0
  · rw [if_neg (fun w => w q)] at e ⊢
    by_cases q2 : (insE kb 0 b.2.1 (parE (kb, 0, ()) b.1 m).2).1 = 0
    · rw [if_neg (fun w => w q2)] at e ⊢
      obtain ⟨h1, h2⟩ := insE_eq q2
      refine ⟨?_, h2, e⟩
      show (insE kb 0 b.2.1 (parE (kb, 0, ()) b.1 m).2).2 = _
      rw [h1, parE_eq q, List.append_assoc]
      rfl
    · rw [if_pos q2] at e; exact (q2 e).elim
  · rw [if_pos q] at e; exact (q e).elim
theorem shpE_eq {f : FU} : ∀ {l : List BK} {k : Nat} {m : MP}, (shpE f k l m).1 = 0 → (shpE f k l m).2 = m ++ shpL k l ∧ ∀ b ∈ l, (∀ x ∈ b.2.1, formE x = 0) ∧ endE f b.2.2.1 = 0
  | [], k, m, _ => by simp [shpE, shpL]
  | b :: r, k, m, e => by
    rw [shpE] at e ⊢
    by_cases q : (blkE f (k : Int) b m).1 = 0
    · rw [if_neg (fun w => w q)] at e ⊢
      obtain ⟨h1, h2⟩ := shpE_eq e
      obtain ⟨h3, h4⟩ := blkE_eq q
      rw [h1, h3, List.append_assoc]
      refine ⟨rfl, fun y hy => ?_⟩
      rcases List.mem_cons.1 hy with rfl | hy
      · exact h4
      · exact h2 y hy
    · rw [if_pos q] at e; exact (q e).elim
theorem shpE_kd {f : FU} : ∀ {l : List BK} {k : Nat} {m : MP}, Kd (keys m) → (shpE f k l m).1 = 0 → Kd (keys (shpE f k l m).2)
  | [], k, m, h, _ => h
  | b :: r, k, m, h, e => by
    rw [shpE] at e ⊢
    by_cases q : (blkE f (k : Int) b m).1 = 0
    · rw [if_neg (fun w => w q)] at e ⊢
      exact shpE_kd (blkE_kd h q) e
    · rw [if_pos q] at e; exact (q e).elim
theorem mem_insL {kb v : Int} {p : PL3} : ∀ {l : List IN} {n : Nat}, (v, p) ∈ insL kb n l ↔ ∃ j x, l[j]? = some x ∧ x.1 = v ∧ p = (kb, ((n + j + 1 : Nat) : Int), ())
  | [], n => by simp [insL]
  | y :: r, n => by
    rw [insL, List.mem_cons, mem_insL]
    constructor
    · rintro (e | ⟨j, x, h1, h2, h3⟩)
      · obtain ⟨rfl, rfl⟩ := Prod.mk.injEq _ _ _ _ ▸ e
        exact ⟨0, y, rfl, rfl, rfl⟩
      · exact ⟨j + 1, x, h1, h2, by rw [h3, show n + 1 + j + 1 = n + (j + 1) + 1 by omega]⟩
    · rintro ⟨j, x, h1, h2, h3⟩
      cases j with
      | zero =>
        obtain rfl := Option.some.inj h1
        exact .inl (by rw [h3, ← h2])
      | succ j => exact .inr ⟨j, x, h1, h2, by rw [h3, show n + 1 + j + 1 = n + (j + 1) + 1 by omega]⟩
def Df (f : FU) (v : Int) (k i : Nat) : Prop := ∃ b, f.2.1[k]? = some b ∧ ((i = 0 ∧ v ∈ b.1) ∨ ∃ j x, i = j + 1 ∧ b.2.1[j]? = some x ∧ x.1 = v)
theorem mem_blkL {kb v : Int} {p : PL3} {b : BK} : (v, p) ∈ blkL kb b ↔ ∃ i : Nat, p = (kb, (i : Int), ()) ∧ ((i = 0 ∧ v ∈ b.1) ∨ ∃ j x, i = j + 1 ∧ b.2.1[j]? = some x ∧ x.1 = v) := by
  unfold blkL
  rw [List.mem_append, List.mem_map, mem_insL]
  constructor
  · rintro (⟨w, h1, h2⟩ | ⟨j, x, h1, h2, h3⟩)
    · obtain ⟨rfl, rfl⟩ := Prod.mk.injEq _ _ _ _ ▸ h2
      exact ⟨0, rfl, .inl ⟨rfl, h1⟩⟩
    · exact ⟨j + 1, by rw [h3, Nat.zero_add], .inr ⟨j, x, rfl, h1, h2⟩⟩
  · rintro ⟨i, rfl, ⟨rfl, h⟩ | ⟨j, x, rfl, h1, h2⟩⟩
    · exact .inl ⟨v, h, rfl⟩
    · exact .inr ⟨j, x, h1, h2, by rw [Nat.zero_add]⟩
theorem mem_shpL {v : Int} {p : PL3} : ∀ {l : List BK} {k : Nat}, (v, p) ∈ shpL k l ↔ ∃ i b, l[i]? = some b ∧ (v, p) ∈ blkL ((k + i : Nat) : Int) b
  | [], k => by simp [shpL]
  | c :: r, k => by
    rw [shpL, List.mem_append, mem_shpL]
    constructor
    · rintro (h | ⟨i, b, h1, h2⟩)
      · exact ⟨0, c, rfl, h⟩
      · exact ⟨i + 1, b, h1, by rw [show k + (i + 1) = k + 1 + i by omega]; exact h2⟩
    · rintro ⟨i, b, h1, h2⟩
      cases i with
      | zero => obtain rfl := Option.some.inj h1; exact .inl h2
      | succ i => exact .inr ⟨i, b, h1, by rw [show k + 1 + i = k + (i + 1) by omega]; exact h2⟩
theorem mget_mem {v : Int} {p : PL3} : ∀ {m : MP}, (keys m).Nodup → (mget m v = some p ↔ (v, p) ∈ m)
  | [], _ => by simp [mget]
  | q :: r, h => by
    have h' : (q.1 :: keys r).Nodup := h
    obtain ⟨h1, h2⟩ := List.nodup_cons.1 h'
    unfold mget
    by_cases e : q.1 = v
    · rw [show (@BEq.beq Int _ q.1 v) = true by simpa using e]
      show some q.2 = some p ↔ _
      rw [List.mem_cons]
      constructor
      · intro w; exact .inl (by rw [← e, ← Option.some.inj w])
      · rintro (w | w)
        · rw [← w]
        · exact (h1 (by rw [e]; exact List.mem_map.2 ⟨_, w, rfl⟩)).elim
    · rw [show (@BEq.beq Int _ q.1 v) = false by simpa using e]
      show mget r v = some p ↔ _
      rw [mget_mem h2, List.mem_cons]
      exact ⟨.inr, fun w => w.resolve_left fun w => e (by rw [← w])⟩
theorem edgE_zero {bs : List BK} : ∀ {l : List ED}, edgE bs l = 0 → ∀ e ∈ l, 1 ≤ e.1 ∧ e.1 < (bs.length : Int) ∧ e.2.1.length = parN bs e.1.toNat
  | [], _, e, he => by cases he
  | y :: r, h, e, he => by
    rw [edgE] at h
    by_cases q : 1 ≤ y.1 ∧ y.1 ≤ (bs.length : Int) - 1
    · rw [if_neg (fun w => w q)] at h
      by_cases q2 : y.2.1.length = parN bs y.1.toNat
      · rw [if_neg (fun w => w q2)] at h
        rcases List.mem_cons.1 he with rfl | he
        · exact ⟨q.1, by omega, q2⟩
        · exact edgE_zero h e he
      · rw [if_pos q2] at h; cases h
    · rw [if_pos q] at h; cases h
theorem endE_zero {f : FU} {t : TM} (h : endE f t = 0) : shpP t ∧ ∀ e ∈ t.2.2.2.2.1, 1 ≤ e.1 ∧ e.1 < (f.2.1.length : Int) ∧ e.2.1.length = parN f.2.1 e.1.toNat := by
  unfold endE at h
  by_cases q : shpP t
  · refine ⟨q, ?_⟩
    rw [if_neg (fun w => w q)] at h
    split at h
    · cases h
    split at h
    · cases h
    split at h
    · rename_i e; exact (e h).elim
    exact edgE_zero h
  · rw [if_pos q] at h; cases h
theorem insL_len {kb : Int} : ∀ {l : List IN} {n : Nat}, (insL kb n l).length = l.length
  | [], _ => rfl
  | x :: r, n => by rw [insL, List.length_cons, insL_len, List.length_cons]
theorem shpL_len {b : BK} : ∀ {l : List BK} {k : Nat}, b ∈ l → b.1.length + b.2.1.length ≤ (shpL k l).length
  | c :: r, k, h => by
    rw [shpL, List.length_append]
    rcases List.mem_cons.1 h with rfl | h
    · unfold blkL
      rw [List.length_append, List.length_map, insL_len]
      omega
    · have := shpL_len (k := k + 1) h
      omega
theorem endE_tl {f : FU} {t : TM} (h : endE f t = 0) : t.2.2.2.2.1.length ≤ 257 := by
  have hs := (endE_zero h).1
  have hc : t.2.2.2.1.length ≤ 256 := by
    unfold endE at h
    rw [if_neg (fun w => w hs)] at h
    split at h
    · cases h
    · omega
  unfold shpP at hs
  rw [wrap64 (by omega) (by omega)] at hs
  omega
structure FOk (f : FU) (m : MP) : Prop where
  pos : 0 < f.2.1.length
  le : f.2.1.length ≤ 128
  edg : ∀ b ∈ f.2.1, ∀ e ∈ b.2.2.1.2.2.2.2.1, 1 ≤ e.1 ∧ e.1 < (f.2.1.length : Int) ∧ e.2.1.length = parN f.2.1 e.1.toNat
  shp : ∀ b ∈ f.2.1, shpP b.2.2.1
  frm : ∀ b ∈ f.2.1, ∀ x ∈ b.2.1, formE x = 0
  kd : Kd (keys m)
  pl : ∀ b ∈ f.2.1, b.1.length ≤ 4096
  tl : ∀ b ∈ f.2.1, b.2.2.1.2.2.2.2.1.length ≤ 257
  il : ∀ b ∈ f.2.1, b.2.1.length ≤ 4096
  df : ∀ v p, mget m v = some p ↔ ∃ k i : Nat, p = ((k : Int), (i : Int), ()) ∧ Df f v k i
theorem fok_of {f : FU} (h0 : 0 < f.2.1.length) (h1 : f.2.1.length ≤ 128) (h : (shpE f 0 f.2.1 []).1 = 0) : FOk f (shpE f 0 f.2.1 []).2 := by
  have hd : Kd (keys (shpE f 0 f.2.1 []).2) := shpE_kd ⟨List.nodup_nil, fun x hx => by cases hx⟩ h
  obtain ⟨e1, e2⟩ := shpE_eq h
  refine ⟨h0, h1, fun b hb => (endE_zero (e2 b hb).2).2, fun b hb => (endE_zero (e2 b hb).2).1, fun b hb => (e2 b hb).1, hd, fun b hb => ?_, fun b hb => endE_tl (e2 b hb).2, fun b hb => ?_, fun v p => ?_⟩
  · have := shpL_len (k := 0) hb
    have h3 := hd.len
    unfold keys at h3
    rw [List.length_map, e1, List.nil_append] at h3
    omega
  · have := shpL_len (k := 0) hb
    have h3 := hd.len
    unfold keys at h3
    rw [List.length_map, e1, List.nil_append] at h3
    omega
  rw [mget_mem hd.nd, e1, List.nil_append, mem_shpL]
  constructor
  · rintro ⟨k, b, h1, h2⟩
    obtain ⟨i, rfl, h3⟩ := mem_blkL.1 h2
    exact ⟨k, i, by rw [Nat.zero_add], b, h1, h3⟩
  · rintro ⟨k, i, rfl, b, h1, h3⟩
    exact ⟨k, b, h1, by rw [Nat.zero_add]; exact mem_blkL.2 ⟨i, rfl, h3⟩⟩
theorem FOk.uniq {f : FU} {m : MP} (h : FOk f m) {v : Int} {k i k' i' : Nat} (h1 : Df f v k i) (h2 : Df f v k' i') : k = k' ∧ i = i' := by
  have a := (h.df v _).2 ⟨k, i, rfl, h1⟩
  have b := (h.df v _).2 ⟨k', i', rfl, h2⟩
  rw [a] at b
  have b := Option.some.inj b
  simp only [Prod.mk.injEq] at b
  omega
def wd (P : Nat → Bool) (o : Nat) : Nat → Nat
  | 0 => 0
  | i + 1 => wd P o i + if P (o + i) = true then 2 ^ i else 0
theorem wd_lt {P : Nat → Bool} {o : Nat} : ∀ {n : Nat}, wd P o n < 2 ^ n
  | 0 => by simp [wd]
  | n + 1 => by
    have := wd_lt (P := P) (o := o) (n := n)
    rw [wd, Nat.pow_succ]
    split <;> omega
theorem wd_bit {P : Nat → Bool} {o : Nat} : ∀ {n j : Nat}, (wd P o n).testBit j = (decide (j < n) && P (o + j))
  | 0, j => by simp [wd]
  | n + 1, j => by
    have hl := wd_lt (P := P) (o := o) (n := n)
    rw [wd]
    split
    · rename_i e
      have h := Nat.two_pow_add_eq_or_of_lt hl 1
      rw [Nat.mul_one] at h
      rw [Nat.add_comm, h, Nat.testBit_or, wd_bit, Nat.testBit_two_pow]
      by_cases h : j < n
      · have : ¬ n = j := by omega
        simp [h, Nat.lt_succ_of_lt h, this]
      · by_cases h2 : j = n
        · subst h2; simp [e]
        · have h3 : ¬ j < n + 1 := by omega
          have h4 : ¬ n = j := by omega
          simp [h, h3, h4]
    · rename_i e
      rw [Nat.add_zero, wd_bit]
      by_cases h : j < n
      · simp [h, Nat.lt_succ_of_lt h]
      · by_cases h2 : j = n
        · subst h2; simp at e; simp [e]
        · have : ¬ j < n + 1 := by omega
          simp [h, this]
theorem wrapU {n : Nat} (h : n < 2 ^ 64) : IntKind.wrap .u64 (n : Int) = (n : Int) := by
  simp [IntKind.wrap, IntKind.signed, IntKind.bits]
  omega
theorem ofInt_nat {a : Nat} (h : a < 2 ^ 64) : (BitVec.ofInt 64 (a : Int)).toNat = a := by
  rw [BitVec.toNat_ofInt]
  omega
theorem bit_or {a b : Nat} (ha : a < 2 ^ 64) (hb : b < 2 ^ 64) : bitop .or .u64 (a : Int) (b : Int) = ((a ||| b : Nat) : Int) := by
  show IntKind.wrap .u64 (((BitVec.ofInt 64 (a : Int) ||| BitVec.ofInt 64 (b : Int)).toNat : Nat) : Int) = _
  rw [BitVec.toNat_or, ofInt_nat ha, ofInt_nat hb, wrapU (Nat.or_lt_two_pow ha hb)]
theorem bit_and {a b : Nat} (ha : a < 2 ^ 64) (hb : b < 2 ^ 64) : bitop .and .u64 (a : Int) (b : Int) = ((a &&& b : Nat) : Int) := by
  show IntKind.wrap .u64 (((BitVec.ofInt 64 (a : Int) &&& BitVec.ofInt 64 (b : Int)).toNat : Nat) : Int) = _
  rw [BitVec.toNat_and, ofInt_nat ha, ofInt_nat hb, wrapU (Nat.and_lt_two_pow _ hb)]
theorem shl_one {j : Nat} (h : j < 64) : shlI .u64 1 (j : Int) = ((2 ^ j : Nat) : Int) := by
  unfold shlI
  rw [Int.toNat_natCast, show min j IntKind.u64.bits = j from Nat.min_eq_left (Nat.le_of_lt h), Int.one_mul]
  rw [show ((2 : Int) ^ j) = ((2 ^ j : Nat) : Int) by simp]
  exact wrapU (Nat.pow_lt_pow_right (by decide) h)
theorem shr_nat {a j : Nat} (h : j < 64) : shrI .u64 (a : Int) (j : Int) = ((a / 2 ^ j : Nat) : Int) := by
  unfold shrI
  rw [Int.toNat_natCast, show min j IntKind.u64.bits = j from Nat.min_eq_left (Nat.le_of_lt h)]
  rw [show ((2 : Int) ^ j) = ((2 ^ j : Nat) : Int) by simp, Int.fdiv_eq_ediv_of_nonneg _ (Int.natCast_nonneg _)]
  rfl
def enc (P : Nat → Bool) : List Int := [(wd P 0 64 : Int), (wd P 64 64 : Int)]
def upd (P : Nat → Bool) (k : Nat) : Nat → Bool := fun i => P i || decide (i = k)
def met (P Q : Nat → Bool) : Nat → Bool := fun i => P i && Q i
theorem enc_none : enc (fun _ => false) = [0, 0] := by decide +kernel
theorem wd_ext {P Q : Nat → Bool} {o : Nat} (h : ∀ i, i < 64 → P (o + i) = Q (o + i)) : wd P o 64 = wd Q o 64 :=
  Nat.eq_of_testBit_eq fun j => by
    rw [wd_bit, wd_bit]
    by_cases hj : j < 64
    · rw [h j hj]
    · simp [hj]
theorem enc_iff {P Q : Nat → Bool} : enc P = enc Q ↔ ∀ i, i < 128 → P i = Q i := by
  constructor
  · intro h i hi
    unfold enc at h
    have h1 : (wd P 0 64 : Int) = (wd Q 0 64 : Int) := (List.cons.inj h).1
    have h2 : (wd P 64 64 : Int) = (wd Q 64 64 : Int) := (List.cons.inj (List.cons.inj h).2).1
    by_cases e : i < 64
    · have := congrArg (fun x : Nat => x.testBit i) (show wd P 0 64 = wd Q 0 64 by omega)
      simp only [wd_bit, Nat.zero_add, e, decide_true, Bool.true_and] at this
      exact this
    · have := congrArg (fun x : Nat => x.testBit (i - 64)) (show wd P 64 64 = wd Q 64 64 by omega)
      have e2 : i - 64 < 64 := by omega
      simp only [wd_bit, show 64 + (i - 64) = i by omega, e2, decide_true, Bool.true_and] at this
      exact this
  · intro h
    unfold enc
    rw [wd_ext (P := P) (Q := Q) (o := 0) fun i hi => h _ (by omega), wd_ext (P := P) (Q := Q) (o := 64) fun i hi => h _ (by omega)]
theorem tdv {k : Nat} : Int.tdiv (k : Int) 64 = ((k / 64 : Nat) : Int) := rfl
theorem tmd {k : Nat} : Int.tmod (k : Int) 64 = ((k % 64 : Nat) : Int) := rfl
theorem wr_dv {k : Nat} (h : k < 128) : IntKind.wrap .i64 (Int.tdiv (k : Int) 64) = ((k / 64 : Nat) : Int) := by rw [tdv]; exact wrap64 (by omega) (by omega)
theorem enc_get {P : Nat → Bool} {q : Nat} (h : q < 2) : (enc P)[q]? = some ((wd P (64 * q) 64 : Nat) : Int) := by
  rcases (by omega : q = 0 ∨ q = 1) with rfl | rfl <;> rfl
theorem wd_upd {P : Nat → Bool} {k : Nat} : wd P (64 * (k / 64)) 64 ||| 2 ^ (k % 64) = wd (upd P k) (64 * (k / 64)) 64 :=
  Nat.eq_of_testBit_eq fun j => by
    rw [Nat.testBit_or, wd_bit, wd_bit, Nat.testBit_two_pow]
    unfold upd
    by_cases hj : j < 64
    · by_cases e : k % 64 = j
      · have : 64 * (k / 64) + j = k := by omega
        simp [hj, e, this]
      · have : ¬ 64 * (k / 64) + j = k := by omega
        simp [hj, e, this]
    · have : ¬ k % 64 = j := by omega
      simp [hj, this]
theorem enc_upd {P : Nat → Bool} {k : Nat} (h : k < 128) : (enc P).set (k / 64) ((wd (upd P k) (64 * (k / 64)) 64 : Nat) : Int) = enc (upd P k) := by
  have other : ∀ o, o ≠ 64 * (k / 64) → (o = 0 ∨ o = 64) → wd P o 64 = wd (upd P k) o 64 := fun o ho h2 => wd_ext fun i hi => by
    unfold upd
    have : ¬ o + i = k := by omega
    simp [this]
  rcases (by omega : k / 64 = 0 ∨ k / 64 = 1) with e | e
  · rw [e]
    unfold enc
    rw [other 64 (by omega) (.inr rfl)]
    rfl
  · rw [e]
    unfold enc
    rw [other 0 (by omega) (.inl rfl)]
    rfl
theorem c61_ok {P : Nat → Bool} {k : Nat} {kk : List Int → Prop} (h : k < 128) (hk : kk (enc (upd P k))) : c61 (enc P) (k : Int) kk := by
  constructor
  unfold tc61
  rw [wr_dv h, tmd, Int.toNat_natCast]
  refine brD (by omega) (needS (enc_get (by omega)) (brDn (by omega) (brD (by omega) (needS (enc_get (by omega)) ?_))))
  rw [shl_one (by omega), bit_or wd_lt (Nat.pow_lt_pow_right (by decide) (by omega)), wd_upd, enc_upd h]
  exact hk
theorem c41_ok {P : Nat → Bool} {k : Nat} {kk : Bool → Prop} (h : k < 128) (hk : kk (P k)) : c41 (enc P) (k : Int) kk := by
  constructor
  unfold tc41
  rw [wr_dv h, tmd, Int.toNat_natCast]
  refine brD (by omega) (needS (enc_get (by omega)) (brDn (by omega) ?_))
  have e : ((bitop .and .u64 (shrI .u64 ((wd P (64 * (k / 64)) 64 : Nat) : Int) ((k % 64 : Nat) : Int)) 1 : Int) == 1) = P k := by
    have hl : wd P (64 * (k / 64)) 64 < 2 ^ 64 := wd_lt
    have hb : (wd P (64 * (k / 64)) 64).testBit (k % 64) = P k := by
      rw [wd_bit, show 64 * (k / 64) + k % 64 = k by omega]
      have : k % 64 < 64 := by omega
      simp [this]
    have hd : wd P (64 * (k / 64)) 64 / 2 ^ (k % 64) < 2 ^ 64 := Nat.lt_of_le_of_lt (Nat.div_le_self _ _) hl
    rw [shr_nat (by omega), show ((1 : Int)) = ((1 : Nat) : Int) from rfl, bit_and hd (by decide), Nat.and_one_is_mod, ← hb, Nat.testBit_eq_decide_div_mod_eq]
    rw [Bool.eq_iff_iff, beq_iff_eq, decide_eq_true_eq]
    omega
  rw [e]
  exact hk
theorem wd_met {P Q : Nat → Bool} {o : Nat} : wd P o 64 &&& wd Q o 64 = wd (met P Q) o 64 :=
  Nat.eq_of_testBit_eq fun j => by
    rw [Nat.testBit_and, wd_bit, wd_bit, wd_bit]
    unfold met
    by_cases hj : j < 64 <;> simp [hj]
theorem c62_ok {P Q : Nat → Bool} {kk : List Int → Prop} (hk : kk (enc (met P Q))) : c62 (enc P) (enc Q) kk := by
  constructor
  refine needS rfl (needS rfl (needS rfl (needS rfl ?_)))
  rw [bit_and wd_lt wd_lt, bit_and wd_lt wd_lt, wd_met, wd_met]
  exact hk
theorem eqT_enc {P Q : Nat → Bool} : eqT (.arr 2 (.int .u64)) (enc P) (enc Q) = decide (enc P = enc Q) := by
  rw [Bool.eq_iff_iff, decide_eq_true_eq]
  exact ⟨fun h => eqT_eq h, fun h => by rw [h]; exact eqT_self _ _⟩
def tos (b : BK) : List ED := b.2.2.1.2.2.2.2.1
def Eg (f : FU) (k j : Nat) : Prop := ∃ b, f.2.1[k]? = some b ∧ ∃ e ∈ tos b, e.1 = (j : Int)
inductive Rc (f : FU) (w : Int) : Nat → Prop
  | z : w ≠ 0 → Rc f w 0
  | s {k j : Nat} : Rc f w k → Eg f k j → (j : Int) ≠ w → Rc f w j
theorem Eg.lt {f : FU} {m : MP} (h : FOk f m) {k j : Nat} (e : Eg f k j) : k < f.2.1.length ∧ 1 ≤ j ∧ j < f.2.1.length := by
  obtain ⟨b, hb, x, hx, ex⟩ := e
  obtain ⟨h1, h2, _⟩ := h.edg b (List.mem_of_getElem? hb) x hx
  exact ⟨(List.getElem?_eq_some_iff.1 hb).1, by omega, by omega⟩
theorem Rc.lt {f : FU} {m : MP} (h : FOk f m) {w : Int} {j : Nat} (r : Rc f w j) : j < f.2.1.length := by
  cases r with
  | z _ => exact h.pos
  | s _ e _ => exact (e.lt h).2.2
theorem Rc.ne {f : FU} {w : Int} {j : Nat} (r : Rc f w j) : (j : Int) ≠ w := by
  cases r with
  | z h => exact fun e => h e.symm
  | s _ _ h => exact h
theorem Rc.all {f : FU} {w : Int} {j : Nat} (r : Rc f w j) : Rc f (-1) j := by
  induction r with
  | z _ => exact .z (by decide)
  | s _ e _ ih => exact .s ih e (by omega)
abbrev BF := Nat → Nat → Bool
def ovl (n : Nat) (O : BF) : List (List Int) := (List.range n).map fun k => enc (O k)
def put (O : BF) (e : Nat) (P : Nat → Bool) : BF := fun i => if i = e then P else O i
theorem ovl_len {n : Nat} {O : BF} : (ovl n O).length = n := by simp [ovl]
theorem ovl_get {n k : Nat} {O : BF} (h : k < n) : (ovl n O)[k]? = some (enc (O k)) := by
  unfold ovl
  rw [List.getElem?_map, List.getElem?_range h]
  rfl
theorem ovl_put {n e : Nat} {O : BF} {P : Nat → Bool} (h : e < n) : (ovl n O).set e (enc P) = ovl n (put O e P) := by
  refine List.ext_getElem? fun i => ?_
  by_cases hi : i < n
  · rw [ovl_get hi]
    unfold put
    by_cases q : i = e
    · subst q; rw [List.getElem?_set_self (by rw [ovl_len]; exact h), if_pos rfl]
    · rw [List.getElem?_set_ne (fun w => q w.symm), ovl_get hi, if_neg q]
  · rw [List.getElem?_eq_none (by rw [List.length_set, ovl_len]; omega), List.getElem?_eq_none (by rw [ovl_len]; omega)]
structure Dm (f : FU) (O : BF) (S : Nat → Bool) : Prop where
  s0 : S 0 = true
  sr : ∀ j, S j = true → Rc f (-1) j
  self : ∀ k, k < f.2.1.length → O k k = true
  o0 : ∀ a, O 0 a = true → a = 0
  snd : ∀ k a : Nat, k < f.2.1.length → a < f.2.1.length → ¬ Rc f (a : Int) k → O k a = true
  bd : ∀ k a, O k a = true → a < f.2.1.length
def nxt (O : BF) (k e : Nat) : Nat → Bool := upd (met (O e) (O k)) e
theorem Dm.step {f : FU} {m : MP} (hf : FOk f m) {O : BF} {S : Nat → Bool} (h : Dm f O S) {k e : Nat} (hk : S k = true) (he : Eg f k e) : Dm f (put O e (nxt O k e)) (upd S e) := by
  obtain ⟨q1, q2, q3⟩ := he.lt hf
  refine ⟨by unfold upd; rw [h.s0]; rfl, fun j hj => ?_, fun i hi => ?_, fun a ha => ?_, fun i a hi ha hr => ?_, fun i a ha => ?_⟩
  · unfold upd at hj
    rw [Bool.or_eq_true, decide_eq_true_eq] at hj
    rcases hj with hj | rfl
    · exact h.sr j hj
    · exact .s (h.sr k hk) he (by omega)
  · unfold put nxt upd met
    split
    · rename_i w; subst w; simp
    · exact h.self i hi
  · unfold put at ha
    rw [if_neg (by omega)] at ha
    exact h.o0 a ha
  · unfold put nxt upd met
    split
    · rename_i w; subst w
      by_cases q : a = i
      · simp [q]
      · have w1 := h.snd i a hi ha hr
        have w2 := h.snd k a q1 ha fun w => hr (.s w he (by omega))
        simp [w1, w2]
    · exact h.snd i a hi ha hr
  · unfold put nxt upd met at ha
    split at ha
    · rw [Bool.or_eq_true, Bool.and_eq_true, decide_eq_true_eq] at ha
      rcases ha with ha | ha
      · exact h.bd _ _ ha.1
      · omega
    · exact h.bd _ _ ha
def cnt (P : Nat → Bool) : Nat → Nat
  | 0 => 0
  | i + 1 => cnt P i + if P i = true then 1 else 0
def smf (g : Nat → Nat) : Nat → Nat
  | 0 => 0
  | i + 1 => smf g i + g i
theorem cnt_le {P Q : Nat → Bool} : ∀ {n : Nat}, (∀ i, i < n → P i = true → Q i = true) → cnt P n ≤ cnt Q n
  | 0, _ => Nat.le_refl _
  | n + 1, h => by
    have := cnt_le (n := n) fun i hi => h i (by omega)
    have := h n (by omega)
    unfold cnt
    split
    · rename_i e; rw [if_pos (this e)]; omega
    · omega
theorem cnt_lt {P Q : Nat → Bool} : ∀ {n : Nat} (h : ∀ i, i < n → P i = true → Q i = true) {j : Nat} (hj : j < n) (h1 : P j = false) (h2 : Q j = true), cnt P n < cnt Q n
  | n + 1, h, j, hj, h1, h2 => by
    unfold cnt
    by_cases e : j = n
    · subst e
      have := cnt_le (n := j) fun i hi => h i (by omega)
      rw [h1, h2]
      simp
      omega
    · have := cnt_lt (n := n) (fun i hi => h i (by omega)) (by omega) h1 h2
      have := h n (by omega)
      split
      · rename_i e; rw [if_pos (this e)]; omega
      · omega
theorem cnt_max {P : Nat → Bool} : ∀ {n : Nat}, cnt P n ≤ n
  | 0 => Nat.le_refl _
  | n + 1 => by have := cnt_max (P := P) (n := n); unfold cnt; split <;> omega
theorem smf_le {g h : Nat → Nat} : ∀ {n : Nat}, (∀ i, i < n → g i ≤ h i) → smf g n ≤ smf h n
  | 0, _ => Nat.le_refl _
  | n + 1, q => by have := smf_le (n := n) fun i hi => q i (by omega); have := q n (by omega); unfold smf; omega
theorem smf_lt {g h : Nat → Nat} : ∀ {n : Nat} (q : ∀ i, i < n → g i ≤ h i) {j : Nat} (hj : j < n) (hl : g j < h j), smf g n < smf h n
  | n + 1, q, j, hj, hl => by
    unfold smf
    by_cases e : j = n
    · subst e
      have := smf_le (n := j) fun i hi => q i (by omega)
      omega
    · have := smf_lt (n := n) (fun i hi => q i (by omega)) (by omega) hl
      have := q n (by omega)
      omega
def mu (n : Nat) (O : BF) (S : Nat → Bool) : Nat := smf (fun k => cnt (O k) n) n + (n - cnt S n)
def EOk (O : BF) (S : Nat → Bool) (k e : Nat) : Prop := enc (nxt O k e) = enc (O e) ∧ S e = true
theorem nxt_sub {f : FU} {O : BF} {S : Nat → Bool} (h : Dm f O S) {k e : Nat} (he : e < f.2.1.length) (i : Nat) (q : nxt O k e i = true) : O e i = true := by
  unfold nxt upd met at q
  rw [Bool.or_eq_true, Bool.and_eq_true, decide_eq_true_eq] at q
  rcases q with q | rfl
  · exact q.1
  · exact h.self _ he
theorem mu_step {f : FU} {m : MP} (hf : FOk f m) {O : BF} {S : Nat → Bool} (h : Dm f O S) {k e : Nat} (he : Eg f k e) (hn : ¬ EOk O S k e) : mu f.2.1.length (put O e (nxt O k e)) (upd S e) < mu f.2.1.length O S := by
  obtain ⟨q1, q2, q3⟩ := he.lt hf
  have hle := hf.le
  have sub := nxt_sub h (k := k) q3
  have hO : ∀ i, i < f.2.1.length → cnt (put O e (nxt O k e) i) f.2.1.length ≤ cnt (O i) f.2.1.length := fun i hi => cnt_le fun j hj q => by
    unfold put at q
    split at q
    · rename_i w; subst w; exact sub j q
    · exact q
  have hS : cnt S f.2.1.length ≤ cnt (upd S e) f.2.1.length := cnt_le fun j _ q => by unfold upd; rw [q]; rfl
  have hS2 := cnt_max (P := upd S e) (n := f.2.1.length)
  by_cases eS : S e = true
  · have hne : enc (nxt O k e) ≠ enc (O e) := fun w => hn ⟨w, eS⟩
    rw [Ne, enc_iff] at hne
    obtain ⟨i, hi⟩ := Classical.not_forall.1 hne
    rw [Classical.not_imp] at hi
    obtain ⟨_, hi⟩ := hi
    have hi1 : O e i = true := by
      cases hx : O e i with
      | true => rfl
      | false =>
        cases hy : nxt O k e i with
        | true => have := sub i hy; rw [hx] at this; cases this
        | false => rw [hx, hy] at hi; exact (hi rfl).elim
    have hi2 : nxt O k e i = false := by
      cases hy : nxt O k e i with
      | true => rw [hi1, hy] at hi; exact (hi rfl).elim
      | false => rfl
    have := smf_lt hO q3 (by
      show cnt (put O e (nxt O k e) e) f.2.1.length < cnt (O e) f.2.1.length
      have e1 : put O e (nxt O k e) e = nxt O k e := by unfold put; rw [if_pos rfl]
      rw [e1]
      exact cnt_lt (fun j _ q => sub j q) (h.bd e i hi1) hi2 hi1)
    unfold mu
    omega
  · have : cnt S f.2.1.length < cnt (upd S e) f.2.1.length := cnt_lt (fun j _ q => by unfold upd; rw [q]; rfl) q3 (by simpa using eS) (by unfold upd; simp)
    have := smf_le hO
    unfold mu
    omega
def Ps (f : FU) (O0 : BF) (S0 : Nat → Bool) (P : Nat → Nat → Prop) (again : Bool) (O : BF) (S : Nat → Bool) : Prop :=
  Dm f O S ∧ ((again = false ∧ O = O0 ∧ S = S0 ∧ ∀ k e, P k e → EOk O0 S0 k e) ∨ (again = true ∧ mu f.2.1.length O S < mu f.2.1.length O0 S0))
theorem Ps.mono {f : FU} {O0 : BF} {S0 : Nat → Bool} {P Q : Nat → Nat → Prop} {a : Bool} {O : BF} {S : Nat → Bool} (h : Ps f O0 S0 P a O S) (hPQ : ∀ k e, Q k e → P k e) : Ps f O0 S0 Q a O S :=
  ⟨h.1, h.2.imp (fun ⟨h1, h2, h3, h4⟩ => ⟨h1, h2, h3, fun k e q => h4 k e (hPQ k e q)⟩) id⟩
theorem Ps.step {f : FU} {m : MP} (hf : FOk f m) {O0 : BF} {S0 : Nat → Bool} {P : Nat → Nat → Prop} {a : Bool} {O : BF} {S : Nat → Bool} (h : Ps f O0 S0 P a O S) {k e : Nat} (hk : S k = true) (he : Eg f k e) (hn : ¬ EOk O S k e) {Q : Nat → Nat → Prop} : Ps f O0 S0 Q true (put O e (nxt O k e)) (upd S e) := by
  refine ⟨h.1.step hf hk he, .inr ⟨rfl, ?_⟩⟩
  have h1 := mu_step hf h.1 he hn
  rcases h.2 with ⟨_, rfl, rfl, _⟩ | ⟨_, h2⟩
  · exact h1
  · omega
theorem j39r26_ok {f : FU} {O : BF} {S : Nat → Bool} {y : ED} {k e : Nat} (hn : f.2.1.length ≤ 128) (he : y.1 = (e : Int)) (hel : e < f.2.1.length) {a : Bool} {s2 s4 s5 s7 s8 : Int} {s3 : List BK} {s6 : List ED} {s10 : List Int} {k1 : Bool → Int → List BK → Int → Int → List ED → Int → Int → FU → List Int → List (List Int) → List Int → Prop}
    (h1 : ¬ EOk O S k e → k1 true s2 s3 s4 s5 s6 s7 s8 f s10 (ovl f.2.1.length (put O e (nxt O k e))) (enc (upd S e))) (h2 : EOk O S k e → k1 a s2 s3 s4 s5 s6 s7 s8 f s10 (ovl f.2.1.length O) (enc S)) :
    j39r26 k1 a s2 s3 s4 s5 s6 s7 s8 f s10 (ovl f.2.1.length O) (enc S) y (enc (nxt O k e)) := by
  have hol := ovl_len (n := f.2.1.length) (O := O)
  have fin : ¬ EOk O S k e → ∀ z16 : List Int, z16 = enc (upd S e) → br (true && true) (br (eqT (.int .i64) y.1 y.1) (br (eqT (.arr 2 (.int .u64)) (enc (nxt O k e)) (enc (nxt O k e))) (br (decide ((0 : Int) ≤ y.1 ∧ y.1 < (((ovl f.2.1.length O).length : Nat) : Int)))
      (need False (ovl f.2.1.length O)[y.1.toNat]? fun y17 => k1 true s2 s3 s4 s5 s6 s7 s8 f s10 ((ovl f.2.1.length O).set y.1.toNat (enc (nxt O k e))) z16) False) False) False) False := by
    rintro hE z rfl
    rw [he, Int.toNat_natCast]
    refine brT rfl (brT (eqT_self (.int .i64) _) (brT (eqT_self _ _) (brD (by omega) (needS (ovl_get hel) ?_))))
    rw [ovl_put hel]
    exact h1 hE
  constructor
  unfold tj39r26
  rw [he, Int.toNat_natCast]
  rw [he, Int.toNat_natCast] at fin
  refine brD (by omega) (needS (ovl_get hel) ?_)
  rw [eqT_enc]
  by_cases q : enc (nxt O k e) = enc (O e)
  · rw [decide_eq_true q]
    refine brF rfl (c41_ok (by omega) ?_)
    cases hS : S e with
    | true => exact brF rfl (h2 ⟨q, hS⟩)
    | false => exact brT rfl (c61_ok (by omega) (fin (fun w => by rw [w.2] at hS; cases hS) _ rfl))
  · rw [decide_eq_false q]
    exact brT rfl (c61_ok (by omega) (fin (fun w => q w.1) _ rfl))
theorem l39r23_ok {f : FU} {m : MP} (hf : FOk f m) {O0 : BF} {S0 : Nat → Bool} {k : Nat} {b : BK} (hb : f.2.1[k]? = some b) (hl : (tos b).length ≤ maxLen) {s4 s5 : Int} {s3 : List BK} {s10 : List Int} {k1 : Bool → List BK → Int → Int → FU → List Int → List (List Int) → List Int → Prop} {P : Nat → Nat → Prop}
    (hk : ∀ a O S, Ps f O0 S0 (fun k' e => P k' e ∨ (k' = k ∧ ∃ x ∈ tos b, x.1 = (e : Int))) a O S → k1 a s3 s4 s5 f s10 (ovl f.2.1.length O) (enc S)) {a : Bool} {O : BF} {S : Nat → Bool} (h : Ps f O0 S0 P a O S) (hS : S k = true) :
    l39r23 k1 a (k : Int) s3 s4 s5 (tos b) ((tos b).length : Int) 0 f s10 (ovl f.2.1.length O) (enc S) := by
  have hm := hml
  have hn := hf.le
  have hkl := (List.getElem?_eq_some_iff.1 hb).1
  constructor
  intro I hI
  have key := upInd (N := (tos b).length) (M := fun i => ∀ a O S, S k = true → Ps f O0 S0 (fun k' e => P k' e ∨ (k' = k ∧ ∃ j x, j < i ∧ (tos b)[j]? = some x ∧ x.1 = (e : Int))) a O S → I a (k : Int) s3 s4 s5 (tos b) ((tos b).length : Int) (i : Int) f s10 (ovl f.2.1.length O) (enc S))
    (fun a O S _ h => hI _ _ _ _ _ _ _ _ _ _ _ _ (brDn (by omega) (hk _ _ _ (h.mono fun k' e q => q.imp id fun ⟨q1, x, hx, q2⟩ => by
      obtain ⟨j, hj⟩ := List.mem_iff_getElem?.1 hx
      exact ⟨q1, j, x, (List.getElem?_eq_some_iff.1 hj).1, hj, q2⟩))))
    (fun i hi ih a O S hS h => by
      apply hI
      have hx : (tos b)[i] ∈ tos b := List.getElem_mem hi
      obtain ⟨q1, q2, _⟩ := hf.edg b (List.mem_of_getElem? hb) _ hx
      obtain ⟨e, he⟩ := Int.eq_ofNat_of_zero_le (show 0 ≤ ((tos b)[i]).1 by omega)
      have hel : e < f.2.1.length := by omega
      have hol := ovl_len (n := f.2.1.length) (O := O)
      have hE : Eg f k e := ⟨b, hb, _, hx, he⟩
      have hw : IntKind.wrap .i64 ((i : Int) + 1) = ((i + 1 : Nat) : Int) := wrapS (by omega)
      have hj : j39r26 (fun z18 z19 z20 z21 z22 z23 z24 z25 z26 z27 z28 z29 => I z18 z19 z20 z21 z22 z23 z24 (IntKind.wrap .i64 (z25 + 1)) z26 z27 z28 z29) a (k : Int) s3 s4 s5 (tos b) ((tos b).length : Int) (i : Int) f s10 (ovl f.2.1.length O) (enc S) (tos b)[i] (enc (nxt O k e)) := by
        refine j39r26_ok hn he hel (fun q => ?_) fun q => ?_
        · show I true _ _ _ _ _ _ (IntKind.wrap .i64 ((i : Int) + 1)) f _ _ _
          rw [hw]
          exact ih _ _ _ (by unfold upd; rw [hS]; rfl) (h.step hf hS hE q)
        · show I a _ _ _ _ _ _ (IntKind.wrap .i64 ((i : Int) + 1)) f _ _ _
          rw [hw]
          refine ih _ _ _ hS ⟨h.1, h.2.imp (fun ⟨h1, h2, h3, h4⟩ => ⟨h1, h2, h3, fun k' e' w => ?_⟩) id⟩
          rcases w with w | ⟨w1, j, x, w2, w3, w4⟩
          · exact h4 k' e' (.inl w)
          · by_cases w5 : j = i
            · subst w5
              rw [List.getElem?_eq_getElem hi] at w3
              obtain rfl := Option.some.inj w3
              obtain rfl : e' = e := by omega
              subst w1
              rw [← h2, ← h3]
              exact q
            · exact h4 k' e' (.inr ⟨w1, j, x, by omega, w3, w4⟩)
      have c1 : ∀ {kk : List Int → Prop}, kk (enc (nxt O k e)) → c61 (enc (met (O e) (O k))) (e : Int) kk := fun h => c61_ok (by omega) h
      refine brD (by omega) (needAt hi ?_)
      rw [he, Int.toNat_natCast, Int.toNat_natCast]
      refine brD (by omega) (needS (ovl_get hel) (brD (by omega) (needS (ovl_get hkl) ⟨?_, ?_⟩)))
      · exact c62_ok (brT rfl (brT (eqT_self (.int .i64) _) ⟨c1 hj, brT rfl (brT (eqT_self (.int .i64) _) (c1 hj))⟩))
      · exact brT rfl (brT (eqT_self (.int .i64) _) (brD (by omega) (brT (by simp) (needS (ovl_get hel) (brT (eqT_self _ _) (brT (eqT_self (.int .i64) _) (brD (by omega) (brT (by simp) (needS (ovl_get hkl) (brT (eqT_self _ _) (brT rfl (brT (eqT_self (.int .i64) _) (c62_ok (brT rfl (brT (eqT_self (.int .i64) _) (c1 hj)))))))))))))))))
    0 (Nat.zero_le _)
  exact key a O S hS (h.mono fun k' e q => q.elim id fun ⟨_, j, _, w, _⟩ => absurd w (by omega))
theorem l39r19_ok {f : FU} {m : MP} (hf : FOk f m) (hz : Szu f) {O : BF} {S : Nat → Bool} (hD : Dm f O S) {s10 : List Int} {k1 : Bool → FU → List Int → List (List Int) → List Int → Prop}
    (hk1 : (∀ k e, S k = true → Eg f k e → EOk O S k e) → k1 false f s10 (ovl f.2.1.length O) (enc S)) (hk2 : ∀ O' S', Dm f O' S' → mu f.2.1.length O' S' < mu f.2.1.length O S → k1 true f s10 (ovl f.2.1.length O') (enc S')) :
    l39r19 k1 false f.2.1 (f.2.1.length : Int) 0 f s10 (ovl f.2.1.length O) (enc S) := by
  have hn := hf.le
  constructor
  intro I hI
  have key := upInd (N := f.2.1.length) (M := fun i => ∀ a O' S', Ps f O S (fun k e => k < i ∧ S k = true ∧ Eg f k e) a O' S' → I a f.2.1 (f.2.1.length : Int) (i : Int) f s10 (ovl f.2.1.length O') (enc S'))
    (fun a O' S' h => hI _ _ _ _ _ _ _ _ (brDn (by omega) (by
      rcases h.2 with ⟨rfl, rfl, rfl, h4⟩ | ⟨rfl, h4⟩
      · exact hk1 fun k e q1 q2 => h4 k e ⟨(q2.lt hf).1, q1, q2⟩
      · exact hk2 _ _ h.1 h4)))
    (fun i hi ih a O' S' h => by
      apply hI
      have hb := List.getElem?_eq_getElem hi
      rw [wrapS (n := i) (by omega)]
      refine brD (by omega) (needAt hi (c41_ok (by omega) ?_))
      cases hS : S' i with
      | false =>
        refine brT rfl (ih _ _ _ ⟨h.1, h.2.imp (fun ⟨h1, h2, h3, h4⟩ => ⟨h1, h2, h3, fun k e ⟨q1, q2, q3⟩ => ?_⟩) id⟩)
        by_cases q : k = i
        · subst q; rw [← h3, hS] at q2; cases q2
        · exact h4 k e ⟨by omega, q2, q3⟩
      | true =>
        refine brF rfl (l39r23_ok (b := f.2.1[i]) hf hb (hz.to _ (List.getElem_mem hi)) (fun a O' S' h => ?_) h hS)
        show I a f.2.1 (f.2.1.length : Int) (IntKind.wrap .i64 ((i : Int) + 1)) f s10 _ _
        rw [wrapS (n := i) (by omega)]
        refine ih _ _ _ (h.mono fun k e ⟨q1, q2, q3⟩ => ?_)
        by_cases q : k = i
        · subst q
          obtain ⟨b', w1, w2⟩ := q3
          rw [hb] at w1
          obtain rfl := Option.some.inj w1
          exact .inr ⟨rfl, w2⟩
        · exact .inl ⟨by omega, q2, q3⟩)
    0 (Nat.zero_le _)
  exact key false O S ⟨hD, .inl ⟨rfl, rfl, rfl, fun k e q => absurd q.1 (by omega)⟩⟩
theorem l39r16_ok {f : FU} {m : MP} (hf : FOk f m) (hz : Szu f) {s3 : List Int} {k1 : List Int → List (List Int) → List Int → Prop}
    (hk : ∀ O S, Dm f O S → (∀ k e, S k = true → Eg f k e → EOk O S k e) → k1 s3 (ovl f.2.1.length O) (enc S)) {O : BF} {S : Nat → Bool} (hD : Dm f O S) : l39r16 k1 true f s3 (ovl f.2.1.length O) (enc S) := by
  constructor
  intro I hI
  have key : ∀ N O S, Dm f O S → mu f.2.1.length O S ≤ N → I true f s3 (ovl f.2.1.length O) (enc S) := by
    intro N
    induction N with
    | zero =>
      intro O S hD hN
      exact hI _ _ _ _ _ (brT rfl (l39r19_ok hf hz hD (fun h => hI _ _ _ _ _ (brF rfl (hk O S hD h))) fun O' S' _ w => absurd w (by omega)))
    | succ N ih =>
      intro O S hD hN
      exact hI _ _ _ _ _ (brT rfl (l39r19_ok hf hz hD (fun h => hI _ _ _ _ _ (brF rfl (hk O S hD h))) fun O' S' h w => ih O' S' h (by omega)))
  exact key _ O S hD (Nat.le_refl _)
structure Dn (f : FU) (O : BF) (S : Nat → Bool) : Prop where
  seen : ∀ j, S j = true ↔ Rc f (-1) j
  over : ∀ k a : Nat, Rc f (-1) k → a < f.2.1.length → (O k a = true ↔ ¬ Rc f (a : Int) k)
theorem dn_of {f : FU} {m : MP} (hf : FOk f m) {O : BF} {S : Nat → Bool} (h : Dm f O S) (hE : ∀ k e, S k = true → Eg f k e → EOk O S k e) : Dn f O S := by
  have hn := hf.le
  have hs : ∀ j, S j = true ↔ Rc f (-1) j := fun j => ⟨h.sr j, fun r => by
    induction r with
    | z _ => exact h.s0
    | s _ e _ ih => exact (hE _ _ ih e).2⟩
  refine ⟨hs, fun k a hk ha => ⟨fun q r => ?_, h.snd k a (hk.lt hf) ha⟩⟩
  have key : ∀ j, Rc f (a : Int) j → O j a = false := by
    intro j r
    induction r with
    | z w =>
      cases hx : O 0 a with
      | false => rfl
      | true => exact (w (by rw [h.o0 a hx]; rfl)).elim
    | @s i j r e w ih =>
      have h1 := (hE i j ((hs i).2 r.all) e).1
      have h2 := enc_iff.1 h1 a (by omega)
      rw [← h2]
      unfold nxt upd met
      have : ¬ a = j := fun w2 => w (by rw [w2])
      simp [ih, this]
  rw [key k r] at q
  cases q
theorem l39r3_ok {f : FU} (hn : f.2.1.length ≤ 128) {s4 : List Int} {k : FU → List Int → List Int → Prop} (h : k f s4 (enc fun i => decide (i < f.2.1.length))) : l39r3 k (f.2.1.length : Int) 0 f s4 [0, 0] := by
  constructor
  intro I hI
  have key := upInd (N := f.2.1.length) (M := fun i => I (f.2.1.length : Int) (i : Int) f s4 (enc fun j => decide (j < i)))
    (hI _ _ _ _ _ (brDn (by omega) h))
    (fun i hi ih => by
      apply hI
      refine brD (by omega) (c61_ok (by omega) ?_)
      rw [wrapS (n := i) (by omega)]
      rwa [show enc (upd (fun j => decide (j < i)) i) = enc (fun j => decide (j < i + 1)) from enc_iff.2 fun j _ => by
        unfold upd
        rw [Bool.eq_iff_iff]
        simp only [Bool.or_eq_true, decide_eq_true_eq]
        omega])
    0 (Nat.zero_le _)
  rw [show enc (fun j => decide (j < 0)) = [0, 0] by rw [← enc_none]; exact enc_iff.2 fun j _ => by simp] at key
  exact key
theorem l39r9_ok {f : FU} {A : Nat → Bool} (hn : f.2.1.length ≤ 128) {s4 : List Int} {k : FU → List Int → List (List Int) → Prop} (h : k f s4 (ovl f.2.1.length fun _ => A)) {O : BF} : l39r9 k (f.2.1.length : Int) 0 f s4 (enc A) (ovl f.2.1.length O) := by
  constructor
  intro I hI
  have key := upInd (N := f.2.1.length) (M := fun i => ∀ O : BF, (∀ j, j < i → O j = A) → I (f.2.1.length : Int) (i : Int) f s4 (enc A) (ovl f.2.1.length O))
    (fun O q => hI _ _ _ _ _ _ (brDn (by omega) (by
      rwa [show ovl f.2.1.length O = ovl f.2.1.length (fun _ => A) from List.map_congr_left fun j hj => by rw [q j (List.mem_range.1 hj)]])))
    (fun i hi ih O q => by
      apply hI
      have hol := ovl_len (n := f.2.1.length) (O := O)
      rw [wrapS (n := i) (by omega), Int.toNat_natCast]
      refine brD (by omega) (brD (by omega) (needS (ovl_get hi) ?_))
      rw [ovl_put hi]
      refine ih _ fun j hj => ?_
      unfold put
      split
      · rfl
      · exact q j (by omega))
    0 (Nat.zero_le _)
  exact key O fun j hj => absurd hj (by omega)
theorem c39_ok {f : FU} {m : MP} (hf : FOk f m) (hz : Szu f) {k : List Int → List (List Int) → Prop} (hk : ∀ O S, Dn f O S → k (enc S) (ovl f.2.1.length O)) : c39 f k := by
  have hn := hf.le
  have hp := hf.pos
  constructor
  refine l39r3_ok hn (brD (by omega) ?_)
  have hrep : List.replicate (Int.toNat ((f.2.1.length : Nat) : Int)) ([0, 0] : List Int) = ovl f.2.1.length (fun _ _ => false) := by
    rw [Int.toNat_natCast]
    show _ = (List.range f.2.1.length).map fun _ => enc fun _ => false
    rw [enc_none, List.map_const', List.length_range]
  rw [hrep, ovl_len]
  refine l39r9_ok hn ?_
  have c0 : ∀ {kk : List Int → Prop}, kk (enc (upd (fun _ => false) 0)) → c61 [0, 0] 0 kk := fun {kk} h => by
    have := c61_ok (P := fun _ => false) (k := 0) (kk := kk) (by omega) h
    rw [enc_none] at this
    exact this
  have hol := ovl_len (n := f.2.1.length) (O := fun _ => fun i => decide (i < f.2.1.length))
  refine c0 (brD (by omega) (needS (ovl_get hp) (c0 ?_)))
  rw [ovl_put hp]
  have hu : ∀ j, upd (fun _ => false) 0 j = true ↔ j = 0 := fun j => by unfold upd; simp
  refine l39r16_ok hf hz (fun O S h hE => hk O S (dn_of hf h hE)) ⟨(hu 0).2 rfl, fun j hj => ?_, fun i hi => ?_, fun a ha => ?_, fun i a hi ha hr => ?_, fun i a ha => ?_⟩
  · rw [(hu j).1 hj]; exact .z (by decide)
  · unfold put
    split
    · rename_i w; subst w; exact (hu 0).2 rfl
    · simpa using hi
  · unfold put at ha
    rw [if_pos rfl] at ha
    exact (hu a).1 ha
  · unfold put
    split
    · rename_i w; subst w
      refine (hu a).2 (Classical.byContradiction fun w => hr (.z (by omega)))
    · simpa using ha
  · unfold put at ha
    split at ha
    · rw [(hu a).1 ha]; exact hp
    · simpa using ha
def Us (f : FU) (v : Int) (k i : Nat) : Prop := ∃ k' i', Df f v k' i' ∧ (¬ Rc f (-1) k ∨ (k' = k ∧ i' ≤ i) ∨ (k' ≠ k ∧ ¬ Rc f (k' : Int) k))
theorem c40_ok {f : FU} {m : MP} (hf : FOk f m) {O : BF} {S : Nat → Bool} (hD : Dn f O S) {v : Int} {k i : Nat} (hk : k < f.2.1.length) {kk : Bool → FU → MP → Int → Int → List (List Int) → List Int → Prop}
    (h1 : Us f v k i → kk true f m (k : Int) (i : Int) (ovl f.2.1.length O) (enc S)) (h2 : ¬ Us f v k i → kk false f m (k : Int) (i : Int) (ovl f.2.1.length O) (enc S)) : c40 v f m (k : Int) (i : Int) (ovl f.2.1.length O) (enc S) kk := by
  have hn := hf.le
  have hol := ovl_len (n := f.2.1.length) (O := O)
  constructor
  unfold tc40
  cases hg : mget m v with
  | none =>
    have hh : mhas m v = false := by unfold mhas; rw [hg]; rfl
    refine brF hh (h2 ?_)
    rintro ⟨k', i', q, _⟩
    have := (hf.df v _).2 ⟨k', i', rfl, q⟩
    rw [hg] at this
    cases this
  | some p =>
    have hh : mhas m v = true := by unfold mhas; rw [hg]; rfl
    have hv : mval (0, 0, ()) m v = p := by unfold mval; rw [hg]
    obtain ⟨k', i', rfl, hd⟩ := (hf.df v p).1 hg
    have hk' : k' < f.2.1.length := by obtain ⟨b, hb, _⟩ := hd; exact (List.getElem?_eq_some_iff.1 hb).1
    have iff : Us f v k i ↔ ¬ Rc f (-1) k ∨ (k' = k ∧ i' ≤ i) ∨ (k' ≠ k ∧ ¬ Rc f (k' : Int) k) := by
      constructor
      · rintro ⟨a, b, q, w⟩
        obtain ⟨rfl, rfl⟩ := hf.uniq hd q
        exact w
      · exact fun w => ⟨k', i', hd, w⟩
    rw [hv]
    refine brT hh ?_
    -- not reached
    have last : ¬ (k' = k ∧ i' ≤ i) → (Rc f (-1) k → ¬ (k' ≠ k ∧ ¬ Rc f (k' : Int) k)) → c41 (enc S) (k : Int) (fun z => kk (!z) f m (k : Int) (i : Int) (ovl f.2.1.length O) (enc S)) := fun q1 q2 => by
      refine c41_ok (by omega) ?_
      cases hS : S k with
      | true =>
        have hr := (hD.seen k).1 hS
        exact h2 fun w => by rcases iff.1 w with w | w | w
                             · exact w hr
                             · exact q1 w
                             · exact q2 hr w
      | false => exact h1 (iff.2 (.inl fun w => by rw [(hD.seen k).2 w] at hS; cases hS))
    have other : k' ≠ k → br (decide ((0 : Int) ≤ (k : Int) ∧ (k : Int) < (((ovl f.2.1.length O).length : Nat) : Int))) (need False (ovl f.2.1.length O)[(k : Int).toNat]? fun y8 => c41 y8 (k' : Int) fun z9 => br z9 (kk true f m (k : Int) (i : Int) (ovl f.2.1.length O) (enc S))
        (c41 (enc S) (k : Int) (fun z => kk (!z) f m (k : Int) (i : Int) (ovl f.2.1.length O) (enc S)))) False := fun q => by
      rw [Int.toNat_natCast]
      refine brD (by omega) (needS (ovl_get hk) (c41_ok (by omega) (brB (fun w => h1 (iff.2 ?_)) fun w => last (fun w => q w.1) fun hr w2 => ?_)))
      · by_cases hr : Rc f (-1) k
        · exact .inr (.inr ⟨q, (hD.over k k' hr hk').1 w⟩)
        · exact .inl hr
      · rw [(hD.over k k' hr hk').2 w2.2] at w; cases w
    refine brE (fun q => brP (fun w => h1 (iff.2 (.inr (.inl ⟨?_, ?_⟩)))) fun w => brN (fun q2 => (q2 q).elim) fun _ => last ?_ ?_) fun q => brN (fun _ => other ?_) fun q2 => (q q2).elim
    · exact Int.ofNat_inj.1 q
    · exact Int.ofNat_le.1 w
    · exact fun z => w (Int.ofNat_le.2 z.2)
    · exact fun _ z => z.1 (Int.ofNat_inj.1 q)
    · exact fun z => q (by rw [z])
theorem l28r12_ok {f : FU} {m : MP} (hf : FOk f m) {O : BF} {S : Nat → Bool} (hD : Dn f O S) {k i : Nat} (hk : k < f.2.1.length) {l : List Int} (hl : l.length ≤ maxLen) {s1 : List BK} {s2 s3 s5 s6 : Int} {s4 : List IN} {b : BK} {k1 : Int → FU → MP → Prop} {k2 : List BK → Int → Int → List IN → Int → Int → FU → MP → List (List Int) → List Int → BK → Int → Int → Prop}
    (h1 : (∀ v ∈ l, Us f v k i) → k2 s1 s2 s3 s4 s5 s6 f m (ovl f.2.1.length O) (enc S) b (i : Int) (k : Int)) (h2 : (¬ ∀ v ∈ l, Us f v k i) → k1 6 f m) :
    l28r12 k1 k2 s1 s2 s3 s4 s5 s6 l (l.length : Int) 0 f m (ovl f.2.1.length O) (enc S) b (i : Int) (k : Int) := by
  have hm := hml
  constructor
  intro I hI
  refine allInd (N := l.length) (p := fun j => ∀ h : j < l.length, Us f l[j] k i) (M := fun j => I s1 s2 s3 s4 s5 s6 l (l.length : Int) (j : Int) f m (ovl f.2.1.length O) (enc S) b (i : Int) (k : Int)) (fun h => hI _ _ _ _ _ _ _ _ _ _ _ _ _ _ _ _ (brDn (by omega) (h1 fun v hv => ?_))) fun j hj hlt ih => hI _ _ _ _ _ _ _ _ _ _ _ _ _ _ _ _ ?_
  · obtain ⟨j, hj, rfl⟩ := List.mem_iff_getElem.1 hv
    exact h j hj hj
  · refine brD (by omega) (needAt hj (c40_ok hf hD hk (fun q => brF rfl ?_) fun q => brT rfl (h2 fun w => q (w _ (List.getElem_mem hj)))))
    show I s1 s2 s3 s4 s5 s6 l (l.length : Int) (IntKind.wrap .i64 ((j : Int) + 1)) f m _ _ b _ _
    rw [wrapS (n := j) (by omega)]
    exact ih fun _ => q
theorem l28r8_ok {f : FU} {m : MP} (hf : FOk f m) {O : BF} {S : Nat → Bool} (hD : Dn f O S) {k : Nat} (hk : k < f.2.1.length) {l : List IN} (hl : l.length ≤ maxLen) (ha : ∀ x ∈ l, x.2.2.2.1.length ≤ maxLen) {s1 : List BK} {s2 s3 s12 : Int} {b : BK} {k1 : Int → FU → MP → Prop} {k2 : List BK → Int → Int → FU → MP → List (List Int) → List Int → BK → Int → Int → Prop}
    (h1 : (∀ j x, l[j]? = some x → ∀ v ∈ x.2.2.2.1, Us f v k j) → ∀ s12, k2 s1 s2 s3 f m (ovl f.2.1.length O) (enc S) b s12 (k : Int)) (h2 : (¬ ∀ j x, l[j]? = some x → ∀ v ∈ x.2.2.2.1, Us f v k j) → k1 6 f m) :
    l28r8 k1 k2 s1 s2 s3 l (l.length : Int) 0 f m (ovl f.2.1.length O) (enc S) b s12 (k : Int) := by
  have hm := hml
  constructor
  intro I hI
  refine allInd (N := l.length) (p := fun j => ∀ h : j < l.length, ∀ v ∈ l[j].2.2.2.1, Us f v k j) (M := fun j => ∀ s12, I s1 s2 s3 l (l.length : Int) (j : Int) f m (ovl f.2.1.length O) (enc S) b s12 (k : Int)) (fun h s12 => hI _ _ _ _ _ _ _ _ _ _ _ _ _ (brDn (by omega) (h1 (fun j x hj => ?_) _))) (fun j hj hlt ih s12 => hI _ _ _ _ _ _ _ _ _ _ _ _ _ ?_) s12
  · obtain ⟨w, rfl⟩ := List.getElem?_eq_some_iff.1 hj
    exact h j w w
  · refine brD (by omega) (needAt hj (l28r12_ok hf hD hk (ha _ (List.getElem_mem hj)) (fun q => ?_) fun q => h2 fun w => q (w j _ (List.getElem?_eq_getElem hj))))
    show I s1 s2 s3 l (l.length : Int) (IntKind.wrap .i64 ((j : Int) + 1)) f m _ _ b _ _
    rw [wrapS (n := j) (by omega)]
    exact ih (fun _ => q) _
theorem l42r7_ok {f : FU} {m : MP} (hf : FOk f m) {O : BF} {S : Nat → Bool} (hD : Dn f O S) {k i : Nat} (hk : k < f.2.1.length) {l : List Int} (hl : l.length ≤ maxLen) {s1 : List ED} {s2 s3 : Int} {k1 : Bool → FU → MP → Int → Int → List (List Int) → List Int → Prop} {k2 : List ED → Int → Int → FU → MP → Int → Int → List (List Int) → List Int → Prop}
    (h1 : (∀ v ∈ l, Us f v k i) → k2 s1 s2 s3 f m (k : Int) (i : Int) (ovl f.2.1.length O) (enc S)) (h2 : (¬ ∀ v ∈ l, Us f v k i) → k1 false f m (k : Int) (i : Int) (ovl f.2.1.length O) (enc S)) :
    l42r7 k1 k2 s1 s2 s3 l (l.length : Int) 0 f m (k : Int) (i : Int) (ovl f.2.1.length O) (enc S) := by
  have hm := hml
  constructor
  intro I hI
  refine allInd (N := l.length) (p := fun j => ∀ h : j < l.length, Us f l[j] k i) (M := fun j => I s1 s2 s3 l (l.length : Int) (j : Int) f m (k : Int) (i : Int) (ovl f.2.1.length O) (enc S)) (fun h => hI _ _ _ _ _ _ _ _ _ _ _ _ (brDn (by omega) (h1 fun v hv => ?_))) fun j hj hlt ih => hI _ _ _ _ _ _ _ _ _ _ _ _ ?_
  · obtain ⟨j, hj, rfl⟩ := List.mem_iff_getElem.1 hv
    exact h j hj hj
  · refine brD (by omega) (needAt hj (c40_ok hf hD hk (fun q => brF rfl ?_) fun q => brT rfl (h2 fun w => q (w _ (List.getElem_mem hj)))))
    show I s1 s2 s3 l (l.length : Int) (IntKind.wrap .i64 ((j : Int) + 1)) f m _ _ _ _
    rw [wrapS (n := j) (by omega)]
    exact ih fun _ => q
theorem l42r4_ok {f : FU} {m : MP} (hf : FOk f m) {O : BF} {S : Nat → Bool} (hD : Dn f O S) {k i : Nat} (hk : k < f.2.1.length) {l : List ED} (hl : l.length ≤ maxLen) (ha : ∀ e ∈ l, e.2.1.length ≤ maxLen) {k1 : Bool → FU → MP → Int → Int → List (List Int) → List Int → Prop} {k2 : FU → MP → Int → Int → List (List Int) → List Int → Prop}
    (h1 : (∀ e ∈ l, ∀ v ∈ e.2.1, Us f v k i) → k2 f m (k : Int) (i : Int) (ovl f.2.1.length O) (enc S)) (h2 : (¬ ∀ e ∈ l, ∀ v ∈ e.2.1, Us f v k i) → k1 false f m (k : Int) (i : Int) (ovl f.2.1.length O) (enc S)) :
    l42r4 k1 k2 l (l.length : Int) 0 f m (k : Int) (i : Int) (ovl f.2.1.length O) (enc S) := by
  have hm := hml
  constructor
  intro I hI
  refine allInd (N := l.length) (p := fun j => ∀ h : j < l.length, ∀ v ∈ l[j].2.1, Us f v k i) (M := fun j => I l (l.length : Int) (j : Int) f m (k : Int) (i : Int) (ovl f.2.1.length O) (enc S)) (fun h => hI _ _ _ _ _ _ _ _ _ (brDn (by omega) (h1 fun e he => ?_))) fun j hj hlt ih => hI _ _ _ _ _ _ _ _ _ ?_
  · obtain ⟨j, hj, rfl⟩ := List.mem_iff_getElem.1 he
    exact h j hj hj
  · refine brD (by omega) (needAt hj (l42r7_ok hf hD hk (ha _ (List.getElem_mem hj)) (fun q => ?_) fun q => h2 fun w => q (w _ (List.getElem_mem hj))))
    show I l (l.length : Int) (IntKind.wrap .i64 ((j : Int) + 1)) f m _ _ _ _
    rw [wrapS (n := j) (by omega)]
    exact ih fun _ => q
def opr (t : TM) : List Int := (if t.1 = 0 ∨ t.1 = 2 ∨ t.1 = 3 then [t.2.1] else []) ++ t.2.2.2.2.1.flatMap fun e => e.2.1
theorem mem_opr {t : TM} {v : Int} : v ∈ opr t ↔ ((t.1 = 0 ∨ t.1 = 2 ∨ t.1 = 3) ∧ v = t.2.1) ∨ ∃ e ∈ t.2.2.2.2.1, v ∈ e.2.1 := by
  unfold opr
  rw [List.mem_append, List.mem_flatMap]
  refine or_congr ?_ Iff.rfl
  split
  · rename_i e; simp [e]
  · rename_i e; simp [e]
theorem shp_kind {t : TM} (h : shpP t) : (t.1 ≠ 1 ∧ t.1 ≠ 4) ↔ (t.1 = 0 ∨ t.1 = 2 ∨ t.1 = 3) := by
  have : t.1 = 0 ∨ t.1 = 1 ∨ t.1 = 2 ∨ t.1 = 3 ∨ t.1 = 4 := by
    rcases h with ⟨h, _⟩ | ⟨h, _⟩ | ⟨h, _⟩ | ⟨h, _⟩ | ⟨h, _⟩ <;> simp [h]
  omega
theorem c42_ok {f : FU} {m : MP} (hf : FOk f m) {O : BF} {S : Nat → Bool} (hD : Dn f O S) {k i : Nat} (hk : k < f.2.1.length) {t : TM} (hs : shpP t) (hl : t.2.2.2.2.1.length ≤ maxLen) (ha : ∀ e ∈ t.2.2.2.2.1, e.2.1.length ≤ maxLen) {kk : Bool → FU → MP → Int → Int → List (List Int) → List Int → Prop}
    (h1 : (∀ v ∈ opr t, Us f v k i) → kk true f m (k : Int) (i : Int) (ovl f.2.1.length O) (enc S)) (h2 : (¬ ∀ v ∈ opr t, Us f v k i) → kk false f m (k : Int) (i : Int) (ovl f.2.1.length O) (enc S)) : c42 t f m (k : Int) (i : Int) (ovl f.2.1.length O) (enc S) kk := by
  have hk2 := shp_kind hs
  have go : ((t.1 = 0 ∨ t.1 = 2 ∨ t.1 = 3) → Us f t.2.1 k i) → l42r4 (fun z15 z16 z17 z18 z19 z20 z21 => kk z15 z16 z17 z18 z19 z20 z21) (fun z22 z23 z24 z25 z26 z27 => kk true z22 z23 z24 z25 z26 z27) t.2.2.2.2.1 ((t.2.2.2.2.1.length : Nat) : Int) 0 f m (k : Int) (i : Int) (ovl f.2.1.length O) (enc S) := fun hA =>
    l42r4_ok hf hD hk hl ha (fun q => h1 fun v hv => by
      rcases mem_opr.1 hv with ⟨w, rfl⟩ | ⟨e, he, w⟩
      · exact hA w
      · exact q e he v w) fun q => h2 fun w => q fun e he v hv => w v (mem_opr.2 (.inr ⟨e, he, hv⟩))
  constructor
  refine brN (fun e1 => brN (fun e2 => ?_) fun e2 => go fun w => by omega) fun e1 => go fun w => by omega
  refine c40_ok hf hD hk (fun q => brF rfl (go fun _ => q)) fun q => brT rfl (h2 fun w => q (w _ (mem_opr.2 (.inl ⟨hk2.1 ⟨e1, e2⟩, rfl⟩))))
def UOk (f : FU) (k : Nat) (b : BK) : Prop := (∀ j x, b.2.1[j]? = some x → ∀ v ∈ x.2.2.2.1, Us f v k j) ∧ ∀ v ∈ opr b.2.2.1, Us f v k b.2.1.length
def AllU (f : FU) : Prop := ∀ k b, f.2.1[k]? = some b → UOk f k b
theorem l28r3_ok {f : FU} {m : MP} (hf : FOk f m) (hz : Szu f) {O : BF} {S : Nat → Bool} (hD : Dn f O S) {k1 : Int → FU → MP → Prop} {k2 : FU → MP → Prop} (h1 : AllU f → k2 f m) (h2 : ¬ AllU f → k1 6 f m) :
    l28r3 k1 k2 f.2.1 (f.2.1.length : Int) 0 f m (ovl f.2.1.length O) (enc S) := by
  have hn := hf.le
  constructor
  intro I hI
  refine allInd (N := f.2.1.length) (p := fun k => ∀ h : k < f.2.1.length, UOk f k f.2.1[k]) (M := fun k => I f.2.1 (f.2.1.length : Int) (k : Int) f m (ovl f.2.1.length O) (enc S)) (fun h => hI _ _ _ _ _ _ _ (brDn (by omega) (h1 fun k b hb => ?_))) fun k hk hlt ih => hI _ _ _ _ _ _ _ ?_
  · obtain ⟨w, rfl⟩ := List.getElem?_eq_some_iff.1 hb
    exact h k w w
  · have hb := List.getElem_mem hk
    have hg := List.getElem?_eq_getElem hk
    refine brD (by omega) (needAt hk (l28r8_ok hf hD hk (hz.ins _ hb) (hz.args _ hb) (fun q s => ?_) fun q => h2 fun w => q (w k _ hg).1))
    refine c42_ok hf hD hk (hf.shp _ hb) (hz.to _ hb) (hz.edg _ hb) (fun q2 => brF rfl ?_) fun q2 => brT rfl (h2 fun w => q2 (w k _ hg).2)
    show I f.2.1 (f.2.1.length : Int) (IntKind.wrap .i64 ((k : Int) + 1)) f m _ _
    rw [wrapS (n := k) (by omega)]
    exact ih fun _ => ⟨q, q2⟩
theorem c28_ok {f : FU} {m : MP} (hf : FOk f m) (hz : Szu f) {k : Int → FU → MP → Prop} (h1 : AllU f → k 0 f m) (h2 : ¬ AllU f → k 6 f m) : c28 f m k := by
  constructor
  exact c39_ok hf hz fun O S hD => l28r3_ok hf hz hD h1 h2
open Classical in
noncomputable def fErr (f : FU) : Int :=
  if f.2.1.length = 0 then 3 else if 128 < f.2.1.length then 2 else if 1024 < manyI 0 f.2.1 then 2 else if 6 < parN f.2.1 0 then 2 else if ¬ (-1 ≤ f.1 ∧ f.1 ≤ 1048575) then 4 else
  if (shpE f 0 f.2.1 []).1 ≠ 0 then (shpE f 0 f.2.1 []).1 else if AllU f then 0 else 6
theorem c16_ok {f : FU} (hz : Szu f) {k : Int → Prop} (h : k (fErr f)) : c16 f k := by
  constructor
  refine l16r3_ok hz.bl (brE (fun e => ?_) fun e => brP (fun e1 => ?_) fun e1 => brP (fun e2 => ?_) fun e2 => needAt (i := 0) (by omega) (brP (fun e3 => ?_) fun e3 => c26_if (fun e4 => brF rfl ?_) fun e4 => brT rfl ?_))
  · rw [fErr, if_pos (by omega)] at h; exact h
  · rw [fErr, if_neg (by omega), if_pos (by omega)] at h; exact h
  · rw [fErr, if_neg (by omega), if_neg (by omega), if_pos (by omega)] at h; exact h
  · rw [fErr, if_neg (by omega), if_neg (by omega), if_neg (by omega), if_pos (by rw [parN_at (by omega)]; omega)] at h; exact h
  · rw [fErr, if_neg (by omega), if_neg (by omega), if_neg (by omega), if_neg (by rw [parN_at (by omega)]; omega), if_neg (fun w => w e4)] at h
    refine l16r15_ok hz (by omega) (fun q => ?_) fun q => ?_
    · rw [if_pos q] at h; exact h
    · rw [if_neg (fun w => w q)] at h
      refine c28_ok (fok_of (by omega) (by omega) q) hz (fun w => ?_) fun w => ?_
      · rw [if_pos w] at h; exact h
      · rw [if_neg w] at h; exact h
  · rw [fErr, if_neg (by omega), if_neg (by omega), if_neg (by omega), if_neg (by rw [parN_at (by omega)]; omega), if_pos e4] at h; exact h
def Tr (s : List Bool) (r : Nat) : Prop := s[r]? = some true
theorem tr_set {s : List Bool} {i r : Nat} {v : Bool} (hi : i < s.length) : Tr (s.set i v) r ↔ (r = i ∧ v = true) ∨ (r ≠ i ∧ Tr s r) := by
  unfold Tr
  by_cases e : r = i
  · subst e; rw [List.getElem?_set_self hi]; simp
  · rw [List.getElem?_set_ne (fun h => e h.symm)]; simp [e]
theorem tr_get {s : List Bool} {r : Nat} (hr : r < s.length) : Tr s r ↔ s[r] = true := by
  unfold Tr
  rw [List.getElem?_eq_getElem hr]
  exact ⟨fun q => Option.some.inj q, fun q => by rw [q]⟩
theorem tr_lt {s : List Bool} {r : Nat} (h : Tr s r) : r < s.length := (List.getElem?_eq_some_iff.1 h).1
theorem cnt_eq : ∀ {s s' : List Bool}, s.length = s'.length → (∀ j, Tr s j → Tr s' j) → s.count true ≤ s'.count true ∧ (s'.count true ≤ s.count true → s' = s)
  | [], [], _, _ => ⟨Nat.le_refl _, fun _ => rfl⟩
  | a :: s, b :: s', hl, h => by
    obtain ⟨h1, h2⟩ := cnt_eq (s := s) (s' := s') (by simpa using hl) fun j hj => h (j + 1) hj
    have h0 : a = true → b = true := fun e => by
      have := h 0 (by unfold Tr; rw [e]; rfl)
      exact Option.some.inj this
    rw [List.count_cons, List.count_cons]
    cases a with
    | true =>
      rw [h0 rfl]
      exact ⟨by omega, fun w => by rw [h2 (by omega)]⟩
    | false =>
      cases b with
      | true => exact ⟨by simp; omega, fun w => by simp at w; omega⟩
      | false => exact ⟨by omega, fun w => by rw [h2 (by omega)]⟩
theorem Rc.no {f : FU} {j : Nat} (h : Rc f 0 j) : False := by
  induction h with
  | z w => exact w rfl
  | s _ _ _ ih => exact ih
structure Rs (f : FU) (w : Int) (s : List Bool) : Prop where
  len : s.length = f.2.1.length
  s0 : Tr s 0
  snd : ∀ j, Tr s j → Rc f w j
theorem l10r11_ok {f : FU} {m : MP} (hf : FOk f m) {w : Int} {k : Nat} {b : BK} (hb : f.2.1[k]? = some b) (hl : (tos b).length ≤ maxLen) {s3 s4 s6 s7 : Int} {s5 : List BK} {k1 : Int → Int → Int → List BK → Int → Int → FU → List Bool → Prop} {s : List Bool} (hs : Rs f w s)
    (h : ∀ s', Rs f w s' → (∀ j, Tr s j → Tr s' j) → (Tr s k → ∀ e ∈ tos b, e.1 ≠ w → Tr s' e.1.toNat) → k1 w s3 s4 s5 s6 s7 f s') :
    l10r11 k1 w (k : Int) s3 s4 s5 s6 s7 (tos b) ((tos b).length : Int) 0 f s := by
  have hm := hml
  have hn := hf.le
  have hkl := (List.getElem?_eq_some_iff.1 hb).1
  constructor
  intro I hI
  have key := dropInd (l := tos b) (M := fun i r => ∀ s, Rs f w s → (∀ s', Rs f w s' → (∀ j, Tr s j → Tr s' j) → (Tr s k → ∀ e ∈ r, e.1 ≠ w → Tr s' e.1.toNat) → k1 w s3 s4 s5 s6 s7 f s') → I w (k : Int) s3 s4 s5 s6 s7 (tos b) ((tos b).length : Int) (i : Int) f s)
    (fun s hs h => hI _ _ _ _ _ _ _ _ _ _ _ _ (brDn (by omega) (h s hs (fun _ q => q) fun _ e he => by cases he)))
    (fun i hi ih s hs h => by
      apply hI
      have hx : (tos b)[i] ∈ tos b := List.getElem_mem hi
      obtain ⟨q1, q2, _⟩ := hf.edg b (List.mem_of_getElem? hb) _ hx
      obtain ⟨e, he⟩ := Int.eq_ofNat_of_zero_le (show 0 ≤ ((tos b)[i]).1 by omega)
      have hel : e < f.2.1.length := by omega
      have hsl := hs.len
      have hT : Tr s k ↔ s[k]'(by omega) = true := tr_get (by omega)
      rw [wrapS (n := i) (by omega), wrap64 (a := ((f.2.1.length : Nat) : Int) - 1) (by omega) (by omega)]
      refine brD (by omega) (needAt hi ?_)
      rw [he, Int.toNat_natCast, Int.toNat_natCast]
      refine brD (by omega) (needNth (by omega) (brB (fun t => brN (fun ne => c21_if (fun _ => brT rfl (brD (by omega) (needNth (by omega) ?_))) fun w2 => (w2 ⟨by omega, by omega⟩).elim) fun ne => ?_) fun t => ?_))
      · refine ih _ ⟨by simp [hsl], (tr_set (by omega)).2 (.inr ⟨by omega, hs.s0⟩), fun j hj => ?_⟩ fun s' h1 h2 h3 => h s' h1 (fun j hj => h2 j ?_) fun tk x hx' hxw => ?_
        · rcases (tr_set (by omega)).1 hj with ⟨rfl, _⟩ | ⟨_, q⟩
          · exact .s (hs.snd k (hT.2 t)) ⟨b, hb, _, hx, he⟩ ne
          · exact hs.snd j q
        · by_cases q : j = e
          · exact (tr_set (by omega)).2 (.inl ⟨q, rfl⟩)
          · exact (tr_set (by omega)).2 (.inr ⟨q, hj⟩)
        · rcases List.mem_cons.1 hx' with rfl | hx'
          · rw [he, Int.toNat_natCast]; exact h2 e ((tr_set (by omega)).2 (.inl ⟨rfl, rfl⟩))
          · refine h3 ?_ x hx' hxw
            by_cases q : k = e
            · exact (tr_set (by omega)).2 (.inl ⟨q, rfl⟩)
            · exact (tr_set (by omega)).2 (.inr ⟨q, tk⟩)
      · refine ih s hs fun s' h1 h2 h3 => h s' h1 h2 fun tk x hx' hxw => ?_
        rcases List.mem_cons.1 hx' with rfl | hx'
        · exact (hxw (he.trans ne)).elim
        · exact h3 tk x hx' hxw
      · exact ih s hs fun s' h1 h2 h3 => h s' h1 h2 fun tk => by rw [hT.1 tk] at t; cases t)
  exact key s hs h
theorem l10r8_ok {f : FU} {m : MP} (hf : FOk f m) (hz : Szu f) {w : Int} {s2 s3 : Int} {k1 : Int → Int → Int → FU → List Bool → Prop} {s : List Bool} (hs : Rs f w s)
    (h : ∀ s', Rs f w s' → (∀ j, Tr s j → Tr s' j) → (∀ k j, Tr s k → Eg f k j → (j : Int) ≠ w → Tr s' j) → k1 w s2 s3 f s') : l10r8 k1 w s2 s3 f.2.1 (f.2.1.length : Int) 0 f s := by
  have hn := hf.le
  constructor
  intro I hI
  have key := upInd (N := f.2.1.length) (M := fun i => ∀ s, Rs f w s → (∀ s', Rs f w s' → (∀ j, Tr s j → Tr s' j) → (∀ k j, i ≤ k → Tr s k → Eg f k j → (j : Int) ≠ w → Tr s' j) → k1 w s2 s3 f s') → I w s2 s3 f.2.1 (f.2.1.length : Int) (i : Int) f s)
    (fun s hs h => hI _ _ _ _ _ _ _ _ (brDn (by omega) (h s hs (fun _ q => q) fun k j q _ e _ => by have := (e.lt hf).1; omega)))
    (fun i hi ih s hs h => by
      apply hI
      have hb := List.getElem?_eq_getElem hi
      refine brD (by omega) (needAt hi (l10r11_ok (b := f.2.1[i]) hf hb (hz.to _ (List.getElem_mem hi)) hs fun s' h1 h2 h3 => ?_))
      show I w s2 s3 f.2.1 (f.2.1.length : Int) (IntKind.wrap .i64 ((i : Int) + 1)) f s'
      rw [wrapS (n := i) (by omega)]
      refine ih s' h1 fun s2 g1 g2 g3 => h s2 g1 (fun j q => g2 j (h2 j q)) fun k j q1 q2 q3 q4 => ?_
      by_cases q : k = i
      · subst q
        obtain ⟨b', w1, e, w2, w3⟩ := q3
        rw [hb] at w1
        obtain rfl := Option.some.inj w1
        have := h3 q2 e w2 (by rw [w3]; exact q4)
        rw [w3, Int.toNat_natCast] at this
        exact g2 j this
      · exact g3 k j (by omega) (h2 k q2) q3 q4)
    0 (Nat.zero_le _)
  exact key s hs fun s' h1 h2 h3 => h s' h1 h2 fun k j q => h3 k j (Nat.zero_le _) q
theorem l10r6_ok {f : FU} {m : MP} (hf : FOk f m) (hz : Szu f) {w : Int} {k1 : List Bool → Prop} {s : List Bool} (hs : Rs f w s) (h : ∀ s', s'.length = f.2.1.length → (∀ j, Tr s' j ↔ Rc f w j) → k1 s') : l10r6 k1 w (f.2.1.length : Int) 0 f s := by
  have hn := hf.le
  constructor
  intro I hI
  have key := upInd (N := f.2.1.length) (M := fun r => ∀ s, Rs f w s → ((∀ j, Rc f w j → Tr s j) ∨ r + 1 ≤ s.count true) → I w (f.2.1.length : Int) (r : Int) f s)
    (fun s hs q => hI _ _ _ _ _ (brDn (by omega) (h s hs.len fun j => ⟨hs.snd j, fun w2 => by
      rcases q with q | q
      · exact q j w2
      · have := List.count_le_length (a := true) (l := s)
        have := hs.len
        omega⟩)))
    (fun r hr ih s hs q => by
      apply hI
      refine brD (by omega) (l10r8_ok hf hz hs fun s' h1 h2 h3 => ?_)
      show I w (f.2.1.length : Int) (IntKind.wrap .i64 ((r : Int) + 1)) f s'
      rw [wrapS (n := r) (by omega)]
      refine ih s' h1 ?_
      rcases q with q | q
      · exact .inl fun j w2 => h2 j (q j w2)
      · obtain ⟨c1, c2⟩ := cnt_eq (s := s) (s' := s') (by rw [hs.len, h1.len]) h2
        by_cases c903 : s'.count true ≤ s.count true
        · refine .inl fun j w2 => ?_
          have e := c2 c903
          induction w2 with
          | z _ => exact h1.s0
          | s _ e1 e2 ih => exact h3 _ _ (by rw [← e]; exact ih) e1 e2
        · exact .inr (by omega))
    0 (Nat.zero_le _)
  refine key s hs (.inr ?_)
  have : true ∈ s := List.mem_of_getElem? hs.s0
  exact List.count_pos_iff.2 this
theorem c10_ok {f : FU} {m : MP} (hf : FOk f m) (hz : Szu f) {w : Int} {k : List Bool → Prop} (h : ∀ s', s'.length = f.2.1.length → (∀ j, Tr s' j ↔ Rc f w j) → k s') : c10 f w k := by
  have hn := hf.le
  have hp := hf.pos
  have hrl : (List.replicate (Int.toNat ((f.2.1.length : Nat) : Int)) false).length = f.2.1.length := by simp
  have hrt : ∀ j, ¬ Tr (List.replicate (Int.toNat ((f.2.1.length : Nat) : Int)) false) j := fun j q => by
    unfold Tr at q
    rw [List.getElem?_replicate] at q
    split at q <;> cases q
  constructor
  refine brD (by omega) (brE (fun e => h _ hrl fun j => ⟨fun q => (hrt j q).elim, fun q => by rw [e] at q; exact q.no.elim⟩) fun e => brE (fun e2 => absurd e2 (by omega)) fun _ => brD (by rw [hrl]; omega) (needNth (by rw [hrl]; omega) ?_))
  refine l10r6_ok hf hz ⟨by rw [List.length_set, hrl], (tr_set (by rw [hrl]; omega)).2 (.inl ⟨rfl, rfl⟩), fun j hj => ?_⟩ h
  rcases (tr_set (by rw [hrl]; omega)).1 hj with ⟨rfl, _⟩ | ⟨_, q⟩
  · exact .z e
  · exact (hrt j q).elim
theorem c35_ok {f : FU} {m : MP} (hf : FOk f m) (hz : Szu f) {a b : Nat} (hb : b < f.2.1.length) {k : Bool → Prop} (h1 : ¬ Rc f (a : Int) b → k true) (h2 : Rc f (a : Int) b → k false) : c35 f (a : Int) (b : Int) k := by
  constructor
  refine brE (fun e => h1 fun w => w.ne e.symm) fun e => c10_ok hf hz fun s hl hs => ?_
  rw [Int.toNat_natCast]
  refine brD (by omega) (needNth (by omega) ?_)
  have hT := tr_get (s := s) (r := b) (by omega)
  cases hv : s[b]'(by omega) with
  | true => exact h2 ((hs b).1 (hT.2 hv))
  | false => exact h1 fun w => by rw [hT.1 ((hs b).2 w)] at hv; cases hv
def Hr (f : FU) (v : Int) (k i n : Nat) : Prop := ∃ i', Df f v n i' ∧ (n ≠ k ∨ i' ≤ i ∨ ¬ Rc f (-1) k)
theorem us_iff {f : FU} {v : Int} {k i : Nat} : Us f v k i ↔ ∃ n, Hr f v k i n ∧ (¬ Rc f (-1) k ∨ ¬ Rc f (n : Int) k) := by
  constructor
  · rintro ⟨n, i', hd, h | ⟨rfl, h⟩ | ⟨h, h2⟩⟩
    · exact ⟨n, ⟨i', hd, .inr (.inr h)⟩, .inl h⟩
    · exact ⟨n, ⟨i', hd, .inr (.inl h)⟩, .inr fun w => w.ne rfl⟩
    · exact ⟨n, ⟨i', hd, .inl h⟩, .inr h2⟩
  · rintro ⟨n, ⟨i', hd, h⟩, h2⟩
    by_cases hr : Rc f (-1) k
    · rcases h2 with h2 | h2
      · exact (h2 hr).elim
      · by_cases e : n = k
        · subst e
          rcases h with h | h | h
          · exact (h rfl).elim
          · exact ⟨n, i', hd, .inr (.inl ⟨rfl, h⟩)⟩
          · exact (h hr).elim
        · exact ⟨n, i', hd, .inr (.inr ⟨e, h2⟩)⟩
    · exact ⟨n, i', hd, .inl hr⟩
theorem l23r6_ok {f : FU} {v : Int} {k i n : Nat} {s : List Bool} (hk : k < s.length) (hs : ∀ j, Tr s j ↔ Rc f (-1) j) {l : List IN} (hl : l.length ≤ maxLen) {s7 : List BK} {s8 s9 : Int} {k1 : Int → Int → Int → List Bool → Int → Bool → List BK → Int → Int → FU → Prop} {h0 : Bool}
    (h : ∀ b : Bool, (b = true ↔ h0 = true ∨ ∃ j x, l[j]? = some x ∧ x.1 = v ∧ (n ≠ k ∨ j < i ∨ ¬ Rc f (-1) k)) → k1 v (k : Int) (i : Int) s (n : Int) b s7 s8 s9 f) :
    l23r6 k1 v (k : Int) (i : Int) s (n : Int) h0 s7 s8 s9 l (l.length : Int) 0 f := by
  have hm := hml
  constructor
  intro I hI
  have key := upInd (N := l.length) (M := fun a => ∀ b : Bool, (b = true ↔ h0 = true ∨ ∃ j x, j < a ∧ l[j]? = some x ∧ x.1 = v ∧ (n ≠ k ∨ j < i ∨ ¬ Rc f (-1) k)) → I v (k : Int) (i : Int) s (n : Int) b s7 s8 s9 l (l.length : Int) (a : Int) f)
    (fun b hb => hI _ _ _ _ _ _ _ _ _ _ _ _ _ (brDn (by omega) (h b (hb.trans (or_congr Iff.rfl ⟨fun ⟨j, x, _, q⟩ => ⟨j, x, q⟩, fun ⟨j, x, q⟩ => ⟨j, x, (List.getElem?_eq_some_iff.1 q.1).1, q⟩⟩)))))
    (fun a ha ih b hb => by
      apply hI
      have hga := List.getElem?_eq_getElem ha
      have old : ∀ {x : Prop}, (b = true → x) → (h0 = true ∨ ∃ j x, j < a ∧ l[j]? = some x ∧ x.1 = v ∧ (n ≠ k ∨ j < i ∨ ¬ Rc f (-1) k)) → x := fun q w => q (hb.2 w)
      have up : (h0 = true ∨ ∃ j x, j < a ∧ l[j]? = some x ∧ x.1 = v ∧ (n ≠ k ∨ j < i ∨ ¬ Rc f (-1) k)) → (h0 = true ∨ ∃ j x, j < a + 1 ∧ l[j]? = some x ∧ x.1 = v ∧ (n ≠ k ∨ j < i ∨ ¬ Rc f (-1) k)) := Or.imp id fun ⟨j, x, q, w⟩ => ⟨j, x, by omega, w⟩
      have yes : (l[a].1 = v ∧ (n ≠ k ∨ a < i ∨ ¬ Rc f (-1) k)) → I v (k : Int) (i : Int) s (n : Int) true s7 s8 s9 l (l.length : Int) ((a + 1 : Nat) : Int) f := fun q => ih true ⟨fun _ => .inr ⟨a, _, by omega, hga, q⟩, fun _ => rfl⟩
      have no : b = false → ¬ (l[a].1 = v ∧ (n ≠ k ∨ a < i ∨ ¬ Rc f (-1) k)) → I v (k : Int) (i : Int) s (n : Int) false s7 s8 s9 l (l.length : Int) ((a + 1 : Nat) : Int) f := fun hb0 q => ih false ⟨fun w => (by cases w), fun w => by
        rcases w with w | ⟨j, x, q1, q2, q3⟩
        · rw [hb.2 (.inl w)] at hb0; cases hb0
        · by_cases e : j = a
          · subst e
            rw [hga] at q2
            obtain rfl := Option.some.inj q2
            exact (q q3).elim
          · rw [hb.2 (.inr ⟨j, x, by omega, q2, q3⟩)] at hb0; cases hb0⟩
      have hT : Tr s k ↔ s[k] = true := tr_get hk
      rw [wrapS (n := a) (by omega)]
      refine brD (by omega) (needAt ha (brB (fun q => ih true ⟨fun _ => up (hb.1 q), fun _ => rfl⟩) fun q => brE (fun e => brN (fun e2 => yes ⟨e, .inl (by omega)⟩) fun e2 => brP (fun e3 => yes ⟨e, .inr (.inl (by omega))⟩) fun e3 => needAt hk ?_) fun e => no q fun w => e w.1))
      cases hv : s[k] with
      | true =>
        refine no q ?_
        have hr := (hs k).1 (hT.2 hv)
        rintro ⟨_, w | w | w⟩
        · omega
        · omega
        · exact w hr
      | false => exact yes ⟨e, .inr (.inr fun w => by rw [hT.1 ((hs k).2 w)] at hv; cases hv)⟩)
    0 (Nat.zero_le _)
  exact key h0 ⟨fun w => .inl w, fun w => w.elim id fun ⟨j, _, q, _⟩ => absurd q (by omega)⟩
theorem l23r2_ok {f : FU} {m : MP} (hf : FOk f m) (hz : Szu f) {v : Int} {k i : Nat} (hk : k < f.2.1.length) {s : List Bool} (hsl : s.length = f.2.1.length) (hs : ∀ j, Tr s j ↔ Rc f (-1) j) {k1 : Bool → Prop} {k2 : Prop}
    (h1 : Us f v k i → k1 true) (h2 : ¬ Us f v k i → k1 false) (h3 : ¬ Us f v k i → k2) : l23r2 k1 k2 v (k : Int) (i : Int) s f.2.1 (f.2.1.length : Int) 0 f := by
  have hn := hf.le
  constructor
  intro I hI
  refine allInd (N := f.2.1.length) (p := fun n => ¬ Hr f v k i n) (M := fun n => I v (k : Int) (i : Int) s f.2.1 (f.2.1.length : Int) (n : Int) f) (fun hall => hI _ _ _ _ _ _ _ _ (brDn (by omega) (h3 fun w => ?_))) fun n hnl hlt ih => hI _ _ _ _ _ _ _ _ ?_
  · obtain ⟨n, hr, _⟩ := us_iff.1 w
    obtain ⟨i', ⟨b, hb, _⟩, _⟩ := id hr
    exact hall n (List.getElem?_eq_some_iff.1 hb).1 hr
  · have hb := List.getElem_mem hnl
    have hg := List.getElem?_eq_getElem hnl
    have hiff : ∀ b : Bool, (b = true ↔ (decide (v ∈ f.2.1[n].1) = true ∨ ∃ j x, f.2.1[n].2.1[j]? = some x ∧ x.1 = v ∧ (n ≠ k ∨ j < i ∨ ¬ Rc f (-1) k))) → (b = true ↔ Hr f v k i n) := fun b hb => by
      rw [hb, decide_eq_true_eq]
      constructor
      · rintro (w | ⟨j, x, w1, w2, w3⟩)
        · exact ⟨0, ⟨_, hg, .inl ⟨rfl, w⟩⟩, .inr (.inl (Nat.zero_le _))⟩
        · exact ⟨j + 1, ⟨_, hg, .inr ⟨j, x, rfl, w1, w2⟩⟩, w3.imp id (Or.imp id id)⟩
      · rintro ⟨i', ⟨b', w1, w2⟩, w3⟩
        rw [hg] at w1
        obtain rfl := Option.some.inj w1
        rcases w2 with ⟨_, w2⟩ | ⟨j, x, rfl, w4, w5⟩
        · exact .inl w2
        · exact .inr ⟨j, x, w4, w5, w3.imp id (Or.imp id id)⟩
    have go : ∀ h0 : Bool, h0 = decide (v ∈ f.2.1[n].1) → l23r6 (fun z11 z12 z13 z14 z15 z16 z17 z18 z19 z20 => br z16 (need False (at? z14 z12) fun y21 => br (!y21) (k1 true) (c35 z20 z15 z12 fun z => k1 z)) (I z11 z12 z13 z14 z17 z18 (IntKind.wrap .i64 (z19 + 1)) z20))
        v (k : Int) (i : Int) s (n : Int) h0 f.2.1 (f.2.1.length : Int) (n : Int) f.2.1[n].2.1 ((f.2.1[n].2.1.length : Nat) : Int) 0 f := fun h0 e0 => by
      refine l23r6_ok (by omega) hs (hz.ins _ hb) fun b hb => ?_
      rw [e0] at hb
      have hH := hiff b hb
      cases b with
      | false =>
        refine brF rfl ?_
        show I v (k : Int) (i : Int) s f.2.1 (f.2.1.length : Int) (IntKind.wrap .i64 ((n : Int) + 1)) f
        rw [wrapS (n := n) (by omega)]
        exact ih fun w => by cases hH.2 w
      | true =>
        have hHn := hH.1 rfl
        have hT : Tr s k ↔ s[k]'(by omega) = true := tr_get (by omega)
        refine brT rfl (needAt (by omega) ?_)
        cases hv : s[k]'(by omega) with
        | false => exact brT rfl (h1 (us_iff.2 ⟨n, hHn, .inl fun w => by rw [hT.1 ((hs k).2 w)] at hv; cases hv⟩))
        | true =>
          have hr := (hs k).1 (hT.2 hv)
          refine brF rfl (c35_ok hf hz hk (fun w => h1 (us_iff.2 ⟨n, hHn, .inr w⟩)) fun w => h2 fun w2 => ?_)
          obtain ⟨n', ⟨i2, d2, _⟩, q⟩ := us_iff.1 w2
          obtain ⟨i1, d1, _⟩ := hHn
          obtain ⟨rfl, _⟩ := hf.uniq d1 d2
          exact q.elim (fun q => q hr) fun q => q w
    refine brD (by omega) (needAt hnl (c34_ok (hz.par _ hb) (fun q => go true (decide_eq_true q).symm) fun q => go false (decide_eq_false q).symm))
theorem c23_ok {f : FU} {m : MP} (hf : FOk f m) (hz : Szu f) {v : Int} {k i : Nat} (hk : k < f.2.1.length) {s : List Bool} (hsl : s.length = f.2.1.length) (hs : ∀ j, Tr s j ↔ Rc f (-1) j) {kk : Bool → Prop}
    (h1 : Us f v k i → kk true) (h2 : ¬ Us f v k i → kk false) : c23 f v (k : Int) (i : Int) s kk := ⟨l23r2_ok hf hz hk hsl hs h1 h2 h2⟩
theorem l24r5_ok {l : List ED} {acc : List Int} {k : List Int → Prop} (hl : l.length ≤ 257) (ha : ∀ e ∈ l, e.2.1.length ≤ 4096) (h0 : acc.length ≤ 1) (h : k (acc ++ l.flatMap fun e => e.2.1)) : l24r5 k l (l.length : Int) 0 acc := by
  constructor
  intro I hI
  have key := dropInd (l := l) (M := fun i r => ∀ acc : List Int, acc.length ≤ 1 + i * 4096 → k (acc ++ r.flatMap fun e => e.2.1) → I l (l.length : Int) (i : Int) acc)
    (fun acc _ h => hI _ _ _ _ (brDn (by omega) (by simpa using h)))
    (fun i hi ih acc hacc h => by
      apply hI
      have hx := ha _ (List.getElem_mem hi)
      rw [List.flatMap_cons, ← List.append_assoc] at h
      rw [wrapS (n := i) (by omega)]
      refine brD (by omega) (needAt hi (brB (fun q => ?_) fun q => brT (roomS (by omega)) ?_))
      · rw [List.isEmpty_iff.1 q, List.append_nil] at h
        have hb : acc.length ≤ 1 + (i + 1) * 4096 := Nat.le_trans hacc (Nat.add_le_add_left (Nat.mul_le_mul_right _ (Nat.le_succ i)) 1)
        exact ih acc hb h
      · exact ih _ (by rw [List.length_append]; omega) h)
  exact key acc (by omega) h
theorem c24_ok {t : TM} {k : List Int → Prop} (hl : t.2.2.2.2.1.length ≤ 257) (ha : ∀ e ∈ t.2.2.2.2.1, e.2.1.length ≤ 4096) (h : k (opr t)) : c24 t k := by
  unfold opr at h
  have go : (t.1 = 0 ∨ t.1 = 2 ∨ t.1 = 3) → l24r5 (fun z => k z) t.2.2.2.2.1 ((t.2.2.2.2.1.length : Nat) : Int) 0 [t.2.1] := fun e => l24r5_ok hl ha (Nat.le_refl _) (by rw [if_pos e] at h; exact h)
  constructor
  refine brE (fun e => brT rfl (go (.inl e))) fun e => brE (fun e2 => brT rfl (go (.inr (.inl e2)))) fun e2 => brE (fun e3 => brT rfl (go (.inr (.inr e3)))) fun e3 => l24r5_ok hl ha (Nat.zero_le _) ?_
  rw [if_neg (by omega)] at h
  exact h
theorem l9r24_ok {f : FU} {m : MP} (hf : FOk f m) (hz : Szu f) {k i : Nat} (hk : k < f.2.1.length) {s : List Bool} (hsl : s.length = f.2.1.length) (hs : ∀ j, Tr s j ↔ Rc f (-1) j) {l : List Int} (hl : l.length ≤ maxLen) {s3 : List BK} {s4 s5 s7 s8 : Int} {s6 : List IN} {b : BK} {k1 : Int → Prop} {k2 : Int → List BK → Int → Int → List IN → Int → Int → FU → List Bool → BK → Prop}
    (h1 : (∀ v ∈ l, Us f v k i) → k2 (k : Int) s3 s4 s5 s6 s7 s8 f s b) (h2 : (¬ ∀ v ∈ l, Us f v k i) → k1 6) : l9r24 k1 k2 (k : Int) (i : Int) s3 s4 s5 s6 s7 s8 l (l.length : Int) 0 f s b := by
  have hm := hml
  constructor
  intro I hI
  refine allInd (N := l.length) (p := fun j => ∀ h : j < l.length, Us f l[j] k i) (M := fun j => I (k : Int) (i : Int) s3 s4 s5 s6 s7 s8 l (l.length : Int) (j : Int) f s b) (fun h => hI _ _ _ _ _ _ _ _ _ _ _ _ _ _ (brDn (by omega) (h1 fun v hv => ?_))) fun j hj hlt ih => hI _ _ _ _ _ _ _ _ _ _ _ _ _ _ ?_
  · obtain ⟨j, hj, rfl⟩ := List.mem_iff_getElem.1 hv
    exact h j hj hj
  · rw [wrapS (n := j) (by omega)]
    refine brD (by omega) (needAt hj (c23_ok hf hz hk hsl hs (fun q => brF rfl (ih fun _ => q)) fun q => brT rfl (h2 fun w => q (w _ (List.getElem_mem hj)))))
theorem l9r21_ok {f : FU} {m : MP} (hf : FOk f m) (hz : Szu f) {k : Nat} (hk : k < f.2.1.length) {s : List Bool} (hsl : s.length = f.2.1.length) (hs : ∀ j, Tr s j ↔ Rc f (-1) j) {l : List IN} (hl : l.length ≤ maxLen) (ha : ∀ x ∈ l, x.2.2.2.1.length ≤ maxLen) {s2 : List BK} {s3 s4 : Int} {b : BK} {k1 : Int → Prop} {k2 : Int → List BK → Int → Int → FU → List Bool → BK → Prop}
    (h1 : (∀ j x, l[j]? = some x → ∀ v ∈ x.2.2.2.1, Us f v k j) → k2 (k : Int) s2 s3 s4 f s b) (h2 : (¬ ∀ j x, l[j]? = some x → ∀ v ∈ x.2.2.2.1, Us f v k j) → k1 6) : l9r21 k1 k2 (k : Int) s2 s3 s4 l (l.length : Int) 0 f s b := by
  have hm := hml
  constructor
  intro I hI
  refine allInd (N := l.length) (p := fun j => ∀ h : j < l.length, ∀ v ∈ l[j].2.2.2.1, Us f v k j) (M := fun j => I (k : Int) s2 s3 s4 l (l.length : Int) (j : Int) f s b) (fun h => hI _ _ _ _ _ _ _ _ _ _ (brDn (by omega) (h1 fun j x hj => ?_))) fun j hj hlt ih => hI _ _ _ _ _ _ _ _ _ _ ?_
  · obtain ⟨w, rfl⟩ := List.getElem?_eq_some_iff.1 hj
    exact h j w w
  · refine brD (by omega) (needAt hj (l9r24_ok hf hz hk hsl hs (ha _ (List.getElem_mem hj)) (fun q => ?_) fun q => h2 fun w => q (w j _ (List.getElem?_eq_getElem hj))))
    show I (k : Int) s2 s3 s4 l (l.length : Int) (IntKind.wrap .i64 ((j : Int) + 1)) f s b
    rw [wrapS (n := j) (by omega)]
    exact ih fun _ => q
theorem l9r31_ok {f : FU} {m : MP} (hf : FOk f m) (hz : Szu f) {k : Nat} (hk : k < f.2.1.length) {s : List Bool} (hsl : s.length = f.2.1.length) (hs : ∀ j, Tr s j ↔ Rc f (-1) j) {l : List Int} (hl : l.length ≤ maxLen) {s2 : List BK} {s3 s4 : Int} {b : BK} {k1 : Int → Prop} {k2 : List BK → Int → Int → FU → List Bool → Prop}
    (h1 : (∀ v ∈ l, Us f v k b.2.1.length) → k2 s2 s3 s4 f s) (h2 : (¬ ∀ v ∈ l, Us f v k b.2.1.length) → k1 6) : l9r31 k1 k2 (k : Int) s2 s3 s4 (l.length : Int) 0 f s b l := by
  have hm := hml
  constructor
  intro I hI
  refine allInd (N := l.length) (p := fun j => ∀ h : j < l.length, Us f l[j] k b.2.1.length) (M := fun j => I (k : Int) s2 s3 s4 (l.length : Int) (j : Int) f s b l) (fun h => hI _ _ _ _ _ _ _ _ _ _ (brDn (by omega) (h1 fun v hv => ?_))) fun j hj hlt ih => hI _ _ _ _ _ _ _ _ _ _ ?_
  · obtain ⟨j, hj, rfl⟩ := List.mem_iff_getElem.1 hv
    exact h j hj hj
  · rw [wrapS (n := j) (by omega), Int.toNat_natCast]
    refine brD (by omega) (brD (by omega) (needNth hj (c23_ok hf hz hk hsl hs (fun q => brF rfl (ih fun _ => q)) fun q => brT rfl (h2 fun w => q (w _ (List.getElem_mem hj))))))
theorem edg_len {f : FU} {m : MP} (hf : FOk f m) {b : BK} (hb : b ∈ f.2.1) {e : ED} (he : e ∈ b.2.2.1.2.2.2.2.1) : e.2.1.length ≤ 4096 := by
  obtain ⟨h1, h2, h3⟩ := hf.edg b hb e he
  have hl : e.1.toNat < f.2.1.length := by omega
  rw [h3, parN_at hl]
  exact hf.pl _ (List.getElem_mem hl)
theorem opr_len {f : FU} {m : MP} (hf : FOk f m) {b : BK} (hb : b ∈ f.2.1) : (opr b.2.2.1).length ≤ 2000000 := by
  have h : ∀ l : List ED, (∀ e ∈ l, e.2.1.length ≤ 4096) → (l.flatMap fun e => e.2.1).length ≤ l.length * 4096 := by
    intro l
    induction l with
    | nil => intro _; simp
    | cons e r ih =>
      intro h
      rw [List.flatMap_cons, List.length_append, List.length_cons, Nat.add_mul]
      have h1 := h e List.mem_cons_self
      have h2 := ih fun e he => h e (List.mem_cons_of_mem _ he)
      omega
  have h1 := h b.2.2.1.2.2.2.2.1 fun e he => edg_len hf hb he
  have h2 := hf.tl b hb
  have h3 : b.2.2.1.2.2.2.2.1.length * 4096 ≤ 257 * 4096 := Nat.mul_le_mul_right _ h2
  unfold opr
  rw [List.length_append]
  split
  · rw [List.length_singleton]; omega
  · rw [List.length_nil]; omega
theorem l9r18_ok {f : FU} {m : MP} (hf : FOk f m) (hz : Szu f) {s : List Bool} (hsl : s.length = f.2.1.length) (hs : ∀ j, Tr s j ↔ Rc f (-1) j) {k1 : Int → Prop} {k2 : Prop} (h1 : AllU f → k2) (h2 : ¬ AllU f → k1 6) : l9r18 k1 k2 f.2.1 (f.2.1.length : Int) 0 f s := by
  have hn := hf.le
  have hm := hml
  constructor
  intro I hI
  refine allInd (N := f.2.1.length) (p := fun k => ∀ h : k < f.2.1.length, UOk f k f.2.1[k]) (M := fun k => I f.2.1 (f.2.1.length : Int) (k : Int) f s) (fun h => hI _ _ _ _ _ (brDn (by omega) (h1 fun k b hb => ?_))) fun k hk hlt ih => hI _ _ _ _ _ ?_
  · obtain ⟨w, rfl⟩ := List.getElem?_eq_some_iff.1 hb
    exact h k w w
  · have hb := List.getElem_mem hk
    have hg := List.getElem?_eq_getElem hk
    have hol := opr_len hf hb
    refine brD (by omega) (needAt hk (l9r21_ok hf hz hk hsl hs (hz.ins _ hb) (hz.args _ hb) (fun q => ?_) fun q => h2 fun w => q (w k _ hg).1))
    refine c24_ok (hf.tl _ hb) (fun e he => edg_len hf hb he) (l9r31_ok hf hz hk hsl hs (by omega) (fun q2 => ?_) fun q2 => h2 fun w => q2 (w k _ hg).2)
    show I f.2.1 (f.2.1.length : Int) (IntKind.wrap .i64 ((k : Int) + 1)) f s
    rw [wrapS (n := k) (by omega)]
    exact ih fun _ => ⟨q, q2⟩
theorem c9_ok {f : FU} (hz : Szu f) {k : Int → Prop} (h : k (fErr f)) : c9 f k := by
  constructor
  refine l9r3_ok hz.bl (brE (fun e => ?_) fun e => brP (fun e1 => ?_) fun e1 => brP (fun e2 => ?_) fun e2 => needAt (i := 0) (by omega) (brP (fun e3 => ?_) fun e3 => c21_if (fun e4 => brF rfl ?_) fun e4 => brT rfl ?_))
  · rw [fErr, if_pos (by omega)] at h; exact h
  · rw [fErr, if_neg (by omega), if_pos (by omega)] at h; exact h
  · rw [fErr, if_neg (by omega), if_neg (by omega), if_pos (by omega)] at h; exact h
  · rw [fErr, if_neg (by omega), if_neg (by omega), if_neg (by omega), if_pos (by rw [parN_at (by omega)]; omega)] at h; exact h
  · rw [fErr, if_neg (by omega), if_neg (by omega), if_neg (by omega), if_neg (by rw [parN_at (by omega)]; omega), if_neg (fun w => w e4)] at h
    refine c22_ok hz (by omega) (brN (fun q => ?_) fun q => ?_)
    · rw [if_pos q] at h; exact h
    · rw [if_neg (fun w => w q)] at h
      have hf := fok_of (by omega) (by omega) q
      refine c10_ok hf hz fun s hsl hs => l9r18_ok hf hz hsl hs (fun w => ?_) fun w => ?_
      · rw [if_pos w] at h; exact h
      · rw [if_neg w] at h; exact h
  · rw [fErr, if_neg (by omega), if_neg (by omega), if_neg (by omega), if_neg (by rw [parN_at (by omega)]; omega), if_pos e4] at h; exact h
theorem fErr_ok {f : FU} (h : fErr f = 0) : ∃ m, FOk f m ∧ AllU f := by
  unfold fErr at h
  by_cases e0 : f.2.1.length = 0
  · rw [if_pos e0] at h; cases h
  rw [if_neg e0] at h
  by_cases e1 : 128 < f.2.1.length
  · rw [if_pos e1] at h; cases h
  rw [if_neg e1] at h
  by_cases e2 : 1024 < manyI 0 f.2.1
  · rw [if_pos e2] at h; cases h
  rw [if_neg e2] at h
  by_cases e3 : 6 < parN f.2.1 0
  · rw [if_pos e3] at h; cases h
  rw [if_neg e3] at h
  by_cases e4 : -1 ≤ f.1 ∧ f.1 ≤ 1048575
  · rw [if_neg (fun w => w e4)] at h
    by_cases e5 : (shpE f 0 f.2.1 []).1 = 0
    · rw [if_neg (fun w => w e5)] at h
      by_cases e6 : AllU f
      · exact ⟨_, fok_of (by omega) (by omega) e5, e6⟩
      · rw [if_neg e6] at h; cases h
    · rw [if_pos e5] at h; exact (e5 h).elim
  · rw [if_pos e4] at h; cases h
def fr1 (a v : Int) : Int := maxI a (IntKind.wrap .i64 (v + 1))
def frI : Int → List IN → Int
  | a, [] => a
  | a, x :: r => frI (fr1 a x.1) r
def frV : Int → List Int → Int
  | a, [] => a
  | a, v :: r => frV (fr1 a v) r
def frB : Int → List BK → Int
  | a, [] => a
  | a, b :: r => frB (frI (frV a b.1) b.2.1) r
def frsh (f : FU) : Int := frB 0 f.2.1
theorem l15r6_ok {b : BK} {l : List Int} {s2 : List BK} {s3 s4 a : Int} {k : Int → List BK → Int → Int → BK → Prop} (hl : l.length ≤ maxLen) (h : k (frV a l) s2 s3 s4 b) : l15r6 k a s2 s3 s4 l (l.length : Int) 0 b := by
  have hm := hml
  constructor
  intro I hI
  exact dropInd (l := l) (M := fun i r => ∀ a, k (frV a r) s2 s3 s4 b → I a s2 s3 s4 l (l.length : Int) (i : Int) b)
    (fun a h => hI _ _ _ _ _ _ _ _ (brDn (by omega) h))
    (fun i hi ih a h => hI _ _ _ _ _ _ _ _ (brD (by omega) (needAt hi (by rw [wrapS (n := i) (by omega)]; exact ih _ h)))) a h
theorem l15r11_ok {l : List IN} {s2 : List BK} {s3 s4 a : Int} {k : Int → List BK → Int → Int → Prop} (hl : l.length ≤ maxLen) (h : k (frI a l) s2 s3 s4) : l15r11 k a s2 s3 s4 l (l.length : Int) 0 := by
  have hm := hml
  constructor
  intro I hI
  exact dropInd (l := l) (M := fun i r => ∀ a, k (frI a r) s2 s3 s4 → I a s2 s3 s4 l (l.length : Int) (i : Int))
    (fun a h => hI _ _ _ _ _ _ _ (brDn (by omega) h))
    (fun i hi ih a h => hI _ _ _ _ _ _ _ (brD (by omega) (needAt hi (by rw [wrapS (n := i) (by omega)]; exact ih _ h)))) a h
theorem c15_ok {f : FU} {k : Int → Prop} (hz : Szu f) (h : k (frsh f)) : c15 f k := by
  have hm := hml
  have hbl := hz.bl
  constructor
  constructor
  intro I hI
  exact dropInd (l := f.2.1) (M := fun i r => (∀ b ∈ r, b ∈ f.2.1) → ∀ a, k (frB a r) → I a f.2.1 (f.2.1.length : Int) (i : Int))
    (fun _ a h => hI _ _ _ _ (brDn (by omega) h))
    (fun i hi ih hr a h => hI _ _ _ _ (by
      have hb := List.getElem_mem hi
      refine brD (by omega) (needAt hi (l15r6_ok (hz.par _ hb) (l15r11_ok (hz.ins _ hb) ?_)))
      rw [wrapS (n := i) (by omega)]
      exact ih (fun b hb => hr b (List.mem_cons_of_mem _ hb)) _ h)) (fun _ h => h) 0 h
abbrev Dom (f : FU) (a b : Nat) : Prop := ¬ Rc f (a : Int) b
theorem dom_refl {f : FU} {a : Nat} : Dom f a a := fun h => h.ne rfl
theorem rc_via {f : FU} {a b c : Nat} (h : Rc f (a : Int) c) : Rc f (b : Int) c ∨ Rc f (a : Int) b := by
  induction h with
  | z w =>
    by_cases e : b = 0
    · subst e; exact .inr (.z w)
    · exact .inl (.z (by omega))
  | @s k j h1 h2 h3 ih =>
    rcases ih with q | q
    · by_cases e : j = b
      · subst e; exact .inr (.s h1 h2 h3)
      · exact .inl (.s q h2 (by omega))
    · exact .inr q
theorem Dom.trans {f : FU} {a b c : Nat} (h1 : Dom f a b) (h2 : Dom f b c) : Dom f a c := fun h => (rc_via h).elim h2 h1
theorem rc_two {f : FU} {a b c : Nat} (hab : a ≠ b) (h : Rc f (-1) c) : (Rc f (a : Int) c ∧ Rc f (b : Int) c) ∨ Rc f (a : Int) b ∨ Rc f (b : Int) a := by
  induction h with
  | z _ =>
    by_cases e : a = 0
    · subst e; exact .inr (.inr (.z (by omega)))
    · by_cases e2 : b = 0
      · subst e2; exact .inr (.inl (.z (by omega)))
      · exact .inl ⟨.z (by omega), .z (by omega)⟩
  | @s k j h1 h2 h3 ih =>
    rcases ih with ⟨q1, q2⟩ | q
    · by_cases e : j = a
      · subst e; exact .inr (.inr (.s q2 h2 (by omega)))
      · by_cases e2 : j = b
        · subst e2; exact .inr (.inl (.s q1 h2 (by omega)))
        · exact .inl ⟨.s q1 h2 (by omega), .s q2 h2 (by omega)⟩
    · exact .inr q
theorem Dom.anti {f : FU} {a b : Nat} (ha : Rc f (-1) a) (h1 : Dom f a b) (h2 : Dom f b a) : a = b := by
  by_cases e : a = b
  · exact e
  · rcases rc_two e ha with ⟨q, _⟩ | q | q
    · exact (q.ne rfl).elim
    · exact (h1 q).elim
    · exact (h2 q).elim
theorem Dom.pred {f : FU} {a p k : Nat} (h : Dom f a k) (hn : a ≠ k) (e : Eg f p k) : Dom f a p := fun q => h (.s q e (by omega))
theorem Dom.zero {f : FU} {a : Nat} (h : Dom f a 0) : a = 0 := by
  by_cases e : a = 0
  · exact e
  · exact (h (.z (by omega))).elim
inductive Av (f : FU) (pl : Nat → Nat) (q : Nat) : Nat → Nat → Prop
  | z {i : Nat} : q ≠ 0 → Av f pl q i 0
  | s {i k j : Nat} : Av f pl q i k → Eg f k j → j ≠ q → pl k < pl j → Av f pl q i j
  | r {i k j : Nat} : Av f pl q i k → Eg f k j → j ≠ q → Av f pl q (i + 1) j
theorem Av.up {f : FU} {pl : Nat → Nat} {q i k : Nat} (h : Av f pl q i k) : Av f pl q (i + 1) k := by
  induction h with
  | z w => exact .z w
  | s _ h2 h3 h4 ih => exact .s ih h2 h3 h4
  | r _ h2 h3 ih => exact .r ih h2 h3
theorem Av.ups {f : FU} {pl : Nat → Nat} {q i j k : Nat} (h : Av f pl q i k) (hij : i ≤ j) : Av f pl q j k := by
  induction j with
  | zero => obtain rfl : i = 0 := by omega
            exact h
  | succ j ih =>
    by_cases e : i = j + 1
    · subst e; exact h
    · exact (ih (by omega)).up
theorem Av.ne {f : FU} {pl : Nat → Nat} {q i k : Nat} (h : Av f pl q i k) : k ≠ q := by
  cases h with
  | z w => exact fun e => w e.symm
  | s _ _ h _ => exact h
  | r _ _ h => exact h
theorem Av.via {f : FU} {pl : Nat → Nat} {a b c i : Nat} (h : Av f pl a i c) : Av f pl b i c ∨ Av f pl a i b := by
  induction h with
  | z w =>
    by_cases e : b = 0
    · subst e; exact .inr (.z w)
    · exact .inl (.z e)
  | @s i k j h1 h2 h3 h4 ih =>
    rcases ih with q | q
    · by_cases e : j = b
      · subst e; exact .inr (.s h1 h2 h3 h4)
      · exact .inl (.s q h2 e h4)
    · exact .inr q
  | @r i k j h1 h2 h3 ih =>
    rcases ih with q | q
    · by_cases e : j = b
      · subst e; exact .inr (.r h1 h2 h3)
      · exact .inl (.r q h2 e)
    · exact .inr q.up
inductive Rp (f : FU) (q : Nat) : Nat → List Nat → Prop
  | z : q ≠ 0 → Rp f q 0 [0]
  | s {k j : Nat} {l : List Nat} : Rp f q k l → Eg f k j → j ≠ q → Rp f q j (j :: l)
theorem Rp.cut {f : FU} {q k j : Nat} {l : List Nat} (h : Rp f q k l) (hj : j ∈ l) (hn : l.Nodup) : ∃ l', Rp f q j l' ∧ l'.Nodup := by
  induction h with
  | z w =>
    obtain rfl := List.mem_singleton.1 hj
    exact ⟨_, .z w, hn⟩
  | @s k i l h1 h2 h3 ih =>
    rcases List.mem_cons.1 hj with rfl | hj
    · exact ⟨_, .s h1 h2 h3, hn⟩
    · exact ih hj (List.nodup_cons.1 hn).2
theorem rp_of {f : FU} {q k : Nat} (h : Rc f (q : Int) k) : ∃ l, Rp f q k l ∧ l.Nodup := by
  induction h with
  | z w => exact ⟨_, .z (by omega), by simp⟩
  | @s k j h1 h2 h3 ih =>
    obtain ⟨l, g1, g2⟩ := ih
    by_cases e : j ∈ l
    · exact g1.cut e g2
    · exact ⟨_, .s g1 h2 (by omega), List.nodup_cons.2 ⟨e, g2⟩⟩
theorem Rp.av {f : FU} {pl : Nat → Nat} {q k : Nat} {l : List Nat} (h : Rp f q k l) : Av f pl q l.length k := by
  induction h with
  | z w => exact .z w
  | s _ h2 h3 ih => exact .r ih h2 h3
theorem Rp.mem {f : FU} {m : MP} (hf : FOk f m) {q k : Nat} {l : List Nat} (h : Rp f q k l) : ∀ x ∈ l, x < f.2.1.length := by
  induction h with
  | z w => intro x hx; obtain rfl := List.mem_singleton.1 hx; exact hf.pos
  | s _ h2 h3 ih =>
    intro x hx
    rcases List.mem_cons.1 hx with rfl | hx
    · exact (h2.lt hf).2.2
    · exact ih x hx
theorem nodup_le : ∀ {N : Nat} {l : List Nat}, l.Nodup → (∀ x ∈ l, x < N) → l.length ≤ N
  | 0, l, _, h => by
    cases l with
    | nil => exact Nat.le_refl _
    | cons a r => exact absurd (h a (List.mem_cons_self ..)) (by omega)
  | N + 1, l, hn, h => by
    have h1 := nodup_le (N := N) (l := l.erase N) (hn.erase N) fun x hx => by
      have := h x (List.mem_of_mem_erase hx)
      have : x ≠ N := fun e => by subst e; exact (hn.not_mem_erase) hx
      omega
    by_cases e : N ∈ l
    · rw [List.length_erase_of_mem e] at h1; omega
    · rw [List.erase_of_not_mem e] at h1; omega
theorem av_all {f : FU} {m : MP} (hf : FOk f m) {pl : Nat → Nat} {q k i : Nat} (hi : f.2.1.length ≤ i) (h : Rc f (q : Int) k) : Av f pl q i k := by
  obtain ⟨l, h1, h2⟩ := rp_of h
  exact (h1.av).ups (Nat.le_trans (nodup_le h2 (h1.mem hf)) hi)
theorem Av.rc {f : FU} {pl : Nat → Nat} {q i k : Nat} (h : Av f pl q i k) : Rc f (-1) k := by
  induction h with
  | z w => exact .z (by decide)
  | s _ h2 h3 _ ih => exact .s ih h2 (by omega)
  | r _ h2 h3 ih => exact .s ih h2 (by omega)
def ix : List Nat → Nat → Nat
  | [], _ => 0
  | a :: r, k => if a = k then 0 else ix r k + 1
theorem ix_get : ∀ {o : List Nat} {k : Nat}, k ∈ o → o[ix o k]? = some k
  | a :: r, k, h => by
    unfold ix
    by_cases e : a = k
    · rw [if_pos e, e]; rfl
    · rw [if_neg e]
      exact ix_get (o := r) ((List.mem_cons.1 h).resolve_left (Ne.symm e))
theorem ix_eq : ∀ {o : List Nat} {i k : Nat}, o.Nodup → o[i]? = some k → ix o k = i
  | a :: r, 0, k, _, h => by
    unfold ix
    rw [if_pos (Option.some.inj h)]
  | a :: r, i + 1, k, hn, h => by
    have h' : r[i]? = some k := h
    have hm := List.mem_of_getElem? h'
    rw [List.nodup_cons] at hn
    unfold ix
    rw [if_neg fun e => hn.1 (by rw [e]; exact hm), ix_eq hn.2 h']
theorem ix_lt {o : List Nat} {k : Nat} (h : k ∈ o) : ix o k < o.length := (List.getElem?_eq_some_iff.1 (ix_get h)).1
theorem ix_inj {o : List Nat} {a b : Nat} (ha : a ∈ o) (hb : b ∈ o) (h : ix o a = ix o b) : a = b := by
  have h1 := ix_get ha
  have h2 := ix_get hb
  rw [h] at h1
  rw [h1] at h2
  exact Option.some.inj h2
structure Od (f : FU) (o : List Nat) : Prop where
  nd : o.Nodup
  hd : o[0]? = some 0
  mem : ∀ k, k ∈ o ↔ Rc f (-1) k
  par : ∀ k, k ∈ o → k ≠ 0 → ∃ p, p ∈ o ∧ ix o p < ix o k ∧ Eg f p k
theorem Od.z {f : FU} {o : List Nat} (h : Od f o) : ix o 0 = 0 := ix_eq h.nd h.hd
theorem Od.pos {f : FU} {o : List Nat} (h : Od f o) {k : Nat} (hk : k ∈ o) (hn : k ≠ 0) : 0 < ix o k := by
  by_cases e : ix o k = 0
  · have := ix_inj hk (List.mem_of_getElem? h.hd) (by rw [e, h.z])
    omega
  · omega
def Ov (ov : List Int) (k q : Nat) : Prop := ov[k]? = some (q : Int)
theorem Ov.fn {ov : List Int} {k q r : Nat} (h1 : Ov ov k q) (h2 : Ov ov k r) : q = r := by
  unfold Ov at h1 h2
  rw [h1] at h2
  have := Option.some.inj h2
  omega
inductive An (ov : List Int) (a : Nat) : Nat → Prop
  | rf : An ov a a
  | up {q k : Nat} : Ov ov k q → An ov a q → An ov a k
theorem An.trans {ov : List Int} {a b c : Nat} (h1 : An ov a b) (h2 : An ov b c) : An ov a c := by
  induction h2 with
  | rf => exact h1
  | up q _ ih => exact .up q ih
def Pc (ov : List Int) (k : Nat) : Prop := k = 0 ∨ ∃ q, Ov ov k q
structure Tw (f : FU) (o : List Nat) (ov : List Int) : Prop where
  len : ov.length = f.2.1.length
  out : ∀ k, k < f.2.1.length → (k = 0 ∨ k ∉ o) → ov[k]? = some (-1)
  val : ∀ k, k < f.2.1.length → ov[k]? = some (-1) ∨ ∃ q, Ov ov k q
  low : ∀ k q, Ov ov k q → ix o q < ix o k ∧ q ∈ o ∧ Pc ov q
  dom : ∀ k q, Ov ov k q → ∀ d, d ≠ k → Dom f d k → Dom f d q
section
variable {f : FU} {o : List Nat} {ov : List Int}
theorem Tw.inn (h : Tw f o ov) {k q : Nat} (hq : Ov ov k q) : k ∈ o ∧ k ≠ 0 ∧ k < f.2.1.length := by
  have hk : k < f.2.1.length := by have := (List.getElem?_eq_some_iff.1 hq).1; rw [h.len] at this; exact this
  have no : ¬ (k = 0 ∨ k ∉ o) := fun w => by
    have := h.out k hk w
    unfold Ov at hq
    rw [hq] at this
    have := Option.some.inj this
    omega
  exact ⟨Classical.byContradiction fun w => no (.inr w), fun w => no (.inl w), hk⟩
theorem Tw.an (h : Tw f o ov) {a k : Nat} (ha : An ov a k) (hk : Pc ov k) : Pc ov a ∧ (a = k ∨ ix o a < ix o k) := by
  induction ha with
  | rf => exact ⟨hk, .inl rfl⟩
  | @up q k hq _ ih =>
    obtain ⟨h1, h2, h3⟩ := h.low k q hq
    obtain ⟨g1, g2⟩ := ih h3
    refine ⟨g1, .inr ?_⟩
    rcases g2 with e | e
    · rw [e]; exact h1
    · omega
theorem Tw.ano (h : Tw f o ov) (hf : Od f o) {a k : Nat} (ha : An ov a k) (hk : Pc ov k) : a ∈ o := by
  rcases (h.an ha hk).1 with e | ⟨q, hq⟩
  · rw [e]; exact List.mem_of_getElem? hf.hd
  · exact (h.inn hq).1
theorem Tw.zero (h : Tw f o ov) {a : Nat} (ha : An ov a 0) : a = 0 := by
  cases ha with
  | rf => rfl
  | up hq _ => exact ((h.inn hq).2.1 rfl).elim
theorem Tw.anti (h : Tw f o ov) {a b : Nat} (hb : Pc ov b) (h1 : An ov a b) (h2 : An ov b a) : a = b := by
  obtain ⟨g1, g2⟩ := h.an h1 hb
  obtain ⟨_, g4⟩ := h.an h2 g1
  omega
theorem Tw.up (h : Tw f o ov) {d : Nat} : ∀ (n k : Nat), ix o k < n → Pc ov k → Dom f d k → An ov d k
  | 0, _, hn, _, _ => absurd hn (by omega)
  | n + 1, k, hn, hk, hd => by
    by_cases e : d = k
    · rw [e]; exact .rf
    · rcases hk with rfl | ⟨q, hq⟩
      · exact (e hd.zero).elim
      · obtain ⟨h1, h2, h3⟩ := h.low k q hq
        exact .up hq (h.up n q (by omega) h3 (h.dom k q hq d e hd))
theorem Tw.updom (h : Tw f o ov) {d k : Nat} (hk : Pc ov k) (hd : Dom f d k) : An ov d k := h.up _ k (Nat.lt_succ_self _) hk hd
theorem Tw.mid (h : Tw f o ov) {d x k : Nat} (hk : Pc ov k) (h1 : An ov x k) (h2 : An ov d x) (hd : Dom f d k) : Dom f d x := by
  induction h1 with
  | rf => exact hd
  | @up q k hq hx ih =>
    obtain ⟨_, _, h3⟩ := h.low k q hq
    by_cases e : d = k
    · subst e
      have := h.anti (b := d) hk (.up hq hx) h2
      rw [this]; exact dom_refl
    · exact ih h3 (h.dom k q hq d e hd)
def Nx (ov : List Int) (P : Nat → Prop) (c : Nat) : Prop := (∃ p, P p) ∧ (∀ p, P p → An ov c p) ∧ ∀ y, (∀ p, P p → An ov y p) → An ov y c
def Pp (f : FU) (o : List Nat) (ov : List Int) (k p : Nat) : Prop := Eg f p k ∧ p ∈ o ∧ Pc ov p
theorem Tw.nxdom (h : Tw f o ov) {k c : Nat} (hc : Nx ov (Pp f o ov k) c) {d : Nat} (hn : d ≠ k) (hd : Dom f d k) : Dom f d c := by
  obtain ⟨⟨p, hp⟩, h1, h2⟩ := hc
  have hdp : ∀ p, Pp f o ov k p → An ov d p := fun p hp => h.updom hp.2.2 (hd.pred hn hp.1)
  exact h.mid hp.2.2 (h1 p hp) (h2 d hdp) (hd.pred hn hp.1)
theorem Tw.nxpc (h : Tw f o ov) (ho : Od f o) {k c : Nat} (hc : Nx ov (Pp f o ov k) c) : Pc ov c ∧ c ∈ o := by
  obtain ⟨⟨p, hp⟩, h1, _⟩ := hc
  exact ⟨(h.an (h1 p hp) hp.2.2).1, h.ano ho (h1 p hp) hp.2.2⟩
theorem Tw.set (h : Tw f o ov) (ho : Od f o) {k c : Nat} (hk : k ∈ o) (hk0 : k ≠ 0) (hkn : k < f.2.1.length) (hc : Nx ov (Pp f o ov k) c) (hl : ix o c < ix o k) : Tw f o (ov.set k (c : Int)) := by
  have hkl : k < ov.length := by rw [h.len]; exact hkn
  have at_k : (ov.set k (c : Int))[k]? = some (c : Int) := List.getElem?_set_self hkl
  have at_o : ∀ {j : Nat}, j ≠ k → (ov.set k (c : Int))[j]? = ov[j]? := fun {j} e => List.getElem?_set_ne (Ne.symm e)
  have ov_o : ∀ {j q : Nat}, Ov (ov.set k (c : Int)) j q → (j = k ∧ q = c) ∨ (j ≠ k ∧ Ov ov j q) := fun {j q} hq => by
    by_cases e : j = k
    · subst e
      unfold Ov at hq
      rw [at_k] at hq
      have := Option.some.inj hq
      exact .inl ⟨rfl, by omega⟩
    · unfold Ov at hq
      rw [at_o e] at hq
      exact .inr ⟨e, hq⟩
  have pc : ∀ {j : Nat}, Pc ov j → Pc (ov.set k (c : Int)) j := fun {j} hj => by
    by_cases e : j = k
    · exact .inr ⟨c, by rw [e]; exact at_k⟩
    · exact hj.imp id fun ⟨q, hq⟩ => ⟨q, by unfold Ov; rw [at_o e]; exact hq⟩
  obtain ⟨c1, c2⟩ := h.nxpc ho hc
  refine ⟨by rw [List.length_set, h.len], fun j hj w => ?_, fun j hj => ?_, fun j q hq => ?_, fun j q hq => ?_⟩
  · have e : j ≠ k := fun e => by subst e; exact w.elim hk0 fun w => w hk
    rw [at_o e]; exact h.out j hj w
  · by_cases e : j = k
    · exact .inr ⟨c, by rw [e]; exact at_k⟩
    · exact (h.val j hj).imp (fun w => by rw [at_o e]; exact w) fun ⟨q, w⟩ => ⟨q, by unfold Ov; rw [at_o e]; exact w⟩
  · rcases ov_o hq with ⟨rfl, rfl⟩ | ⟨e, hq⟩
    · exact ⟨hl, c2, pc c1⟩
    · obtain ⟨h1, h2, h3⟩ := h.low j q hq
      exact ⟨h1, h2, pc h3⟩
  · rcases ov_o hq with ⟨rfl, rfl⟩ | ⟨e, hq⟩
    · exact fun d hd => h.nxdom hc hd
    · exact h.dom j q hq
end
structure Sv (f : FU) (o : List Nat) (i t : Nat) (ov : List Int) : Prop where
  ev : ∀ k q, Ov ov k q → (ix o k < t → ¬ Av f (ix o) q i k) ∧ (t ≤ ix o k → ∃ j, i = j + 1 ∧ ¬ Av f (ix o) q j k)
  al : ∀ k, k ∈ o → k ≠ 0 → (ix o k < t ∨ 1 ≤ i) → ∃ q, Ov ov k q
section
variable {f : FU} {m : MP} {o : List Nat} {ov : List Int}
theorem an_av {i x p : Nat} (h : An ov x p) (hs : ∀ k', An ov k' p → ∀ q, Ov ov k' q → ¬ Av f (ix o) q i k') : ¬ Av f (ix o) x i p := by
  induction h with
  | rf => exact fun w => w.ne rfl
  | @up q k hq hx ih =>
    intro w
    rcases w.via (b := q) with w | w
    · exact hs k .rf q hq w
    · exact ih (fun k' hk' => hs k' (.up hq hk')) w
theorem Sv.nx (hf : FOk f m) (ho : Od f o) (hT : Tw f o ov) {i t : Nat} (h : Sv f o i t ov) {k c : Nat} (hk : k ∈ o) (hk0 : k ≠ 0) (ht : ix o k = t) (hc : Nx ov (Pp f o ov k) c) : ¬ Av f (ix o) c i k := by
  obtain ⟨_, h1, _⟩ := hc
  intro w
  cases w with
  | z w => exact hk0 rfl
  | @s _ p _ w1 w2 w3 w4 =>
    have hp : p ∈ o := (ho.mem p).2 w1.rc
    have hpc : Pc ov p := by
      by_cases e : p = 0
      · exact .inl e
      · exact .inr (h.al p hp e (.inl (by omega)))
    refine an_av (h1 p ⟨w2, hp, hpc⟩) (fun k' hk' q hq => (h.ev k' q hq).1 ?_) w1
    rcases (hT.an hk' hpc).2 with e | e
    · rw [e]; omega
    · omega
  | @r i p _ w1 w2 w3 =>
    have hp : p ∈ o := (ho.mem p).2 w1.rc
    have hpc : Pc ov p := by
      by_cases e : p = 0
      · exact .inl e
      · exact .inr (h.al p hp e (.inr (by omega)))
    refine an_av (h1 p ⟨w2, hp, hpc⟩) (fun k' hk' q hq => ?_) w1
    obtain ⟨g1, g2⟩ := h.ev k' q hq
    by_cases e : ix o k' < t
    · exact fun w => g1 e w.up
    · obtain ⟨j, e2, g⟩ := g2 (by omega)
      obtain rfl : j = i := by omega
      exact g
theorem Sv.pre (ho : Od f o) {i t : Nat} (h : Sv f o i t ov) {k : Nat} (hk : k ∈ o) (hk0 : k ≠ 0) (ht : ix o k = t) : ∃ p, Pp f o ov k p ∧ ix o p < t := by
  obtain ⟨p, h1, h2, h3⟩ := ho.par k hk hk0
  refine ⟨p, ⟨h3, h1, ?_⟩, by omega⟩
  by_cases e : p = 0
  · exact .inl e
  · exact .inr (h.al p h1 e (.inl (by omega)))
theorem Sv.low (ho : Od f o) (hT : Tw f o ov) {i t : Nat} (h : Sv f o i t ov) {k c : Nat} (hk : k ∈ o) (hk0 : k ≠ 0) (ht : ix o k = t) (hc : Nx ov (Pp f o ov k) c) : ix o c < ix o k := by
  obtain ⟨p, hp, hl⟩ := h.pre ho hk hk0 ht
  rcases (hT.an (hc.2.1 p hp) hp.2.2).2 with e | e
  · rw [e]; omega
  · omega
theorem Sv.set (hf : FOk f m) (ho : Od f o) (hT : Tw f o ov) {i t : Nat} (h : Sv f o i t ov) {k c : Nat} (hk : k ∈ o) (hk0 : k ≠ 0) (ht : ix o k = t) (hkn : k < f.2.1.length) (hc : Nx ov (Pp f o ov k) c) : Sv f o i (t + 1) (ov.set k (c : Int)) := by
  have hkl : k < ov.length := by rw [hT.len]; exact hkn
  have at_k : (ov.set k (c : Int))[k]? = some (c : Int) := List.getElem?_set_self hkl
  have at_o : ∀ {j : Nat}, j ≠ k → (ov.set k (c : Int))[j]? = ov[j]? := fun {j} e => List.getElem?_set_ne (Ne.symm e)
  refine ⟨fun j q hq => ?_, fun j hj hj0 hw => ?_⟩
  · by_cases e : j = k
    · subst e
      unfold Ov at hq
      rw [at_k] at hq
      have := Option.some.inj hq
      obtain rfl : c = q := by omega
      exact ⟨fun _ => h.nx hf ho hT hk hk0 ht hc, fun w => absurd w (by omega)⟩
    · unfold Ov at hq
      rw [at_o e] at hq
      obtain ⟨g1, g2⟩ := h.ev j q hq
      have hne : ix o j ≠ t := fun w => e (ix_inj (hT.inn hq).1 hk (by omega))
      exact ⟨fun w => g1 (by omega), fun w => g2 (by omega)⟩
  · by_cases e : j = k
    · exact ⟨c, by rw [e]; exact at_k⟩
    · have hne : ix o j ≠ t := fun w => e (ix_inj hj hk (by omega))
      obtain ⟨q, hq⟩ := h.al j hj hj0 (hw.imp (fun w => by omega) id)
      exact ⟨q, by unfold Ov; rw [at_o e]; exact hq⟩
theorem Sv.next (ho : Od f o) (hT : Tw f o ov) {i : Nat} (h : Sv f o i o.length ov) : Sv f o (i + 1) 1 ov := by
  refine ⟨fun k q hq => ⟨fun w => ?_, fun _ => ⟨i, rfl, (h.ev k q hq).1 (ix_lt (hT.inn hq).1)⟩⟩, fun k hk hk0 _ => h.al k hk hk0 (.inl (ix_lt hk))⟩
  have := ho.pos (hT.inn hq).1 (hT.inn hq).2.1
  omega
theorem Sv.late (hf : FOk f m) (ho : Od f o) (hT : Tw f o ov) {i t : Nat} (h : Sv f o i t ov) (hi : f.2.1.length + 1 ≤ i) {k c : Nat} (hk : k ∈ o) (hk0 : k ≠ 0) (ht : ix o k = t) (hc : Nx ov (Pp f o ov k) c) : Ov ov k c := by
  obtain ⟨q, hq⟩ := h.al k hk hk0 (.inr (by omega))
  obtain ⟨j, e, g⟩ := (h.ev k q hq).2 (by omega)
  have dq : Dom f q k := fun w => g (av_all hf (by omega) w)
  have dc : Dom f c k := fun w => h.nx hf ho hT hk hk0 ht hc (av_all hf (by omega) w)
  have lc := h.low ho hT hk hk0 ht hc
  have lq := hT.low k q hq
  have h1 : Dom f c q := hT.dom k q hq c (fun e => by subst e; omega) dc
  have h2 : Dom f q c := hT.nxdom hc (fun e => by have := lq.1; rw [e] at this; omega) dq
  have e : c = q := Dom.anti ((ho.mem c).1 (hT.nxpc ho hc).2) h1 h2
  rw [e]; exact hq
def Dt (f : FU) (o : List Nat) (ov : List Int) : Prop := Tw f o ov ∧ ∀ k, k ∈ o → k ≠ 0 → ∃ q, Ov ov k q ∧ ∀ p, Eg f p k → p ∈ o → An ov q p
theorem Dt.pc (h : Dt f o ov) {k : Nat} (hk : k ∈ o) : Pc ov k := by
  by_cases e : k = 0
  · exact .inl e
  · obtain ⟨q, hq, _⟩ := h.2 k hk e
    exact .inr ⟨q, hq⟩
theorem Dt.dn (ho : Od f o) (h : Dt f o ov) {a k : Nat} (hr : Rc f (a : Int) k) : ¬ An ov a k := by
  induction hr with
  | z w => exact fun q => w (by rw [h.1.zero q]; rfl)
  | @s p k hp e hn ih =>
    intro q
    have hpo : p ∈ o := (ho.mem p).2 hp.all
    cases q with
    | rf => exact hn rfl
    | @up q _ hq hx =>
      have hko := (h.1.inn hq).1
      obtain ⟨q', hq', g⟩ := h.2 k hko (h.1.inn hq).2.1
      rw [hq.fn hq'] at hx
      exact ih (hx.trans (g p e hpo))
theorem Dt.iff (ho : Od f o) (h : Dt f o ov) {a k : Nat} (hk : k ∈ o) : An ov a k ↔ Dom f a k :=
  ⟨fun q w => h.dn ho w q, fun w => h.1.updom (h.pc hk) w⟩
theorem Dt.idom (ho : Od f o) (h : Dt f o ov) {k q : Nat} (hq : Ov ov k q) : Dom f q k ∧ q ≠ k ∧ q ∈ o ∧ ∀ d, d ≠ k → Dom f d k → Dom f d q := by
  have hk := (h.1.inn hq).1
  obtain ⟨h1, h2, _⟩ := h.1.low k q hq
  exact ⟨(h.iff ho hk).1 (.up hq .rf), fun e => by rw [e] at h1; omega, h2, h.1.dom k q hq⟩
end
abbrev lst (l : List Nat) : List Int := l.map fun v : Nat => (v : Int)
def Dg (f : FU) (b : Nat) : Nat := match f.2.1[b]? with | some B => (tos B).length | none => 0
theorem dg_at {f : FU} {b : Nat} (h : b < f.2.1.length) : Dg f b = (tos f.2.1[b]).length := by unfold Dg; rw [List.getElem?_eq_getElem h]
def Ed (f : FU) (b i j : Nat) : Prop := ∃ B x, f.2.1[b]? = some B ∧ (tos B)[i]? = some x ∧ x.1 = (j : Int)
theorem Ed.eg {f : FU} {b i j : Nat} (h : Ed f b i j) : Eg f b j := by
  obtain ⟨B, x, h1, h2, h3⟩ := h
  exact ⟨B, h1, x, List.mem_of_getElem? h2, h3⟩
theorem Eg.ed {f : FU} {b j : Nat} (h : Eg f b j) : ∃ i, i < Dg f b ∧ Ed f b i j := by
  obtain ⟨B, h1, x, h2, h3⟩ := h
  obtain ⟨i, hi⟩ := List.mem_iff_getElem?.1 h2
  exact ⟨i, by unfold Dg; rw [h1]; exact (List.getElem?_eq_some_iff.1 hi).1, B, x, h1, hi, h3⟩
theorem Ed.fn {f : FU} {b i j j' : Nat} (h : Ed f b i j) (h' : Ed f b i j') : j = j' := by
  obtain ⟨B, x, h1, h2, h3⟩ := h
  obtain ⟨B', x', g1, g2, g3⟩ := h'
  rw [h1] at g1
  obtain rfl := Option.some.inj g1
  rw [h2] at g2
  obtain rfl := Option.some.inj g2
  omega
abbrev fs (st : List (Nat × Nat)) : List Nat := st.map (·.1)
structure Se (f : FU) (post : List Nat) (seen : List Bool) (st : List (Nat × Nat)) : Prop where
  len : seen.length = f.2.1.length
  nd : (post ++ fs st).Nodup
  sn : ∀ k, Tr seen k ↔ k ∈ post ++ fs st
  rc : ∀ k, k ∈ post ++ fs st → Rc f (-1) k
  last : (post ++ fs st).getLast? = some 0
  par : ∀ x, x ∈ post ++ fs st → x ≠ 0 → ∃ p, [x, p].Sublist (post ++ fs st) ∧ Eg f p x
  cl : ∀ k, k ∈ post → ∀ j, Eg f k j → Tr seen j
  stk : ∀ b e, (b, e) ∈ st → e ≤ Dg f b ∧ ∀ i j, i < e → Ed f b i j → Tr seen j
section
variable {f : FU} {m : MP} {post : List Nat} {seen : List Bool} {b e : Nat} {r : List (Nat × Nat)}
theorem Se.pop (h : Se f post seen ((b, e) :: r)) (he : e = Dg f b) : Se f (post ++ [b]) seen r := by
  have eq : post ++ [b] ++ fs r = post ++ fs ((b, e) :: r) := by simp [fs]
  refine ⟨h.len, by rw [eq]; exact h.nd, fun k => by rw [eq]; exact h.sn k, fun k => by rw [eq]; exact h.rc k, by rw [eq]; exact h.last, fun x => by rw [eq]; exact h.par x, fun k hk j hj => ?_, fun b' e' hb => h.stk b' e' (List.mem_cons_of_mem _ hb)⟩
  rcases List.mem_append.1 hk with hk | hk
  · exact h.cl k hk j hj
  · obtain rfl := List.mem_singleton.1 hk
    obtain ⟨i, hi, hed⟩ := hj.ed
    exact (h.stk k e (List.mem_cons_self ..)).2 i j (by omega) hed
theorem Se.adv (h : Se f post seen ((b, e) :: r)) (he : e < Dg f b) {j : Nat} (hj : Ed f b e j) (hs : Tr seen j) : Se f post seen ((b, e + 1) :: r) := by
  refine ⟨h.len, h.nd, h.sn, h.rc, h.last, h.par, h.cl, fun b' e' hb => ?_⟩
  rcases List.mem_cons.1 hb with hb | hb
  · obtain ⟨rfl, rfl⟩ : b' = b ∧ e' = e + 1 := by simpa using hb
    refine ⟨he, fun i j' hi hed => ?_⟩
    by_cases q : i = e
    · subst q; rw [hed.fn hj]; exact hs
    · exact (h.stk _ e (List.mem_cons_self ..)).2 i j' (by omega) hed
  · exact h.stk b' e' (List.mem_cons_of_mem _ hb)
theorem Se.push (hf : FOk f m) (h : Se f post seen ((b, e) :: r)) (he : e < Dg f b) {j : Nat} (hj : Ed f b e j) (hs : ¬ Tr seen j) : Se f post (seen.set j true) ((j, 0) :: (b, e + 1) :: r) := by
  have hjl : j < seen.length := by rw [h.len]; exact (hj.eg.lt hf).2.2
  have hno : j ∉ post ++ fs ((b, e) :: r) := fun w => hs ((h.sn j).2 w)
  have hbm : b ∈ post ++ fs ((b, e) :: r) := by simp [fs]
  have eq : post ++ fs ((j, 0) :: (b, e + 1) :: r) = post ++ [j] ++ fs ((b, e) :: r) := by simp [fs]
  have sub : (post ++ fs ((b, e) :: r)).Sublist (post ++ [j] ++ fs ((b, e) :: r)) := by
    rw [List.append_assoc]
    exact (List.Sublist.refl post).append (List.sublist_append_right _ _)
  have mem : ∀ k, k ∈ post ++ [j] ++ fs ((b, e) :: r) ↔ k = j ∨ k ∈ post ++ fs ((b, e) :: r) := fun k => by
    simp only [List.mem_append, List.mem_singleton]
    constructor
    · rintro ((q | q) | q)
      · exact .inr (.inl q)
      · exact .inl q
      · exact .inr (.inr q)
    · rintro (q | q | q)
      · exact .inl (.inr q)
      · exact .inl (.inl q)
      · exact .inr q
  have up : ∀ k, Tr seen k → Tr (seen.set j true) k := fun k hk => by
    rw [tr_set hjl]
    by_cases q : k = j
    · exact .inl ⟨q, rfl⟩
    · exact .inr ⟨q, hk⟩
  have hT : ∀ k, Tr (seen.set j true) k ↔ k = j ∨ Tr seen k := fun k => by
    rw [tr_set hjl]
    by_cases q : k = j
    · simp [q]
    · simp [q]
  refine ⟨by rw [List.length_set, h.len], ?_, fun k => ?_, fun k hk => ?_, ?_, fun x hx hx0 => ?_, fun k hk i hi => up i (h.cl k hk i hi), fun b' e' hb => ?_⟩
  · rw [eq, List.append_assoc]
    have := h.nd
    rw [List.nodup_append] at this ⊢
    obtain ⟨n1, n2, n3⟩ := this
    refine ⟨n1, ?_, fun a ha c hc w => ?_⟩
    · rw [List.singleton_append, List.nodup_cons]
      exact ⟨fun w => hno (List.mem_append_right _ w), n2⟩
    · rcases List.mem_append.1 hc with hc | hc
      · obtain rfl := List.mem_singleton.1 hc
        exact hno (List.mem_append_left _ (by rw [← w]; exact ha))
      · exact n3 a ha c hc w
  · rw [eq, mem, hT, h.sn]
  · rw [eq, mem] at hk
    rcases hk with rfl | hk
    · exact .s (h.rc b hbm) hj.eg (by omega)
    · exact h.rc k hk
  · have hl := h.last
    rw [eq]
    rw [List.getLast?_append] at hl ⊢
    have : (fs ((b, e) :: r)).getLast? ≠ none := by simp [fs]
    cases hq : (fs ((b, e) :: r)).getLast? with
    | none => exact (this hq).elim
    | some x => rw [hq] at hl; simpa using hl
  · rw [eq, mem] at hx
    rcases hx with rfl | hx
    · refine ⟨b, ?_, hj.eg⟩
      rw [eq, List.append_assoc]
      refine List.Sublist.trans ?_ (List.sublist_append_right post _)
      simp [fs]
    · obtain ⟨p, h1, h2⟩ := h.par x hx hx0
      exact ⟨p, by rw [eq]; exact h1.trans sub, h2⟩
  · rcases List.mem_cons.1 hb with hb | hb
    · obtain ⟨rfl, rfl⟩ : b' = j ∧ e' = 0 := by simpa using hb
      exact ⟨Nat.zero_le _, fun i _ w => absurd w (by omega)⟩
    · rcases List.mem_cons.1 hb with hb | hb
      · obtain ⟨rfl, rfl⟩ : b' = b ∧ e' = e + 1 := by simpa using hb
        refine ⟨he, fun i j' hi hed => ?_⟩
        by_cases q : i = e
        · subst q
          rw [hed.fn hj]
          exact (hT j).2 (.inl rfl)
        · exact up _ ((h.stk _ e (List.mem_cons_self ..)).2 i j' (by omega) hed)
      · obtain ⟨g1, g2⟩ := h.stk b' e' (List.mem_cons_of_mem _ hb)
        exact ⟨g1, fun i j' hi hed => up _ (g2 i j' hi hed)⟩
end
theorem sub_ix : ∀ {o : List Nat} {p x : Nat}, [p, x].Sublist o → o.Nodup → ix o p < ix o x
  | a :: r, p, x, h, hn => by
    rw [List.nodup_cons] at hn
    cases h with
    | cons _ h =>
      have hp : p ∈ r := h.subset (List.mem_cons_self ..)
      have hx : x ∈ r := h.subset (List.mem_cons_of_mem _ (List.mem_cons_self ..))
      unfold ix
      rw [if_neg fun e => hn.1 (by rw [e]; exact hp), if_neg fun e => hn.1 (by rw [e]; exact hx)]
      exact Nat.succ_lt_succ (sub_ix h hn.2)
    | cons_cons _ h =>
      have hx : x ∈ r := h.subset (List.mem_cons_self ..)
      unfold ix
      rw [if_pos rfl, if_neg fun e => hn.1 (by rw [e]; exact hx)]
      exact Nat.succ_pos _
theorem Se.od {f : FU} {post : List Nat} {seen : List Bool} (h : Se f post seen []) : Od f post.reverse := by
  have e : post ++ fs [] = post := by simp [fs]
  have h1 := h.nd
  have h2 := h.sn
  have h3 := h.rc
  have h4 := h.last
  have h5 := h.par
  rw [e] at h1 h4
  simp only [e] at h2 h3 h5
  have h0 : 0 ∈ post := List.mem_of_getLast? h4
  have nd : post.reverse.Nodup := (List.reverse_perm post).nodup_iff.2 h1
  refine ⟨nd, ?_, fun k => ⟨fun q => h3 k (List.mem_reverse.1 q), fun q => ?_⟩, fun k hk hk0 => ?_⟩
  · rw [← List.head?_eq_getElem?, List.head?_reverse]; exact h4
  · refine List.mem_reverse.2 ?_
    induction q with
    | z _ => exact h0
    | s _ he _ ih => exact (h2 _).1 (h.cl _ ih _ he)
  · obtain ⟨p, g1, g2⟩ := h5 k (List.mem_reverse.1 hk) hk0
    have g3 : [p, k].Sublist post.reverse := by
      have := List.reverse_sublist.2 g1
      simpa using this
    exact ⟨p, g3.subset (List.mem_cons_self ..), sub_ix g3 nd, g2⟩
abbrev PQ := Int × Int × Unit
abbrev en (p : Nat × Nat) : PQ := ((p.1 : Int), (p.2 : Int), ())
def sk (st : List (Nat × Nat)) : List PQ := (st.map en).reverse
theorem sk_len {st : List (Nat × Nat)} : (sk st).length = st.length := by simp [sk]
theorem sk_cons {p : Nat × Nat} {r : List (Nat × Nat)} : sk (p :: r) = sk r ++ [en p] := by simp [sk]
theorem sk_top {p : Nat × Nat} {r : List (Nat × Nat)} : (sk (p :: r))[r.length]? = some (en p) := by
  rw [sk_cons, List.getElem?_append_right (by rw [sk_len]; exact Nat.le_refl _), sk_len, Nat.sub_self]; rfl
theorem sk_set {p q : Nat × Nat} {r : List (Nat × Nat)} : (sk (p :: r)).set r.length (en q) = sk (q :: r) := by
  rw [sk_cons, sk_cons, List.set_append_right _ _ (by rw [sk_len]; exact Nat.le_refl _), sk_len, Nat.sub_self]; rfl
theorem sk_take {p : Nat × Nat} {r : List (Nat × Nat)} : (sk (p :: r)).take r.length = sk r := by
  rw [sk_cons, ← sk_len (st := r), List.take_left]
theorem tk_top {U : List PQ} {p : Nat × Nat} {r : List (Nat × Nat)} (h : U.take (r.length + 1) = sk (p :: r)) : U[r.length]? = some (en p) := by
  have := sk_top (p := p) (r := r)
  rw [← h, List.getElem?_take, if_pos (Nat.lt_succ_self _)] at this
  exact this
theorem tk_len {U : List PQ} {p : Nat × Nat} {r : List (Nat × Nat)} (h : U.take (r.length + 1) = sk (p :: r)) : r.length + 1 ≤ U.length := by
  have := (List.getElem?_eq_some_iff.1 (tk_top h)).1
  omega
theorem tk_set {U : List PQ} {p q : Nat × Nat} {r : List (Nat × Nat)} (h : U.take (r.length + 1) = sk (p :: r)) : (U.set r.length (en q)).take (r.length + 1) = sk (q :: r) := by
  rw [List.take_set, h, sk_set]
theorem tk_pop {U : List PQ} {p : Nat × Nat} {r : List (Nat × Nat)} (h : U.take (r.length + 1) = sk (p :: r)) : U.take r.length = sk r := by
  rw [← sk_take (p := p), ← h, List.take_take, Nat.min_eq_left (Nat.le_succ _)]
theorem lst_snoc {l : List Nat} {b : Nat} : lst l ++ [(b : Int)] = lst (l ++ [b]) := by simp [lst]
theorem lst_len {l : List Nat} : (lst l).length = l.length := by simp [lst]
theorem c19_ok {l : List Nat} {b : Nat} {k : List Int → Prop} (hl : l.length ≤ 100000) (h : k (lst (l ++ [b]))) : c19 (b : Int) (lst l) k := by
  constructor
  rw [← lst_snoc] at h
  exact brT (roomS (by rw [lst_len]; omega)) h
def wk (f : FU) : List (Nat × Nat) → Nat
  | [] => 0
  | (b, e) :: r => (Dg f b + 1 - e) + wk f r
def un (seen : List Bool) : Nat := seen.length - seen.count true
def ms (f : FU) (seen : List Bool) (st : List (Nat × Nat)) : Nat := 1000 * un seen + wk f st
theorem un_set {seen : List Bool} {j : Nat} (hj : j < seen.length) (hs : ¬ Tr seen j) : un (seen.set j true) + 1 = un seen := by
  have h1 := List.count_le_length (a := true) (l := seen)
  have h2 : (seen.set j true).count true = seen.count true + 1 := by
    rw [List.count_set hj]
    have : (seen[j] == true) = false := by
      cases hv : seen[j] with
      | true => exact (hs ((tr_get hj).2 hv)).elim
      | false => rfl
    rw [this]; simp
  have h3 := List.count_le_length (a := true) (l := seen.set j true)
  rw [List.length_set] at h3
  unfold un
  rw [List.length_set]
  omega
theorem l18r4_ok {f : FU} {m : MP} (hf : FOk f m) {k1 k2 : List Int → Prop} (h1 : ∀ post seen, Se f post seen [] → k1 (lst post)) (h2 : ∀ post seen, Se f post seen [] → k2 (lst post)) {post : List Nat} {seen : List Bool} {st : List (Nat × Nat)} (hs : Se f post seen st) :
    l18r4 k1 k2 (lst post) f seen (sk st) := by
  have hn := hf.le
  constructor
  intro I1 I2 I3 hI1 hI2 hI3
  have key : ∀ N post seen st, Se f post seen st → ms f seen st < N → I1 (lst post) f seen (sk st) ∧ (∀ U cap, U.take st.length = sk st → st.length ≤ cap → I2 0 st.length cap (lst post) f seen U) ∧ I3 (lst post) f seen (sk st) := by
    intro N
    induction N with
    | zero => intro _ _ _ _ w; exact absurd w (by omega)
    | succ N ih =>
      intro post seen st hs hm
      cases st with
      | nil =>
        refine ⟨hI1 _ _ _ _ (brDn (by simp [sk]) (h1 post seen hs)), fun U cap _ _ => hI2 _ _ _ _ _ _ _ (brDn (by simp) (h2 post seen hs)), hI3 _ _ _ _ (brDn (by simp [sk]) (h2 post seen hs))⟩
      | cons p r =>
        obtain ⟨b, e⟩ := p
        have hbm : b ∈ post ++ fs ((b, e) :: r) := by simp [fs]
        have hb : b < f.2.1.length := (hs.rc b hbm).lt hf
        have hB := List.getElem_mem hb
        have hg := List.getElem?_eq_getElem hb
        have hd := dg_at hb
        have htl := hf.tl _ hB
        have hdl : Dg f b ≤ 257 := by rw [hd]; exact htl
        have hle := (hs.stk b e (List.mem_cons_self ..)).1
        have hall : (post ++ fs ((b, e) :: r)).length ≤ f.2.1.length := nodup_le hs.nd fun x hx => (hs.rc x hx).lt hf
        have hlen : post.length + r.length + 1 ≤ f.2.1.length := by simpa [fs, Nat.add_assoc] using hall
        have hsl := hs.len
        have hw : IntKind.wrap .i64 (((r.length + 1 : Nat) : Int) - 1) = (r.length : Int) := by rw [wrap64 (by omega) (by omega)]; omega
        have hskl : (sk ((b, e) :: r)).length = r.length + 1 := by rw [sk_len]; rfl
        have hms : ms f seen ((b, e) :: r) = 1000 * un seen + ((Dg f b + 1 - e) + wk f r) := rfl
        -- the edge
        by_cases hq : e = Dg f b
        · -- the block is left
          have hs2 := hs.pop hq
          obtain ⟨i1, i2, i3⟩ := ih _ _ _ hs2 (by unfold ms at hm ⊢; rw [show wk f ((b, e) :: r) = (Dg f b + 1 - e) + wk f r from rfl] at hm; omega)
          have hcond : ((e : Int) == (((tos f.2.1[b]).length : Nat) : Int)) = true := by rw [hq, hd]; simp
          refine ⟨?_, fun U cap hU hcap => ?_, ?_⟩
          · refine hI1 _ _ _ _ ?_
            rw [hskl, hw, Int.toNat_natCast]
            refine brD (by omega) (brD (by omega) (needS sk_top (needAt hb (needS sk_top (brT hcond (needS sk_top (c19_ok (by omega) (brD (by omega) ?_))))))))
            have := i2 (sk ((b, e) :: r)) (Int.toNat (((r.length + 1 : Nat) : Int) - 0)) sk_take (by omega)
            rw [show (Int.toNat ((r.length : Int) - 0)) = r.length by omega]
            exact this
          · refine hI2 _ _ _ _ _ _ _ ?_
            rw [show ((b, e) :: r).length = r.length + 1 from rfl] at hU hcap ⊢
            rw [hw, Int.toNat_natCast, Nat.zero_add]
            have ht := tk_top hU
            refine brD (by omega) (brD (by omega) (needS ht (needAt hb (needS ht (brT hcond (needS ht (c19_ok (by omega) (brD (by omega) ?_))))))))
            have := i2 U (Int.toNat ((cap : Int) - 0)) (tk_pop hU) (by omega)
            rw [show (Int.toNat ((r.length : Int) - 0)) = r.length by omega]
            exact this
          · refine hI3 _ _ _ _ ?_
            rw [hskl, hw, Int.toNat_natCast]
            refine brD (by omega) (brD (by omega) (needS sk_top (needAt hb (needS sk_top (brT hcond (needS sk_top (c19_ok (by omega) (brD (by omega) ?_))))))))
            have := i2 (sk ((b, e) :: r)) (Int.toNat (((r.length + 1 : Nat) : Int) - 0)) sk_take (by omega)
            rw [show (Int.toNat ((r.length : Int) - 0)) = r.length by omega]
            exact this
        · have he : e < Dg f b := by omega
          have he' : e < (tos f.2.1[b]).length := by omega
          have hx : (tos f.2.1[b])[e] ∈ tos f.2.1[b] := List.getElem_mem he'
          obtain ⟨x1, x2, _⟩ := hf.edg _ hB _ hx
          obtain ⟨j, hj⟩ := Int.eq_ofNat_of_zero_le (show 0 ≤ ((tos f.2.1[b])[e]).1 by omega)
          have hjn : j < seen.length := by omega
          have hed : Ed f b e j := ⟨_, _, hg, List.getElem?_eq_getElem he', hj⟩
          obtain ⟨xr, hxr⟩ : ∃ xr, (tos f.2.1[b])[e]? = some ((j : Int), xr) := ⟨((tos f.2.1[b])[e]).2, by rw [List.getElem?_eq_getElem he', ← hj]⟩
          have hat : at? (tos f.2.1[b]) (e : Int) = some ((j : Int), xr) := by rw [at?_nat]; exact hxr
          have hcond : ((e : Int) == (((tos f.2.1[b]).length : Nat) : Int)) = false := by
            rw [← hd]; simp; omega
          have hT : Tr seen j ↔ seen[j] = true := tr_get hjn
          have hwe : IntKind.wrap .i64 ((e : Int) + 1) = ((e + 1 : Nat) : Int) := wrapS (by omega)
          have he1 : (sk ((b, e) :: r)).set r.length (en (b, e + 1)) = sk ((b, e + 1) :: r) := sk_set
          -- on to a block that was seen, or to a new one
          have old : Tr seen j → I1 (lst post) f seen (sk ((b, e + 1) :: r)) ∧ (∀ U cap, U.take (r.length + 1) = sk ((b, e + 1) :: r) → r.length + 1 ≤ cap → I2 0 (r.length + 1) cap (lst post) f seen U) ∧ I3 (lst post) f seen (sk ((b, e + 1) :: r)) := fun t =>
            ih _ _ _ (hs.adv he hed t) (by unfold ms at hm ⊢; rw [show wk f ((b, e) :: r) = (Dg f b + 1 - e) + wk f r from rfl] at hm; rw [show wk f ((b, e + 1) :: r) = (Dg f b + 1 - (e + 1)) + wk f r from rfl]; omega)
          have new : ¬ Tr seen j → I1 (lst post) f (seen.set j true) (sk ((j, 0) :: (b, e + 1) :: r)) ∧ (∀ U cap, U.take (r.length + 2) = sk ((j, 0) :: (b, e + 1) :: r) → r.length + 2 ≤ cap → I2 0 (r.length + 2) cap (lst post) f (seen.set j true) U) ∧ I3 (lst post) f (seen.set j true) (sk ((j, 0) :: (b, e + 1) :: r)) := fun t =>
            ih _ _ _ (hs.push hf he hed t) (by
              have hu := un_set hjn t
              have hdj : Dg f j ≤ 257 := by
                have hjl : j < f.2.1.length := by omega
                rw [dg_at hjl]; exact hf.tl _ (List.getElem_mem hjl)
              unfold ms at hm ⊢
              rw [show wk f ((b, e) :: r) = (Dg f b + 1 - e) + wk f r from rfl] at hm
              rw [show wk f ((j, 0) :: (b, e + 1) :: r) = (Dg f j + 1 - 0) + ((Dg f b + 1 - (e + 1)) + wk f r) from rfl]
              omega)
          have split : ∀ {X Y : Prop}, (¬ Tr seen j → X) → (Tr seen j → Y) → br (!seen[j]) X Y := fun {X Y} hX hY => brB (fun w => hX fun t => by rw [hT.1 t] at w; cases w) fun w => hY (hT.2 (by simpa using w))
          refine ⟨?_, fun U cap hU hcap => ?_, ?_⟩
          · refine hI1 _ _ _ _ ?_
            rw [hskl, hw, Int.toNat_natCast]
            refine brD (by omega) (brD (by omega) (needS sk_top (needAt hb (needS sk_top (brF hcond (needS sk_top (needS hat (needS sk_top (needS sk_top ?_)))))))))
            dsimp only [en]
            rw [hwe, Int.toNat_natCast]
            refine brD (by omega) (needNth hjn (split (fun t => brD (by omega) (needNth hjn (brT (roomS (by rw [List.length_set]; omega)) ?_))) fun t => ?_))
            · show I1 _ _ _ ((sk ((b, e) :: r)).set r.length (en (b, e + 1)) ++ [en (j, 0)])
              rw [he1, ← sk_cons]
              exact (new t).1
            · show I1 _ _ _ ((sk ((b, e) :: r)).set r.length (en (b, e + 1)))
              rw [he1]
              exact (old t).1
          · refine hI2 _ _ _ _ _ _ _ ?_
            rw [show ((b, e) :: r).length = r.length + 1 from rfl] at hU hcap ⊢
            rw [hw, Int.toNat_natCast, Nat.zero_add]
            have ht := tk_top hU
            have hset := tk_set (q := (b, e + 1)) hU
            refine brD (by omega) (brD (by omega) (needS ht (needAt hb (needS ht (brF hcond (needS ht (needS hat (needS ht (needS ht ?_)))))))))
            dsimp only [en]
            rw [hwe, Int.toNat_natCast, Nat.zero_add]
            refine brD (by omega) (needNth hjn (split (fun t => brD (by omega) (needNth hjn (brP (fun w => ?_) fun w => brT (roomS (by omega)) (brD rfl ?_)))) fun t => ?_))
            · show I2 0 (r.length + 1 + 1) cap _ _ _ ((List.take (r.length + 1) (U.set r.length (en (b, e + 1))) ++ [en (j, 0)]) ++ List.drop (r.length + 1 + 1) (U.set r.length (en (b, e + 1))))
              rw [hset, ← sk_cons]
              refine (new t).2.1 _ cap ?_ w
              rw [List.take_append_of_le_length (by rw [sk_len]; exact Nat.le_refl _), List.take_of_length_le (by rw [sk_len]; exact Nat.le_refl _)]
            · show I3 _ _ _ (List.take (r.length + 1) (U.set r.length (en (b, e + 1))) ++ [en (j, 0)])
              rw [hset, ← sk_cons]
              exact (new t).2.2
            · show I2 0 (r.length + 1) cap _ _ _ (U.set r.length (en (b, e + 1)))
              exact (old t).2.1 _ cap hset hcap
          · refine hI3 _ _ _ _ ?_
            rw [hskl, hw, Int.toNat_natCast]
            refine brD (by omega) (brD (by omega) (needS sk_top (needAt hb (needS sk_top (brF hcond (needS sk_top (needS hat (needS sk_top (needS sk_top ?_)))))))))
            dsimp only [en]
            rw [hwe, Int.toNat_natCast]
            refine brD (by omega) (needNth hjn (split (fun t => brD (by omega) (needNth hjn (brT (roomS (by rw [List.length_set]; omega)) ?_))) fun t => ?_))
            · show I3 _ _ _ ((sk ((b, e) :: r)).set r.length (en (b, e + 1)) ++ [en (j, 0)])
              rw [he1, ← sk_cons]
              exact (new t).2.2
            · show I3 _ _ _ ((sk ((b, e) :: r)).set r.length (en (b, e + 1)))
              rw [he1]
              exact (old t).2.2
  exact (key _ post seen st hs (Nat.lt_succ_self _)).1
theorem se_init {f : FU} {m : MP} (hf : FOk f m) : Se f [] ((List.replicate f.2.1.length false).set 0 true) [(0, 0)] := by
  have hp := hf.pos
  have hT : ∀ k, Tr ((List.replicate f.2.1.length false).set 0 true) k ↔ k = 0 := fun k => by
    rw [tr_set (by simp; omega)]
    have : ¬ Tr (List.replicate f.2.1.length false) k := fun q => by
      unfold Tr at q
      rw [List.getElem?_replicate] at q
      split at q
      · cases q
      · cases q
    constructor
    · rintro (q | q)
      · exact q.1
      · exact (this q.2).elim
    · exact fun q => .inl ⟨q, rfl⟩
  refine ⟨by simp, by simp [fs], fun k => by rw [hT]; simp [fs], fun k hk => ?_, by simp [fs], fun x hx hx0 => ?_, fun k hk => (by cases hk), fun b e hb => ?_⟩
  · obtain rfl : k = 0 := by simpa [fs] using hk
    exact .z (by decide)
  · exact (hx0 (by simpa [fs] using hx)).elim
  · obtain ⟨rfl, rfl⟩ : b = 0 ∧ e = 0 := by simpa using hb
    exact ⟨Nat.zero_le _, fun i _ w => absurd w (by omega)⟩
theorem c18_ok {f : FU} {m : MP} (hf : FOk f m) {k1 k2 : List Int → Prop} (h1 : ∀ post : List Nat, Od f post.reverse → k1 (lst post)) (h2 : ∀ post : List Nat, Od f post.reverse → k2 (lst post)) : c18 f [] k1 k2 := by
  have hp := hf.pos
  have hn := hf.le
  constructor
  unfold tc18
  rw [Int.toNat_natCast]
  refine brD (by omega) (brD (by rw [List.length_replicate]; omega) (needNth (by rw [List.length_replicate]; omega) ?_))
  exact l18r4_ok (post := []) (st := [(0, 0)]) hf (fun post seen hs => h1 post hs.od) (fun post seen hs => h2 post hs.od) (se_init hf)
theorem l20r1_ok {xs : List Int} (hl : xs.length ≤ 100000) {k : List Int → Prop} (h : k xs.reverse) : l20r1 k 0 (IntKind.wrap .i64 ((xs.length : Int) - 1)) xs := by
  constructor
  intro I hI
  have key : ∀ N i (Y : List Int), xs.length ≤ 2 * i + N → Y.length = xs.length → (∀ t, Y[t]? = if t < i ∨ xs.length ≤ t + i then (if t < xs.length then xs[xs.length - 1 - t]? else none) else xs[t]?) → i ≤ xs.length → I (i : Int) ((xs.length : Int) - 1 - (i : Int)) Y := by
    intro N
    induction N with
    | zero =>
      intro i Y hN hY hE hi
      refine hI _ _ _ (brDn (by omega) ?_)
      have : Y = xs.reverse := by
        refine List.ext_getElem? fun t => ?_
        rw [hE t]
        by_cases ht : t < xs.length
        · rw [List.getElem?_reverse ht, if_pos ht]
          by_cases q : t < i ∨ xs.length ≤ t + i
          · rw [if_pos q]
          · omega
        · rw [if_pos (by omega), if_neg ht, List.getElem?_eq_none (by rw [List.length_reverse]; omega)]
      rw [this]; exact h
    | succ N ih =>
      intro i Y hN hY hE hi
      apply hI
      by_cases q : (i : Int) < (xs.length : Int) - 1 - (i : Int)
      · obtain ⟨j, hj⟩ : ∃ j : Nat, (xs.length : Int) - 1 - (i : Int) = (j : Int) := ⟨xs.length - 1 - i, by omega⟩
        have hij : i < j := by omega
        have hjn : j < Y.length := by omega
        have gi : Y[i]? = xs[i]? := by rw [hE i, if_neg (by omega)]
        have gj : Y[j]? = xs[j]? := by rw [hE j, if_neg (by omega)]
        have ei := List.getElem?_eq_getElem (l := xs) (i := i) (by omega)
        have ej := List.getElem?_eq_getElem (l := xs) (i := j) (by omega)
        rw [hj, wrapS (n := i) (by omega), wrap64 (a := (j : Int) - 1) (by omega) (by omega)]
        refine brD (by omega) (brD (by omega) ?_)
        rw [Int.toNat_natCast, Int.toNat_natCast]
        refine needS (gj.trans ej) (brD (by omega) (needS (gi.trans ei) (brD (by omega) (needS (gi.trans ei) (brT (eqT_self _ _) (brD (by rw [List.length_set]; omega) (needNth (by rw [List.length_set]; omega) ?_)))))))
        have hj2 : (j : Int) - 1 = (xs.length : Int) - 1 - ((i + 1 : Nat) : Int) := by omega
        rw [hj2]
        refine ih (i + 1) _ (by omega) (by simp [hY]) (fun t => ?_) (by omega)
        rw [List.getElem?_set, List.getElem?_set, List.length_set]
        by_cases a : j = t
        · subst a
          rw [if_pos rfl, if_pos hjn, if_pos (by omega), if_pos (by omega), show xs.length - 1 - j = i by omega, ei]
        · rw [if_neg a]
          by_cases b : i = t
          · subst b
            rw [if_pos rfl, if_pos (by omega), if_pos (by omega), if_pos (by omega), show xs.length - 1 - i = j by omega, ej]
          · rw [if_neg b, hE t]
            by_cases c : t < i ∨ xs.length ≤ t + i
            · rw [if_pos c, if_pos (show t < i + 1 ∨ xs.length ≤ t + (i + 1) by omega)]
            · rw [if_neg c, if_neg (by omega)]
      · refine brDn q ?_
        have : Y = xs.reverse := by
          refine List.ext_getElem? fun t => ?_
          rw [hE t]
          by_cases ht : t < xs.length
          · rw [List.getElem?_reverse ht, if_pos ht]
            by_cases q : t < i ∨ xs.length ≤ t + i
            · rw [if_pos q]
            · rw [if_neg q, show xs.length - 1 - t = t by omega]
          · by_cases q : t < i ∨ xs.length ≤ t + i
            · rw [if_pos q, if_neg ht, List.getElem?_eq_none (by rw [List.length_reverse]; omega)]
            · omega
        rw [this]; exact h
  rw [wrap64 (by omega) (by omega)]
  have := key (xs.length) 0 xs (by omega) rfl (fun t => by
    by_cases q : t < 0 ∨ xs.length ≤ t + 0
    · rw [if_pos q, if_neg (by omega), List.getElem?_eq_none (by omega)]
    · rw [if_neg q]) (Nat.zero_le _)
  rw [show ((xs.length : Int) - 1) = (xs.length : Int) - 1 - ((0 : Nat) : Int) by omega]
  exact this
theorem c20_ok {xs : List Int} (hl : xs.length ≤ 100000) {k : List Int → Prop} (h : k xs.reverse) : c20 xs k := ⟨l20r1_ok hl h⟩
theorem lst_rev {l : List Nat} : (lst l).reverse = lst l.reverse := by simp [lst]
theorem Od.le {f : FU} {m : MP} (hf : FOk f m) {o : List Nat} (h : Od f o) : o.length ≤ f.2.1.length := nodup_le h.nd fun x hx => ((h.mem x).1 hx).lt hf
theorem c8_ok {f : FU} (hz : Szu f) {k : Int → List Int → Prop} (h0 : fErr f ≠ 0 → k (fErr f) []) (h1 : fErr f = 0 → ∀ m, FOk f m → AllU f → ∀ o, Od f o → k 0 (lst o)) : c8 f k := by
  constructor
  refine c16_ok hz (brN (fun e => h0 e) fun e => ?_)
  obtain ⟨m, hf, hU⟩ := fErr_ok e
  have fin : ∀ post : List Nat, Od f post.reverse → c20 (lst post) fun z => k 0 z := fun post ho => by
    have := ho.le hf
    have hn := hf.le
    rw [List.length_reverse] at this
    refine c20_ok (by rw [lst_len]; omega) ?_
    rw [lst_rev]
    exact h1 e m hf hU _ ho
  exact c18_ok hf fin fin
def rws (n : Nat) (Y : Nat → List Nat) : List (List Int) := (List.range n).map fun j => lst (Y j)
theorem rws_len {n : Nat} {Y : Nat → List Nat} : (rws n Y).length = n := by simp [rws]
theorem rws_get {n j : Nat} {Y : Nat → List Nat} (h : j < n) : (rws n Y)[j]? = some (lst (Y j)) := by
  unfold rws
  rw [List.getElem?_map, List.getElem?_range h]; rfl
theorem rws_set {n j : Nat} {Y : Nat → List Nat} {y : List Nat} (h : j < n) : (rws n Y).set j (lst y) = rws n fun i => if i = j then y else Y i := by
  refine List.ext_getElem? fun i => ?_
  by_cases hi : i < n
  · rw [rws_get hi]
    by_cases q : i = j
    · subst q; rw [List.getElem?_set_self (by rw [rws_len]; exact h), if_pos rfl]
    · rw [List.getElem?_set_ne (fun w => q w.symm), rws_get hi, if_neg q]
  · rw [List.getElem?_eq_none (by rw [List.length_set, rws_len]; omega), List.getElem?_eq_none (by rw [rws_len]; omega)]
def pe (p k : Nat) (l : List ED) : List Nat := (l.filter fun e => e.1 == (k : Int)).map fun _ => p
theorem pe_len {p k : Nat} {l : List ED} : (pe p k l).length ≤ l.length := by
  unfold pe
  rw [List.length_map]
  exact List.length_filter_le _ _
def tosAt (f : FU) (p : Nat) : List ED := match f.2.1[p]? with | some b => tos b | none => []
def prd (f : FU) : Nat → Nat → List Nat
  | 0, _ => []
  | i + 1, k => prd f i k ++ pe i k (tosAt f i)
theorem prd_mem {f : FU} {k p : Nat} : ∀ i, p ∈ prd f i k ↔ p < i ∧ Eg f p k
  | 0 => by simp [prd]
  | i + 1 => by
    rw [prd, List.mem_append, prd_mem i]
    unfold pe
    simp only [List.mem_map, List.mem_filter, beq_iff_eq]
    constructor
    · rintro (⟨h1, h2⟩ | ⟨e, ⟨h1, h2⟩, rfl⟩)
      · exact ⟨by omega, h2⟩
      · refine ⟨by omega, ?_⟩
        unfold tosAt at h1
        cases hb : f.2.1[i]? with
        | none => rw [hb] at h1; cases h1
        | some b => rw [hb] at h1; exact ⟨b, hb, e, h1, h2⟩
    · rintro ⟨h1, h2⟩
      by_cases q : p = i
      · subst q
        obtain ⟨b, hb, e, h3, h4⟩ := h2
        refine .inr ⟨e, ⟨?_, h4⟩, rfl⟩
        unfold tosAt
        rw [hb]; exact h3
      · exact .inl ⟨by omega, h2⟩
theorem prd_len {f : FU} {m : MP} (hf : FOk f m) {k : Nat} : ∀ i, (prd f i k).length ≤ 257 * i
  | 0 => Nat.le_refl _
  | i + 1 => by
    have h1 := prd_len hf (k := k) i
    have h2 : (tosAt f i).length ≤ 257 := by
      unfold tosAt
      cases hb : f.2.1[i]? with
      | none => simp
      | some b => exact hf.tl _ (List.mem_of_getElem? hb)
    have h3 := pe_len (p := i) (k := k) (l := tosAt f i)
    rw [prd, List.length_append]
    omega
theorem l6r9_ok {p : Nat} {s2 : List BK} {s3 s4 : Int} {l : List ED} {n : Nat} (hll : l.length ≤ 257) (he : ∀ e ∈ l, 1 ≤ e.1 ∧ e.1 < (n : Int)) {Y : Nat → List Nat} (hY : ∀ j, (Y j).length + l.length ≤ 100000) {k : List BK → Int → Int → List (List Int) → Prop}
    (h : k s2 s3 s4 (rws n fun j => Y j ++ pe p j l)) : l6r9 k (p : Int) s2 s3 s4 l (l.length : Int) 0 (rws n Y) := by
  constructor
  intro I hI
  have key := dropInd (l := l) (M := fun i r => (∀ a ∈ r, a ∈ l) → i + r.length = l.length → ∀ Y : Nat → List Nat, (∀ j, (Y j).length + r.length ≤ 100000) → k s2 s3 s4 (rws n fun j => Y j ++ pe p j r) → I (p : Int) s2 s3 s4 l (l.length : Int) (i : Int) (rws n Y))
    (fun _ _ Y _ h => hI _ _ _ _ _ _ _ _ (brDn (by omega) (by simpa [pe] using h)))
    (fun i hi ih hsub hlen Y hY h => by
      apply hI
      have hx : l[i] ∈ l := List.getElem_mem hi
      obtain ⟨x1, x2⟩ := he _ hx
      obtain ⟨j, hj⟩ := Int.eq_ofNat_of_zero_le (show 0 ≤ (l[i]).1 by omega)
      have hjn : j < n := by omega
      have hg := rws_get (Y := Y) hjn
      have hYj := hY j
      have hrl : (lst (Y j)).length = (Y j).length := lst_len
      rw [List.length_cons] at hYj hlen
      have next : I (p : Int) s2 s3 s4 l (l.length : Int) ((i + 1 : Nat) : Int) ((rws n Y).set j (lst (Y j) ++ [(p : Int)])) := by
        rw [lst_snoc, rws_set hjn]
        refine ih (fun a ha => hsub a (List.mem_cons_of_mem _ ha)) (by omega) _ (fun t => ?_) ?_
        · have := hY t
          rw [List.length_cons] at this
          by_cases q : t = j
          · subst q; rw [if_pos rfl, List.length_append]; simp only [List.length_singleton]; omega
          · rw [if_neg q]; omega
        · have : (fun t => (if t = j then Y j ++ [p] else Y t) ++ pe p t (List.drop (i + 1) l)) = fun t => Y t ++ pe p t (l[i] :: List.drop (i + 1) l) := funext fun t => by
            unfold pe
            by_cases q : t = j
            · subst q
              rw [if_pos rfl, List.filter_cons, if_pos (by rw [hj]; exact beq_self_eq_true _), List.map_cons, List.append_assoc]; rfl
            · rw [if_neg q, List.filter_cons, if_neg (by rw [hj]; simp; omega)]
          rw [this]; exact h
      rw [wrapS (n := i) (by omega)]
      refine brD (by omega) (needAt hi ?_)
      rw [hj, Int.toNat_natCast]
      have hl := rws_len (n := n) (Y := Y)
      refine brD (by omega) ⟨?_, ?_⟩
      · exact needS hg (needS hg (brT rfl (brT (eqT_self _ _) (brT (eqT_self _ _) (brT rfl (brT (eqT_self _ _) (brT (roomS (by omega)) (brT rfl (brT (eqT_self _ _) (brD (by omega) (needS hg (brD rfl next))))))))))))
      · exact brT rfl (brT (eqT_self _ _) (brT rfl (brT (eqT_self _ _) (brD (by omega) (brT (by simp) (needS hg (needS hg (brT rfl (brT (eqT_self _ _) (brT (roomS (by omega)) (brT rfl (brT (eqT_self _ _) (brD (by omega) (needS hg (brD rfl next))))))))))))))))
  exact key (fun _ h => h) (by omega) Y hY h
theorem l6r6_ok {f : FU} {m : MP} (hf : FOk f m) {k : List (List Int) → Prop} (h : k (rws f.2.1.length fun j => prd f f.2.1.length j)) : l6r6 k f.2.1 (f.2.1.length : Int) 0 (rws f.2.1.length fun _ => []) := by
  have hn := hf.le
  constructor
  intro I hI
  have key := upInd (N := f.2.1.length) (M := fun i => I f.2.1 (f.2.1.length : Int) (i : Int) (rws f.2.1.length fun j => prd f i j)) (hI _ _ _ _ (brDn (by omega) h)) (fun i hi ih => by
    apply hI
    have hb := List.getElem_mem hi
    have ht : tosAt f i = tos f.2.1[i] := by unfold tosAt; rw [List.getElem?_eq_getElem hi]
    refine brD (by omega) (needAt hi ?_)
    refine l6r9_ok (l := tos f.2.1[i]) (hf.tl _ hb) (fun e he => ⟨(hf.edg _ hb e he).1, (hf.edg _ hb e he).2.1⟩) (fun j => ?_) ?_
    · have := prd_len hf (k := j) i
      have := hf.tl _ hb
      unfold tos
      omega
    · show I _ _ (IntKind.wrap .i64 ((i : Int) + 1)) _
      rw [wrapS (n := i) (by omega), ← ht]
      exact ih) 0 (Nat.zero_le _)
  exact key
theorem c6_ok {f : FU} (hz : Szu f) {k : Int → List (List Int) → Prop} (h0 : fErr f ≠ 0 → k (fErr f) []) (h1 : fErr f = 0 → k 0 (rws f.2.1.length fun j => prd f f.2.1.length j)) : c6 f k := by
  constructor
  refine c16_ok hz (brN (fun e => h0 e) fun e => ?_)
  obtain ⟨m, hf, hU⟩ := fErr_ok e
  have hn := hf.le
  refine brD rfl (brD (by omega) ?_)
  have : List.replicate (Int.toNat (f.2.1.length : Int)) ([] : List Int) = rws f.2.1.length fun _ => [] := by
    rw [Int.toNat_natCast]
    refine List.ext_getElem? fun i => ?_
    by_cases hi : i < f.2.1.length
    · rw [rws_get hi, List.getElem?_replicate, if_pos hi]; rfl
    · rw [List.getElem?_eq_none (by simp; omega), List.getElem?_eq_none (by rw [rws_len]; omega)]
  rw [this]
  exact l6r6_ok hf (h1 e)
inductive Sr (f : FU) : List Nat → List Bool → List (Nat × Nat) → List Nat → Prop
  | nil {post : List Nat} {seen : List Bool} : Sr f post seen [] post
  | pop {post fin : List Nat} {seen : List Bool} {b e : Nat} {r : List (Nat × Nat)} : e = Dg f b → Sr f (post ++ [b]) seen r fin → Sr f post seen ((b, e) :: r) fin
  | old {post fin : List Nat} {seen : List Bool} {b e j : Nat} {r : List (Nat × Nat)} : e < Dg f b → Ed f b e j → Tr seen j → Sr f post seen ((b, e + 1) :: r) fin → Sr f post seen ((b, e) :: r) fin
  | new {post fin : List Nat} {seen : List Bool} {b e j : Nat} {r : List (Nat × Nat)} : e < Dg f b → Ed f b e j → ¬ Tr seen j → Sr f post (seen.set j true) ((j, 0) :: (b, e + 1) :: r) fin → Sr f post seen ((b, e) :: r) fin
section
variable {f : FU} {post fin : List Nat} {seen : List Bool} {b e j : Nat} {r : List (Nat × Nat)}
theorem Sr.nil' (h : Sr f post seen [] fin) : fin = post := by
  cases h; rfl
theorem Sr.pop' (h : Sr f post seen ((b, e) :: r) fin) (he : e = Dg f b) : Sr f (post ++ [b]) seen r fin := by
  cases h with
  | pop _ h => exact h
  | old q _ _ _ => omega
  | new q _ _ _ => omega
theorem Sr.old' (h : Sr f post seen ((b, e) :: r) fin) (he : e < Dg f b) (hj : Ed f b e j) (t : Tr seen j) : Sr f post seen ((b, e + 1) :: r) fin := by
  cases h with
  | pop q _ => omega
  | old _ _ _ h => exact h
  | new _ q u _ => rw [hj.fn q] at t; exact (u t).elim
theorem Sr.new' (h : Sr f post seen ((b, e) :: r) fin) (he : e < Dg f b) (hj : Ed f b e j) (t : ¬ Tr seen j) : Sr f post (seen.set j true) ((j, 0) :: (b, e + 1) :: r) fin := by
  cases h with
  | pop q _ => omega
  | old _ q u _ => rw [hj.fn q] at t; exact (t u).elim
  | new _ q _ h => rw [hj.fn q]; exact h
end
inductive Vl (f : FU) : List ED → List Bool → List Nat → List Bool → List Nat → Prop
  | nil {s : List Bool} {o : List Nat} : Vl f [] s o s o
  | old {x : ED} {l : List ED} {s s1 : List Bool} {o o1 : List Nat} {j : Nat} : x.1 = (j : Int) → j < s.length → Tr s j → Vl f l s o s1 o1 → Vl f (x :: l) s o s1 o1
  | new {x : ED} {l : List ED} {s s1 s2 : List Bool} {o o1 o2 : List Nat} {j : Nat} : x.1 = (j : Int) → j < s.length → ¬ Tr s j → Vl f (tosAt f j) (s.set j true) o s1 o1 → Vl f l s1 (o1 ++ [j]) s2 o2 → Vl f (x :: l) s o s2 o2
theorem Vl.len {f : FU} {l : List ED} {s s1 : List Bool} {o o1 : List Nat} (d : Vl f l s o s1 o1) : s1.length = s.length := by
  induction d with
  | nil => rfl
  | old _ _ _ _ ih => exact ih
  | new _ _ _ _ _ ih1 ih2 => rw [ih2, ih1, List.length_set]
theorem Vl.bal {f : FU} {l : List ED} {s s1 : List Bool} {o o1 : List Nat} (d : Vl f l s o s1 o1) : o1.length + un s1 = o.length + un s := by
  induction d with
  | nil => rfl
  | old _ _ _ _ ih => exact ih
  | new _ hj t _ _ ih1 ih2 =>
    have := un_set hj t
    rw [List.length_append, List.length_singleton] at ih2
    omega
theorem drop_cons' {α : Type} {L l : List α} {x : α} {e : Nat} (h : L.drop e = x :: l) : e < L.length ∧ L[e]? = some x ∧ L.drop (e + 1) = l := by
  have hl : e < L.length := by
    have := congrArg List.length h
    rw [List.length_drop, List.length_cons] at this
    omega
  rw [List.drop_eq_getElem_cons hl] at h
  obtain ⟨h1, h2⟩ := List.cons.inj h
  exact ⟨hl, by rw [List.getElem?_eq_getElem hl, h1], h2⟩
theorem tosAt_dg {f : FU} {b : Nat} : (tosAt f b).length = Dg f b := by
  unfold tosAt Dg
  cases f.2.1[b]? <;> rfl
theorem tosAt_ed {f : FU} {b e j : Nat} {x : ED} (h : (tosAt f b)[e]? = some x) (hx : x.1 = (j : Int)) : Ed f b e j := by
  unfold tosAt at h
  cases hb : f.2.1[b]? with
  | none => rw [hb] at h; cases h
  | some B => rw [hb] at h; exact ⟨B, x, hb, h, hx⟩
theorem Vl.sr {f : FU} {l : List ED} {s s1 : List Bool} {o o1 : List Nat} (d : Vl f l s o s1 o1) : ∀ (b e : Nat) (r : List (Nat × Nat)) (fin : List Nat), (tosAt f b).drop e = l → e ≤ Dg f b → Sr f o1 s1 ((b, Dg f b) :: r) fin → Sr f o s ((b, e) :: r) fin := by
  induction d with
  | nil =>
    intro b e r fin hd he h
    have : e = Dg f b := by
      have := congrArg List.length hd
      rw [List.length_drop, List.length_nil, tosAt_dg] at this
      omega
    rw [this]; exact h
  | old hx _ t _ ih =>
    intro b e r fin hd he h
    obtain ⟨h1, h2, h3⟩ := drop_cons' hd
    rw [tosAt_dg] at h1
    exact .old h1 (tosAt_ed h2 hx) t (ih b (e + 1) r fin h3 h1 h)
  | @new x l s s1 s2 o o1 o2 j hx _ t _ _ ih1 ih2 =>
    intro b e r fin hd he h
    obtain ⟨h1, h2, h3⟩ := drop_cons' hd
    rw [tosAt_dg] at h1
    exact .new h1 (tosAt_ed h2 hx) t (ih1 j 0 ((b, e + 1) :: r) fin rfl (Nat.zero_le _) (.pop rfl (ih2 b (e + 1) r fin h3 h1 h)))
theorem tosAt_rng {f : FU} {m : MP} (hf : FOk f m) {b : Nat} : ∀ x ∈ tosAt f b, 1 ≤ x.1 ∧ x.1 < (f.2.1.length : Int) := by
  intro x hx
  unfold tosAt at hx
  cases hb : f.2.1[b]? with
  | none => rw [hb] at hx; cases hx
  | some B =>
    rw [hb] at hx
    obtain ⟨h1, h2, _⟩ := hf.edg B (List.mem_of_getElem? hb) x hx
    exact ⟨h1, h2⟩
theorem Vl.tot {f : FU} {m : MP} (hf : FOk f m) : ∀ (N : Nat) (l : List ED) (s : List Bool) (o : List Nat), un s ≤ N → s.length = f.2.1.length → (∀ x ∈ l, 1 ≤ x.1 ∧ x.1 < (f.2.1.length : Int)) → ∃ s1 o1, Vl f l s o s1 o1 := by
  intro N
  induction N with
  | zero =>
    intro l
    induction l with
    | nil => exact fun s o _ _ _ => ⟨s, o, .nil⟩
    | cons x l ih =>
      intro s o hu hl hx
      obtain ⟨h1, h2⟩ := hx x (List.mem_cons_self ..)
      obtain ⟨j, hj⟩ := Int.eq_ofNat_of_zero_le (show 0 ≤ x.1 by omega)
      have hjl : j < s.length := by omega
      by_cases t : Tr s j
      · obtain ⟨s1, o1, d⟩ := ih s o hu hl fun y hy => hx y (List.mem_cons_of_mem _ hy)
        exact ⟨s1, o1, .old hj hjl t d⟩
      · have := un_set hjl t
        omega
  | succ N ihN =>
    intro l
    induction l with
    | nil => exact fun s o _ _ _ => ⟨s, o, .nil⟩
    | cons x l ih =>
      intro s o hu hl hx
      obtain ⟨h1, h2⟩ := hx x (List.mem_cons_self ..)
      obtain ⟨j, hj⟩ := Int.eq_ofNat_of_zero_le (show 0 ≤ x.1 by omega)
      have hjl : j < s.length := by omega
      by_cases t : Tr s j
      · obtain ⟨s1, o1, d⟩ := ih s o hu hl fun y hy => hx y (List.mem_cons_of_mem _ hy)
        exact ⟨s1, o1, .old hj hjl t d⟩
      · have h3 := un_set hjl t
        obtain ⟨s1, o1, d1⟩ := ihN (tosAt f j) (s.set j true) o (by omega) (by rw [List.length_set]; exact hl) (tosAt_rng hf)
        have h4 := d1.len
        have h5 := d1.bal
        have h6 : o.length ≤ o1.length := by
          clear h5 h4 h3
          have mono : ∀ {l : List ED} {s s1 : List Bool} {o o1 : List Nat}, Vl f l s o s1 o1 → o.length ≤ o1.length := by
            intro l s s1 o o1 d
            induction d with
            | nil => exact Nat.le_refl _
            | old _ _ _ _ ih => exact ih
            | new _ _ _ _ _ i1 i2 => rw [List.length_append] at i2; omega
          exact mono d1
        obtain ⟨s2, o2, d2⟩ := ihN l s1 (o1 ++ [j]) (by omega) (by rw [h4, List.length_set]; exact hl) fun y hy => hx y (List.mem_cons_of_mem _ hy)
        exact ⟨s2, o2, .new hj hjl t d1 d2⟩
def PO (f : FU) (fin : List Nat) : Prop := ∃ s1 o1, Vl f (tosAt f 0) ((List.replicate f.2.1.length false).set 0 true) [] s1 o1 ∧ fin = o1 ++ [0]
theorem po_ex {f : FU} {m : MP} (hf : FOk f m) : ∃ fin, PO f fin := by
  obtain ⟨s1, o1, d⟩ := Vl.tot hf _ (tosAt f 0) ((List.replicate f.2.1.length false).set 0 true) [] (Nat.le_refl _) (by simp) (tosAt_rng hf)
  exact ⟨o1 ++ [0], s1, o1, d, rfl⟩
theorem po_sr {f : FU} {fin : List Nat} (h : PO f fin) : Sr f [] ((List.replicate f.2.1.length false).set 0 true) [(0, 0)] fin := by
  obtain ⟨s1, o1, d, rfl⟩ := h
  exact d.sr 0 0 [] _ rfl (Nat.zero_le _) (.pop rfl .nil)
theorem l18r4x_ok {f : FU} {m : MP} (hf : FOk f m) {k1 k2 : List Int → Prop} {fin : List Nat} (h1 : k1 (lst fin)) (h2 : k2 (lst fin)) {post : List Nat} {seen : List Bool} {st : List (Nat × Nat)} (hs : Se f post seen st) (g0 : Sr f post seen st fin) :
    l18r4 k1 k2 (lst post) f seen (sk st) := by
  have hn := hf.le
  constructor
  intro I1 I2 I3 hI1 hI2 hI3
  have key : ∀ N post seen st, Se f post seen st → Sr f post seen st fin → ms f seen st < N → I1 (lst post) f seen (sk st) ∧ (∀ U cap, U.take st.length = sk st → st.length ≤ cap → I2 0 st.length cap (lst post) f seen U) ∧ I3 (lst post) f seen (sk st) := by
    intro N
    induction N with
    | zero => intro _ _ _ _ _ w; exact absurd w (by omega)
    | succ N ih =>
      intro post seen st hs g hm
      cases st with
      | nil =>
        refine ⟨hI1 _ _ _ _ (brDn (by simp [sk]) (by rw [← g.nil']; exact h1)), fun U cap _ _ => hI2 _ _ _ _ _ _ _ (brDn (by simp) (by rw [← g.nil']; exact h2)), hI3 _ _ _ _ (brDn (by simp [sk]) (by rw [← g.nil']; exact h2))⟩
      | cons p r =>
        obtain ⟨b, e⟩ := p
        have hbm : b ∈ post ++ fs ((b, e) :: r) := by simp [fs]
        have hb : b < f.2.1.length := (hs.rc b hbm).lt hf
        have hB := List.getElem_mem hb
        have hg := List.getElem?_eq_getElem hb
        have hd := dg_at hb
        have htl := hf.tl _ hB
        have hdl : Dg f b ≤ 257 := by rw [hd]; exact htl
        have hle := (hs.stk b e (List.mem_cons_self ..)).1
        have hall : (post ++ fs ((b, e) :: r)).length ≤ f.2.1.length := nodup_le hs.nd fun x hx => (hs.rc x hx).lt hf
        have hlen : post.length + r.length + 1 ≤ f.2.1.length := by simpa [fs, Nat.add_assoc] using hall
        have hsl := hs.len
        have hw : IntKind.wrap .i64 (((r.length + 1 : Nat) : Int) - 1) = (r.length : Int) := by rw [wrap64 (by omega) (by omega)]; omega
        have hskl : (sk ((b, e) :: r)).length = r.length + 1 := by rw [sk_len]; rfl
        have hms : ms f seen ((b, e) :: r) = 1000 * un seen + ((Dg f b + 1 - e) + wk f r) := rfl
        -- the edge
        by_cases hq : e = Dg f b
        · -- the block is left
          have hs2 := hs.pop hq
          obtain ⟨i1, i2, i3⟩ := ih _ _ _ hs2 (g.pop' hq) (by unfold ms at hm ⊢; rw [show wk f ((b, e) :: r) = (Dg f b + 1 - e) + wk f r from rfl] at hm; omega)
          have hcond : ((e : Int) == (((tos f.2.1[b]).length : Nat) : Int)) = true := by rw [hq, hd]; simp
          refine ⟨?_, fun U cap hU hcap => ?_, ?_⟩
          · refine hI1 _ _ _ _ ?_
            rw [hskl, hw, Int.toNat_natCast]
            refine brD (by omega) (brD (by omega) (needS sk_top (needAt hb (needS sk_top (brT hcond (needS sk_top (c19_ok (by omega) (brD (by omega) ?_))))))))
            have := i2 (sk ((b, e) :: r)) (Int.toNat (((r.length + 1 : Nat) : Int) - 0)) sk_take (by omega)
            rw [show (Int.toNat ((r.length : Int) - 0)) = r.length by omega]
            exact this
          · refine hI2 _ _ _ _ _ _ _ ?_
            rw [show ((b, e) :: r).length = r.length + 1 from rfl] at hU hcap ⊢
            rw [hw, Int.toNat_natCast, Nat.zero_add]
            have ht := tk_top hU
            refine brD (by omega) (brD (by omega) (needS ht (needAt hb (needS ht (brT hcond (needS ht (c19_ok (by omega) (brD (by omega) ?_))))))))
            have := i2 U (Int.toNat ((cap : Int) - 0)) (tk_pop hU) (by omega)
            rw [show (Int.toNat ((r.length : Int) - 0)) = r.length by omega]
            exact this
          · refine hI3 _ _ _ _ ?_
            rw [hskl, hw, Int.toNat_natCast]
            refine brD (by omega) (brD (by omega) (needS sk_top (needAt hb (needS sk_top (brT hcond (needS sk_top (c19_ok (by omega) (brD (by omega) ?_))))))))
            have := i2 (sk ((b, e) :: r)) (Int.toNat (((r.length + 1 : Nat) : Int) - 0)) sk_take (by omega)
            rw [show (Int.toNat ((r.length : Int) - 0)) = r.length by omega]
            exact this
        · have he : e < Dg f b := by omega
          have he' : e < (tos f.2.1[b]).length := by omega
          have hx : (tos f.2.1[b])[e] ∈ tos f.2.1[b] := List.getElem_mem he'
          obtain ⟨x1, x2, _⟩ := hf.edg _ hB _ hx
          obtain ⟨j, hj⟩ := Int.eq_ofNat_of_zero_le (show 0 ≤ ((tos f.2.1[b])[e]).1 by omega)
          have hjn : j < seen.length := by omega
          have hed : Ed f b e j := ⟨_, _, hg, List.getElem?_eq_getElem he', hj⟩
          obtain ⟨xr, hxr⟩ : ∃ xr, (tos f.2.1[b])[e]? = some ((j : Int), xr) := ⟨((tos f.2.1[b])[e]).2, by rw [List.getElem?_eq_getElem he', ← hj]⟩
          have hat : at? (tos f.2.1[b]) (e : Int) = some ((j : Int), xr) := by rw [at?_nat]; exact hxr
          have hcond : ((e : Int) == (((tos f.2.1[b]).length : Nat) : Int)) = false := by
            rw [← hd]; simp; omega
          have hT : Tr seen j ↔ seen[j] = true := tr_get hjn
          have hwe : IntKind.wrap .i64 ((e : Int) + 1) = ((e + 1 : Nat) : Int) := wrapS (by omega)
          have he1 : (sk ((b, e) :: r)).set r.length (en (b, e + 1)) = sk ((b, e + 1) :: r) := sk_set
          -- on to a block that was seen, or to a new one
          have old : Tr seen j → I1 (lst post) f seen (sk ((b, e + 1) :: r)) ∧ (∀ U cap, U.take (r.length + 1) = sk ((b, e + 1) :: r) → r.length + 1 ≤ cap → I2 0 (r.length + 1) cap (lst post) f seen U) ∧ I3 (lst post) f seen (sk ((b, e + 1) :: r)) := fun t =>
            ih _ _ _ (hs.adv he hed t) (g.old' he hed t) (by unfold ms at hm ⊢; rw [show wk f ((b, e) :: r) = (Dg f b + 1 - e) + wk f r from rfl] at hm; rw [show wk f ((b, e + 1) :: r) = (Dg f b + 1 - (e + 1)) + wk f r from rfl]; omega)
          have new : ¬ Tr seen j → I1 (lst post) f (seen.set j true) (sk ((j, 0) :: (b, e + 1) :: r)) ∧ (∀ U cap, U.take (r.length + 2) = sk ((j, 0) :: (b, e + 1) :: r) → r.length + 2 ≤ cap → I2 0 (r.length + 2) cap (lst post) f (seen.set j true) U) ∧ I3 (lst post) f (seen.set j true) (sk ((j, 0) :: (b, e + 1) :: r)) := fun t =>
            ih _ _ _ (hs.push hf he hed t) (g.new' he hed t) (by
              have hu := un_set hjn t
              have hdj : Dg f j ≤ 257 := by
                have hjl : j < f.2.1.length := by omega
                rw [dg_at hjl]; exact hf.tl _ (List.getElem_mem hjl)
              unfold ms at hm ⊢
              rw [show wk f ((b, e) :: r) = (Dg f b + 1 - e) + wk f r from rfl] at hm
              rw [show wk f ((j, 0) :: (b, e + 1) :: r) = (Dg f j + 1 - 0) + ((Dg f b + 1 - (e + 1)) + wk f r) from rfl]
              omega)
          have split : ∀ {X Y : Prop}, (¬ Tr seen j → X) → (Tr seen j → Y) → br (!seen[j]) X Y := fun {X Y} hX hY => brB (fun w => hX fun t => by rw [hT.1 t] at w; cases w) fun w => hY (hT.2 (by simpa using w))
          refine ⟨?_, fun U cap hU hcap => ?_, ?_⟩
          · refine hI1 _ _ _ _ ?_
            rw [hskl, hw, Int.toNat_natCast]
            refine brD (by omega) (brD (by omega) (needS sk_top (needAt hb (needS sk_top (brF hcond (needS sk_top (needS hat (needS sk_top (needS sk_top ?_)))))))))
            dsimp only [en]
            rw [hwe, Int.toNat_natCast]
            refine brD (by omega) (needNth hjn (split (fun t => brD (by omega) (needNth hjn (brT (roomS (by rw [List.length_set]; omega)) ?_))) fun t => ?_))
            · show I1 _ _ _ ((sk ((b, e) :: r)).set r.length (en (b, e + 1)) ++ [en (j, 0)])
              rw [he1, ← sk_cons]
              exact (new t).1
            · show I1 _ _ _ ((sk ((b, e) :: r)).set r.length (en (b, e + 1)))
              rw [he1]
              exact (old t).1
          · refine hI2 _ _ _ _ _ _ _ ?_
            rw [show ((b, e) :: r).length = r.length + 1 from rfl] at hU hcap ⊢
            rw [hw, Int.toNat_natCast, Nat.zero_add]
            have ht := tk_top hU
            have hset := tk_set (q := (b, e + 1)) hU
            refine brD (by omega) (brD (by omega) (needS ht (needAt hb (needS ht (brF hcond (needS ht (needS hat (needS ht (needS ht ?_)))))))))
            dsimp only [en]
            rw [hwe, Int.toNat_natCast, Nat.zero_add]
            refine brD (by omega) (needNth hjn (split (fun t => brD (by omega) (needNth hjn (brP (fun w => ?_) fun w => brT (roomS (by omega)) (brD rfl ?_)))) fun t => ?_))
            · show I2 0 (r.length + 1 + 1) cap _ _ _ ((List.take (r.length + 1) (U.set r.length (en (b, e + 1))) ++ [en (j, 0)]) ++ List.drop (r.length + 1 + 1) (U.set r.length (en (b, e + 1))))
              rw [hset, ← sk_cons]
              refine (new t).2.1 _ cap ?_ w
              rw [List.take_append_of_le_length (by rw [sk_len]; exact Nat.le_refl _), List.take_of_length_le (by rw [sk_len]; exact Nat.le_refl _)]
            · show I3 _ _ _ (List.take (r.length + 1) (U.set r.length (en (b, e + 1))) ++ [en (j, 0)])
              rw [hset, ← sk_cons]
              exact (new t).2.2
            · show I2 0 (r.length + 1) cap _ _ _ (U.set r.length (en (b, e + 1)))
              exact (old t).2.1 _ cap hset hcap
          · refine hI3 _ _ _ _ ?_
            rw [hskl, hw, Int.toNat_natCast]
            refine brD (by omega) (brD (by omega) (needS sk_top (needAt hb (needS sk_top (brF hcond (needS sk_top (needS hat (needS sk_top (needS sk_top ?_)))))))))
            dsimp only [en]
            rw [hwe, Int.toNat_natCast]
            refine brD (by omega) (needNth hjn (split (fun t => brD (by omega) (needNth hjn (brT (roomS (by rw [List.length_set]; omega)) ?_))) fun t => ?_))
            · show I3 _ _ _ ((sk ((b, e) :: r)).set r.length (en (b, e + 1)) ++ [en (j, 0)])
              rw [he1, ← sk_cons]
              exact (new t).2.2
            · show I3 _ _ _ ((sk ((b, e) :: r)).set r.length (en (b, e + 1)))
              rw [he1]
              exact (old t).2.2
  exact (key _ post seen st hs g0 (Nat.lt_succ_self _)).1
theorem c18x_ok {f : FU} {m : MP} (hf : FOk f m) {fin : List Nat} (hp : PO f fin) {k1 k2 : List Int → Prop} (h1 : k1 (lst fin)) (h2 : k2 (lst fin)) : c18 f [] k1 k2 := by
  have hp0 := hf.pos
  have hn := hf.le
  constructor
  unfold tc18
  rw [Int.toNat_natCast]
  refine brD (by omega) (brD (by rw [List.length_replicate]; omega) (needNth (by rw [List.length_replicate]; omega) ?_))
  exact l18r4x_ok (post := []) (st := [(0, 0)]) hf h1 h2 (se_init hf) (po_sr hp)
theorem po_len {f : FU} {m : MP} (hf : FOk f m) {fin : List Nat} (hp : PO f fin) : fin.length ≤ f.2.1.length := by
  obtain ⟨s1, o1, d, rfl⟩ := hp
  have h1 := d.bal
  have h2 := hf.pos
  have hT : ¬ Tr (List.replicate f.2.1.length false) 0 := fun q => by
    unfold Tr at q
    rw [List.getElem?_replicate] at q
    split at q
    · cases q
    · cases q
  have h3 := un_set (seen := List.replicate f.2.1.length false) (j := 0) (by simp; omega) hT
  have h4 : un (List.replicate f.2.1.length false) ≤ f.2.1.length := by unfold un; rw [List.length_replicate]; omega
  rw [List.length_append, List.length_singleton]
  rw [List.length_nil] at h1
  omega
theorem c8x_ok {f : FU} (hz : Szu f) {fin : List Nat} (hp : PO f fin) {k : Int → List Int → Prop} (h0 : fErr f ≠ 0 → k (fErr f) []) (h1 : fErr f = 0 → k 0 (lst fin.reverse)) : c8 f k := by
  constructor
  refine c16_ok hz (brN (fun e => h0 e) fun e => ?_)
  obtain ⟨m, hf, hU⟩ := fErr_ok e
  have hn := hf.le
  have hl := po_len hf hp
  have h1 := h1 e
  have er : lst fin.reverse = (lst fin).reverse := by simp [lst]
  rw [er] at h1
  exact c18x_ok hf hp (c20_ok (by rw [lst_len]; omega) h1) (c20_ok (by rw [lst_len]; omega) h1)
section
variable {f : FU} {m : MP} {R : FU → Int → List Bool → List Int → (List Bool → List Int → Prop) → Prop}
theorem vl_ok (hf : FOk f m) (hR : ∀ (x1 : FU) (x2 : Int) (x3 : List Bool) (x4 : List Int) (k1 : List Bool → List Int → Prop), (br (decide ((0 : Int) ≤ x2 ∧ (x2 : Int) < (((List.length x3) : Nat) : Int)))
  (need False (x3)[(Int.toNat x2)]? fun y5 =>
   need False (at? x1.2.1 x2) fun y6 =>
    l25r3 R
     (fun z7 z8 z9 => br (roomB ((List.length z9) + 1) 8) (k1 z8 (z9 ++ [z7])) (False))
     (fun z10 z11 z12 => br (roomB ((List.length z12) + 1) 8) (k1 z11 (z12 ++ [z10])) (False))
     x2 y6.2.2.1.2.2.2.2.1 (((List.length y6.2.2.1.2.2.2.2.1) : Nat) : Int) 0 (List.set x3 (Int.toNat x2) true) x4 x1)
  (False)) → R x1 x2 x3 x4 k1) {l : List ED} {s s1 : List Bool} {o o1 : List Nat} (d : Vl f l s o s1 o1) :
    s.length = f.2.1.length → o.length + un s ≤ 100000 → ∀ (k i : Nat) (b : BK) (kk : Int → List Bool → List Int → Prop), f.2.1[k]? = some b → (tos b).drop i = l → i ≤ (tos b).length → kk (k : Int) s1 (lst o1) → l25r3 R kk kk (k : Int) (tos b) ((tos b).length : Int) (i : Int) s (lst o) f := by
  induction d with
  | nil =>
    intro hs ho k i b kk hb hd hi hk
    have : i = (tos b).length := by
      have := congrArg List.length hd
      rw [List.length_drop, List.length_nil] at this
      omega
    constructor
    intro I1 I2 h1 h2
    exact h1 _ _ _ _ _ _ _ (brDn (by omega) hk)
  | @old x l s s1 o o1 j hx hj t _ ih =>
    intro hs ho k i b kk hb hd hi hk
    obtain ⟨q1, q2, q3⟩ := drop_cons' hd
    have htl := hf.tl b (List.mem_of_getElem? hb)
    have htl : (tos b).length ≤ 257 := htl
    have nx := ih hs ho k (i + 1) b kk hb q3 q1 hk
    constructor
    intro I1 I2 h1 h2
    refine h1 _ _ _ _ _ _ _ (brD (by omega) (needS (v := x) (by rw [at?_nat]; exact q2) ?_))
    rw [hx, wrapS (n := i) (by omega), Int.toNat_natCast]
    exact brD (by omega) (needNth hj (brF (by rw [(tr_get hj).1 t]; rfl) (nx.of I1 I2 h1 h2)))
  | @new x l s s1 s2 o o1 o2 j hx hj t d1 d2 ih1 ih2 =>
    intro hs ho k i b kk hb hd hi hk
    obtain ⟨q1, q2, q3⟩ := drop_cons' hd
    have htl := hf.tl b (List.mem_of_getElem? hb)
    have htl : (tos b).length ≤ 257 := htl
    have hu := un_set hj t
    have hbal := d1.bal
    have hlen := d1.len
    rw [List.length_set] at hlen
    have hjn : j < f.2.1.length := by omega
    have hbj := List.getElem?_eq_getElem hjn
    have htj : tosAt f j = tos f.2.1[j] := by unfold tosAt; rw [hbj]
    have nx := ih2 (hlen.trans hs) (by rw [List.length_append, List.length_singleton]; omega) k (i + 1) b kk hb q3 q1 hk
    constructor
    intro I1 I2 h1 h2
    refine h1 _ _ _ _ _ _ _ (brD (by omega) (needS (v := x) (by rw [at?_nat]; exact q2) ?_))
    rw [hx, wrapS (n := i) (by omega), Int.toNat_natCast]
    refine brD (by omega) (needNth hj (brT (by
      cases hv : s[j] with
      | true => exact (t ((tr_get hj).2 hv)).elim
      | false => rfl) (hR _ _ _ _ _ ?_)))
    rw [Int.toNat_natCast]
    refine brD (by omega) (needNth hj (needS (v := f.2.1[j]) (by rw [at?_nat]; exact hbj) ?_))
    refine ih1 (by rw [List.length_set]; exact hs) (by omega) j 0 f.2.1[j] _ hbj htj.symm (Nat.zero_le _) ?_
    refine brT (roomS (by rw [lst_len]; omega)) ?_
    rw [lst_snoc]
    exact nx.of I2 I2 h2 h2
theorem c13_ok (hf : FOk f m) {fin : List Nat} (hp : PO f fin) {k : List Int → Prop} (h : k (lst fin)) : c13 f k := by
  have hn := hf.le
  have h0 := hf.pos
  have hfl := po_len hf hp
  obtain ⟨s1, o1, d, rfl⟩ := hp
  have hb := List.getElem?_eq_getElem h0
  have ht : tosAt f 0 = tos f.2.1[0] := by unfold tosAt; rw [hb]
  have hrl : (List.replicate f.2.1.length false).length = f.2.1.length := List.length_replicate
  constructor
  refine brD (by omega) ?_
  rw [Int.toNat_natCast]
  constructor
  intro R hR
  refine hR _ _ _ _ _ ?_
  rw [show Int.toNat 0 = 0 from rfl]
  refine brD (by omega) (needNth (by omega) (needS (v := f.2.1[0]) (by exact (at?_nat (i := 0)).trans hb) ?_))
  refine vl_ok hf hR d (by simp) ?_ 0 0 f.2.1[0] _ hb ht.symm (Nat.zero_le _) ?_
  · have : un ((List.replicate f.2.1.length false).set 0 true) ≤ f.2.1.length := by unfold un; rw [List.length_set, hrl]; omega
    rw [List.length_nil]; omega
  · rw [List.length_append, List.length_singleton] at hfl
    refine brT (roomS (by rw [lst_len]; omega)) ?_
    rw [show lst o1 ++ [((0 : Nat) : Int)] = lst (o1 ++ [0]) from lst_snoc]
    exact h
end
theorem c49_ok {a b : Int} {k : Bool → Prop} (h : k (decide (a < b))) : c49 a b k := by
  constructor
  constructor
  refine brF (by simp) ?_
  exact h
theorem l43r4_ok {s2 s3 v : Int} {k : Int → Int → Int → List Int → Prop} {C : List Int} : ∀ (N : Nat) (A B : List Int), A.length = N → (A ++ B).Pairwise (· ≤ ·) → (∀ b ∈ B, v < b) → A.length ≤ 1000 →
    (∀ S : List Int, S.Pairwise (· ≤ ·) → S.Perm (A ++ v :: B) → k 0 s2 s3 (S ++ C)) → l43r4 k 0 s2 s3 (A.length : Int) (A ++ v :: (B ++ C)) := by
  intro N0 A0 B0 hA0 hs0 hB0 hl0 h0
  constructor
  intro I hI
  have key : ∀ (N : Nat) (A B : List Int), A.length = N → (A ++ B).Pairwise (· ≤ ·) → (∀ b ∈ B, v < b) → A.length ≤ 1000 → (∀ S : List Int, S.Pairwise (· ≤ ·) → S.Perm (A ++ v :: B) → k 0 s2 s3 (S ++ C)) → I 0 s2 s3 (A.length : Int) (A ++ v :: (B ++ C)) := by
    intro N
    induction N with
    | zero =>
      intro A B hA hs hB hl h
      obtain rfl := List.eq_nil_of_length_eq_zero hA
      refine hI _ _ _ _ _ (brDn (by simp) ?_)
      have := h (v :: B) (List.pairwise_cons.2 ⟨fun b hb => Int.le_of_lt (hB b hb), by simpa using hs⟩) (List.Perm.refl _)
      simpa using this
    | succ N ih =>
      intro A B hA hs hB hl h
      obtain ⟨A', u, rfl⟩ : ∃ A' u, A = A' ++ [u] := ⟨A.dropLast, A.getLast (by intro e; rw [e] at hA; cases hA), (List.dropLast_concat_getLast _).symm⟩
      have hA' : A'.length = N := by simpa using hA
      have e1 : ((A' ++ [u]).length : Int) = ((N + 1 : Nat) : Int) := by rw [hA]
      have hw : IntKind.wrap .i64 (((N + 1 : Nat) : Int) - 1) = (N : Int) := by rw [wrap64 (by omega) (by omega)]; omega
      have gj : (A' ++ [u] ++ v :: (B ++ C))[N + 1]? = some v := by rw [List.getElem?_append_right (by omega), hA, Nat.sub_self]; rfl
      have gi : (A' ++ [u] ++ v :: (B ++ C))[N]? = some u := by rw [List.getElem?_append_left (by omega), List.getElem?_append_right (by omega), hA', Nat.sub_self]; rfl
      have hlen : (A' ++ [u] ++ v :: (B ++ C)).length = N + 2 + (B ++ C).length := by simp [hA']; omega
      refine hI _ _ _ _ _ ?_
      rw [e1, hw, Int.toNat_natCast, Int.toNat_natCast]
      refine brD (by omega) (brD (by omega) (needS gj (brD (by omega) (needS gi (c49_ok (brP (fun w => ?_) fun w => ?_))))))
      · refine brD (by omega) (needS gi (brD (by omega) (needS gj (brD (by omega) (needS gj (brT (eqT_self _ _) (brT (eqT_self _ _) (brD (by rw [List.length_set]; omega) (needNth (by rw [List.length_set]; omega) ?_)))))))))
        have es : ((A' ++ [u] ++ v :: (B ++ C)).set (N + 1) u).set N v = A' ++ v :: ((u :: B) ++ C) := by
          rw [List.set_append_right _ _ (by omega), hA, Nat.sub_self, List.set_cons_zero, List.append_assoc, List.set_append_right _ _ (by omega), hA', Nat.sub_self]
          rfl
        rw [es]
        have := ih A' (u :: B) hA' (by rw [List.append_assoc] at hs; exact hs) (fun b hb => by
          rcases List.mem_cons.1 hb with rfl | hb
          · exact w
          · exact hB b hb) (by omega) (fun S h1 h2 => h S h1 (h2.trans ?_))
        · rw [hA'] at this; exact this
        · rw [List.append_assoc]
          exact (List.Perm.swap _ _ _).append_left A'
      · have := h (A' ++ [u] ++ v :: B) (by
          rw [List.pairwise_append] at hs ⊢
          obtain ⟨h1, h2, h3⟩ := hs
          refine ⟨h1, List.pairwise_cons.2 ⟨fun b hb => Int.le_of_lt (hB b hb), h2⟩, fun a ha b hb => ?_⟩
          rcases List.mem_cons.1 hb with rfl | hb
          · rw [List.pairwise_append] at h1
            rcases List.mem_append.1 ha with ha | ha
            · have := h1.2.2 a ha u (List.mem_singleton_self _); omega
            · rw [List.mem_singleton.1 ha]; omega
          · exact h3 a ha b hb) (List.Perm.refl _)
        rw [List.append_assoc, List.cons_append] at this
        exact this
  exact key N0 A0 B0 hA0 hs0 hB0 hl0 h0
theorem l43r1_ok {xs : List Int} (hl : xs.length ≤ 12) {k : List Int → Prop} (h : ∀ ys : List Int, ys.Pairwise (· ≤ ·) → ys.Perm xs → k ys) : l43r1 k 0 (xs.length : Int) (IntKind.wrap .i64 (0 + 1)) xs := by
  have w1 : IntKind.wrap .i64 ((0 : Int) + 1) = ((1 : Nat) : Int) := by decide +kernel
  rw [w1]
  constructor
  intro I hI
  have key := upInd (N := xs.length) (M := fun i => ∀ S : List Int, S.Pairwise (· ≤ ·) → S.Perm (xs.take i) → I 0 (xs.length : Int) (i : Int) (S ++ xs.drop i))
    (fun S h1 h2 => hI _ _ _ _ (brDn (by omega) (by
      rw [List.take_length] at h2
      rw [List.drop_length, List.append_nil]
      exact h S h1 h2)))
    (fun i hi ih S h1 h2 => by
      have hSl : S.length = i := by rw [h2.length_eq, List.length_take]; omega
      refine hI _ _ _ _ (brD (by omega) ?_)
      rw [drop_cons hi]
      have := l43r4_ok (s2 := (xs.length : Int)) (s3 := (i : Int)) (v := xs[i]) (k := fun z5 z6 z7 z8 => I z5 z6 (IntKind.wrap .i64 (z7 + 1)) z8) (C := xs.drop (i + 1)) S.length S [] rfl (by rw [List.append_nil]; exact h1) (fun b hb => by cases hb) (by omega) (fun S' g1 g2 => by
        show I 0 _ (IntKind.wrap .i64 ((i : Int) + 1)) _
        rw [wrapS (n := i) (by omega)]
        refine ih S' g1 ?_
        rw [List.take_succ_eq_append_getElem hi]
        exact g2.trans (h2.append_right _))
      rw [hSl] at this
      exact this)
  by_cases e : xs.length = 0
  · refine hI _ _ _ _ (brDn (by omega) ?_)
    have := List.eq_nil_of_length_eq_zero e
    subst this
    exact h [] List.Pairwise.nil (List.Perm.refl _)
  · have h1 : 0 < xs.length := by omega
    have := key 1 (by omega) (xs.take 1) (by
      cases xs with
      | nil => cases h1
      | cons a r => simp) (List.Perm.refl _)
    rwa [List.take_append_drop] at this
theorem c30_ok {n : Nat} (hn : n ≤ 12) {k : Int → Prop} (h : ∀ v, k v) : c30 (IntKind.wrap .u64 (n : Int)) k := by
  have e : IntKind.wrap .u64 (n : Int) = (n : Int) := by simp [IntKind.wrap, IntKind.signed, IntKind.bits]; omega
  have e2 : IntKind.wrap .u8 (n : Int) = (n : Int) := by simp [IntKind.wrap, IntKind.signed, IntKind.bits]; omega
  rw [e]
  constructor
  constructor
  refine brDn (by omega) (brDn (by omega) (brDn (by omega) ?_))
  rw [e2]
  exact needAt (Nat.lt_of_le_of_lt hn (by decide +kernel)) (h _)
theorem c17_ok {xs : List Int} (hl : xs.length ≤ 12) {k : List Int → Prop} (h : ∀ ys : List Int, ys.Pairwise (· ≤ ·) → ys.Perm xs → k ys) : c17 xs k := by
  constructor
  refine c30_ok hl fun v => ?_
  constructor
  constructor
  intro I hI
  refine hI _ _ _ _ _ _ (brD ?_ ?_)
  · rw [wrap64 (by omega) (by omega)]; omega
  · constructor
    exact l43r1_ok hl h
theorem perm_eq : ∀ {l l' : List Int}, l.Pairwise (· ≤ ·) → l'.Pairwise (· ≤ ·) → l.Perm l' → l = l'
  | [], l', _, _, h => (List.Perm.nil_eq h)
  | a :: r, [], _, _, h => absurd h.length_eq (by simp)
  | a :: r, b :: r', h1, h2, h => by
    rw [List.pairwise_cons] at h1 h2
    have e : a = b := by
      have ha : a ∈ b :: r' := h.subset (List.mem_cons_self ..)
      have hb : b ∈ a :: r := h.symm.subset (List.mem_cons_self ..)
      rcases List.mem_cons.1 ha with e | ha
      · exact e
      · rcases List.mem_cons.1 hb with e | hb
        · exact e.symm
        · have := h1.1 b hb; have := h2.1 a ha; omega
    subst e
    rw [perm_eq h1.2 h2.2 (List.Perm.cons_inv h)]
theorem Od.inn {f : FU} {m : MP} {o : List Nat} (hf : FOk f m) (ho : Od f o) {k : Nat} (hk : k ∈ o) : k < f.2.1.length := ((ho.mem k).1 hk).lt hf
theorem c5_ok {f : FU} (hz : Szu f) {k : Bool → Prop} (h1 : f.2.1.length ≤ 12 → k true) (h2 : k false) : c5 f k := by
  constructor
  refine brP (fun w => c15_ok hz ?_) fun _ => h2
  cases decide (frsh f ≤ 200)
  · exact h2
  · exact h1 (by omega)
theorem l12r6_ok {t : Nat} {p : Nat} {s3 : List BK} {s4 s5 : Int} {l : List ED} (hll : l.length ≤ 257) {A : List Nat} (hA : A.length + l.length ≤ 100000) {k : Int → List BK → Int → Int → List Int → Prop}
    (h : k (t : Int) s3 s4 s5 (lst (A ++ pe p t l))) : l12r6 k (t : Int) (p : Int) s3 s4 s5 l (l.length : Int) 0 (lst A) := by
  constructor
  intro I hI
  have key := dropInd (l := l) (M := fun i r => i + r.length = l.length → ∀ A : List Nat, A.length + r.length ≤ 100000 → k (t : Int) s3 s4 s5 (lst (A ++ pe p t r)) → I (t : Int) (p : Int) s3 s4 s5 l (l.length : Int) (i : Int) (lst A))
    (fun _ A _ h => hI _ _ _ _ _ _ _ _ _ (brDn (by omega) (by simpa [pe] using h)))
    (fun i hi ih hlen A hA h => by
      apply hI
      rw [List.length_cons] at hA hlen
      rw [wrapS (n := i) (by omega)]
      refine brD (by omega) (needAt hi (brE (fun e => brT (roomS (by rw [lst_len]; omega)) ?_) fun e => ?_))
      · rw [lst_snoc]
        refine ih (by omega) _ (by rw [List.length_append]; simp only [List.length_singleton]; omega) ?_
        have : A ++ [p] ++ pe p t (List.drop (i + 1) l) = A ++ pe p t (l[i] :: List.drop (i + 1) l) := by
          unfold pe
          rw [List.filter_cons, if_pos (by rw [e]; exact beq_self_eq_true _), List.map_cons, List.append_assoc]; rfl
        rw [this]; exact h
      · refine ih (by omega) A (by omega) ?_
        have : pe p t (l[i] :: List.drop (i + 1) l) = pe p t (List.drop (i + 1) l) := by
          unfold pe
          rw [List.filter_cons, if_neg (by simpa using e)]
        rw [← this]; exact h)
  exact key (by omega) A hA h
theorem c12_ok {f : FU} {m : MP} (hf : FOk f m) {t : Nat} {k : List Int → Prop} (h : k (lst (prd f f.2.1.length t))) : c12 f (t : Int) k := by
  have hn := hf.le
  constructor
  constructor
  intro I hI
  have key := upInd (N := f.2.1.length) (M := fun i => I (t : Int) f.2.1 (f.2.1.length : Int) (i : Int) (lst (prd f i t))) (hI _ _ _ _ _ (brDn (by omega) h)) (fun i hi ih => by
    apply hI
    have hb := List.getElem_mem hi
    have ht : tosAt f i = tos f.2.1[i] := by unfold tosAt; rw [List.getElem?_eq_getElem hi]
    refine brD (by omega) (needAt hi ?_)
    refine l12r6_ok (l := tos f.2.1[i]) (hf.tl _ hb) ?_ ?_
    · have := prd_len hf (k := t) i
      have := hf.tl _ hb
      unfold tos
      omega
    · show I _ _ _ (IntKind.wrap .i64 ((i : Int) + 1)) _
      rw [wrapS (n := i) (by omega), ← ht]
      exact ih) 0 (Nat.zero_le _)
  exact key
theorem c11_ok {a b : List Int} {k : Bool → Prop} (hl : a.length ≤ 100000) (h : a = b) (hk : k true) : c11 a b k := by
  subst h
  constructor
  refine brN (fun e => (e rfl).elim) fun _ => ?_
  constructor
  intro I hI
  exact upInd (N := a.length) (M := fun i => I a a (a.length : Int) (i : Int)) (hI _ _ _ _ (brDn (by omega) hk)) (fun i hi ih => hI _ _ _ _ (by
    rw [wrapS (n := i) (by omega)]
    exact brD (by omega) (needAt hi (needAt hi (brN (fun e => (e rfl).elim) fun _ => ih))))) 0 (Nat.zero_le _)
open Classical in
noncomputable def sel (n : Nat) (Q : Nat → Prop) : List Nat := (List.range n).filter fun k => decide (Q k)
open Classical in
theorem sel_mem {n k : Nat} {Q : Nat → Prop} : k ∈ sel n Q ↔ k < n ∧ Q k := by
  unfold sel
  rw [List.mem_filter, List.mem_range, decide_eq_true_eq]
theorem sel_nd {n : Nat} {Q : Nat → Prop} : (sel n Q).Nodup := by
  unfold sel
  exact (List.nodup_range).filter _
theorem sel_lt {n : Nat} {Q : Nat → Prop} : (sel n Q).Pairwise (· < ·) := by
  unfold sel
  exact List.pairwise_lt_range.filter _
theorem sel_pw {n : Nat} {Q : Nat → Prop} : (lst (sel n Q)).Pairwise (· ≤ ·) := by
  rw [List.pairwise_map]
  exact sel_lt.imp fun h => by omega
theorem sel_len {n : Nat} {Q : Nat → Prop} : (sel n Q).length ≤ n := nodup_le sel_nd fun _ h => (sel_mem.1 h).1
open Classical in
theorem sel_s {n : Nat} {Q : Nat → Prop} (h : Q n) : sel (n + 1) Q = sel n Q ++ [n] := by
  unfold sel
  rw [List.range_succ, List.filter_append, List.filter_cons_of_pos (by simpa using h), List.filter_nil]
open Classical in
theorem sel_n {n : Nat} {Q : Nat → Prop} (h : ¬ Q n) : sel (n + 1) Q = sel n Q := by
  unfold sel
  rw [List.range_succ, List.filter_append, List.filter_cons_of_neg (by simpa using h), List.filter_nil, List.append_nil]
theorem sel_perm {n : Nat} {Q : Nat → Prop} {l : List Nat} {ys : List Int} (hn : l.Nodup) (hm : ∀ k, k ∈ l ↔ k < n ∧ Q k) (h1 : ys.Pairwise (· ≤ ·)) (h2 : ys.Perm (lst l)) : ys = lst (sel n Q) := by
  have hp : (lst (sel n Q)).Perm (lst l) := ((List.perm_ext_iff_of_nodup sel_nd hn).2 fun b => by rw [sel_mem, hm]).map _
  exact perm_eq h1 sel_pw (h2.trans hp.symm)
noncomputable abbrev rl (f : FU) : List Nat := sel f.2.1.length fun k => Rc f (-1) k
theorem c7_ok {f : FU} (hz : Szu f) (h12 : f.2.1.length ≤ 12) {k : Int → List Int → Prop} (h0 : fErr f ≠ 0 → k (fErr f) []) (h1 : fErr f = 0 → k 0 (lst (rl f))) : c7 f k := by
  constructor
  refine c8_ok hz (fun e => c17_ok (xs := []) (by simp) fun ys _ hp => ?_) fun e m hf hU o ho => c17_ok ?_ fun ys g1 g2 => ?_
  · rw [List.Perm.eq_nil hp]; exact h0 e
  · rw [lst_len]
    have := nodup_le ho.nd fun x hx => ho.inn hf hx
    omega
  · rw [sel_perm (n := f.2.1.length) (Q := fun k => Rc f (-1) k) ho.nd (fun k => (ho.mem k).trans ⟨fun w => ⟨w.lt hf, w⟩, And.right⟩) g1 g2]
    exact h1 e
theorem rws_same {n k : Nat} {Y : Nat → List Nat} (h : k < n) : (rws n Y).set k (lst (Y k)) = rws n Y := by
  rw [rws_set h]
  have : (fun i => if i = k then Y k else Y i) = Y := funext fun i => by
    by_cases q : i = k
    · subst q; rw [if_pos rfl]
    · rw [if_neg q]
  rw [this]
abbrev prw (f : FU) : List (List Int) := rws f.2.1.length fun j => prd f f.2.1.length j
theorem l3r15_ok {f : FU} {m : MP} (hf : FOk f m) {seen : List Bool} (hsl : seen.length = f.2.1.length) (hs : ∀ j, Tr seen j ↔ Rc f (-1) j) {s5 s6 : List Int} {k1 : Bool → Prop} {K : FU → List Int → List Int → List Int → Prop} (hk : K f s5 s6 (lst (rl f))) : l3r15 k1 K (f.2.1.length : Int) 0 f (prw f) s5 s6 [] seen := by
  have hn := hf.le
  constructor
  intro I hI
  exact upInd (N := f.2.1.length) (M := fun i => I (f.2.1.length : Int) (i : Int) f (prw f) s5 s6 (lst (sel i fun k => Rc f (-1) k)) seen)
    (hI _ _ _ _ _ _ _ _ (brDn (by omega) hk))
    (fun i hi ih => by
      apply hI
      have hrl : (prw f).length = f.2.1.length := rws_len
      have hg : (prw f)[i]? = some (lst (prd f f.2.1.length i)) := rws_get (Y := fun j => prd f f.2.1.length j) hi
      have hset : (prw f).set i (lst (prd f f.2.1.length i)) = prw f := rws_same (Y := fun j => prd f f.2.1.length j) hi
      have hpl := prd_len hf (k := i) f.2.1.length
      have hsel : (sel i fun k => Rc f (-1) k).length ≤ i := sel_len
      have hT : Tr seen i ↔ seen[i]'(by omega) = true := tr_get (by omega)
      have fin : br (seen[i]'(by omega)) (br (roomB ((lst (sel i fun k => Rc f (-1) k)).length + 1) 8) (I (f.2.1.length : Int) ((i + 1 : Nat) : Int) f (prw f) s5 s6 (lst (sel i fun k => Rc f (-1) k) ++ [(i : Int)]) seen) False) (I (f.2.1.length : Int) ((i + 1 : Nat) : Int) f (prw f) s5 s6 (lst (sel i fun k => Rc f (-1) k)) seen) := by
        refine brB (fun t => brT (roomS (by rw [lst_len]; omega)) ?_) fun t => ?_
        · rw [sel_s (Q := fun k => Rc f (-1) k) ((hs i).1 (hT.2 t)), ← lst_snoc] at ih; exact ih
        · rw [sel_n (Q := fun k => Rc f (-1) k) (fun q => by rw [hT.1 ((hs i).2 q)] at t; cases t)] at ih; exact ih
      rw [wrapS (n := i) (by omega), Int.toNat_natCast]
      refine brD (by omega) (brD (by omega) (needNth (by omega) (brD (by omega) ⟨?_, ?_⟩)))
      · refine needS hg (needS hg (brT (eqT_self _ _) (brT (eqT_self _ _) (c12_ok hf (c11_ok (by rw [lst_len]; omega) rfl (brF rfl ?_))))))
        rw [hset]; exact fin
      · refine c12_ok hf (brT (eqT_self _ _) (brD (by omega) (brT (by simp) (needS hg (needS hg (c11_ok (by rw [lst_len]; omega) rfl (brF rfl ?_)))))))
        rw [hset]; exact fin)
    0 (Nat.zero_le _)
theorem l3r24_ok {xs : List Int} (hl : xs.length ≤ 100000) {s3 s4 s5 : List Int} {K : List Int → List Int → List Int → List Int → Prop} (h : K s3 s4 s5 xs.reverse) : l3r24 K ((xs.length / 2 : Nat) : Int) 0 s3 s4 s5 xs := by
  constructor
  intro I hI
  have key := upInd (N := xs.length / 2) (M := fun i => ∀ Y : List Int, Y.length = xs.length → (∀ t, Y[t]? = if t < i ∨ xs.length ≤ t + i then (if t < xs.length then xs[xs.length - 1 - t]? else none) else xs[t]?) → I ((xs.length / 2 : Nat) : Int) (i : Int) s3 s4 s5 Y)
    (fun Y hY hE => hI _ _ _ _ _ _ (brDn (by omega) (by
      have : Y = xs.reverse := by
        refine List.ext_getElem? fun t => ?_
        rw [hE t]
        by_cases ht : t < xs.length
        · rw [List.getElem?_reverse ht, if_pos ht]
          by_cases q : t < xs.length / 2 ∨ xs.length ≤ t + xs.length / 2
          · rw [if_pos q]
          · rw [if_neg q, show xs.length - 1 - t = t by omega]
        · rw [if_pos (by omega), if_neg ht, List.getElem?_eq_none (by rw [List.length_reverse]; omega)]
      rw [this]; exact h)))
    (fun i hi ih Y hY hE => by
      apply hI
      obtain ⟨j, hj⟩ : ∃ j : Nat, j = xs.length - 1 - i := ⟨_, rfl⟩
      have hij : i < j := by omega
      have hjn : j < Y.length := by omega
      have hw1 : IntKind.wrap .i64 ((Y.length : Int) - 1) = ((Y.length - 1 : Nat) : Int) := by rw [wrap64 (by omega) (by omega)]; omega
      have hw2 : IntKind.wrap .i64 (((Y.length - 1 : Nat) : Int) - (i : Int)) = (j : Int) := by rw [wrap64 (by omega) (by omega)]; omega
      have gi : Y[i]? = xs[i]? := by rw [hE i, if_neg (by omega)]
      have gj : Y[j]? = xs[j]? := by rw [hE j, if_neg (by omega)]
      have ei := List.getElem?_eq_getElem (l := xs) (i := i) (by omega)
      have ej := List.getElem?_eq_getElem (l := xs) (i := j) (by omega)
      simp only [hw1, hw2, Int.toNat_natCast]
      rw [wrapS (n := i) (by omega)]
      refine brD (by omega) (brD (by omega) (needS (gj.trans ej) (brD (by omega) (needS (gi.trans ei) (brD (by omega) (needS (gi.trans ei) (brT (by rw [List.length_set]; exact eqT_self _ _) (brT (eqT_self _ _) (brT (eqT_self _ _) (brT (eqT_self _ _) (brD (by rw [List.length_set]; omega) (needNth (by rw [List.length_set]; omega) ?_))))))))))))
      refine ih _ (by simp [hY]) (fun t => ?_)
      rw [List.getElem?_set, List.getElem?_set, List.length_set]
      by_cases a : j = t
      · subst a
        rw [if_pos rfl, if_pos hjn, if_pos (by omega), if_pos (by omega), show xs.length - 1 - j = i by omega, ei]
      · rw [if_neg a]
        by_cases b : i = t
        · subst b
          rw [if_pos rfl, if_pos (by omega), if_pos (by omega), if_pos (by omega), ← hj, ej]
        · rw [if_neg b, hE t]
          by_cases c : t < i ∨ xs.length ≤ t + i
          · rw [if_pos c, if_pos (show t < i + 1 ∨ xs.length ≤ t + (i + 1) by omega)]
          · rw [if_neg c, if_neg (by omega)])
    0 (Nat.zero_le _)
  exact key xs rfl fun t => by
    by_cases q : t < 0 ∨ xs.length ≤ t + 0
    · rw [if_pos q, if_neg (by omega), List.getElem?_eq_none (by omega)]
    · rw [if_neg q]
theorem law3' {f : FU} (hz : Szu f) (h4 : ∀ {k : Bool → Prop}, k true → c4 k) {k : Bool → Prop} (hk : k true) : c3 f k := by
  constructor
  refine h4 (brF rfl (c5_ok hz (fun h12 => brF rfl ?_) (brT rfl hk)))
  by_cases e : fErr f = 0
  · obtain ⟨m, hf, hU⟩ := fErr_ok e
    obtain ⟨fin, hp⟩ := po_ex hf
    have hfl := po_len hf hp
    have hrl : (prw f).length = f.2.1.length := rws_len
    refine c6_ok hz (fun w => (w e).elim) fun _ => c7_ok hz h12 (fun w => (w e).elim) fun _ => c8x_ok hz hp (fun w => (w e).elim) fun _ => c9_ok hz (brF (by simpa using e) (brF rfl (brF rfl (brF rfl (brF ?_ (c10_ok hf hz fun s hsl hs => ?_))))))
    · rw [hrl]; simp
    · rw [hsl]
      refine l3r15_ok hf hsl hs (c13_ok hf hp ?_)
      have hw : IntKind.wrap .i64 (Int.tdiv (((List.length (lst fin)) : Nat) : Int) 2) = (((lst fin).length / 2 : Nat) : Int) := by
        have : Int.tdiv (((List.length (lst fin)) : Nat) : Int) 2 = (((lst fin).length / 2 : Nat) : Int) := by
          rw [Int.tdiv_eq_ediv_of_nonneg (by omega)]; omega
        rw [this, wrap64 (by rw [lst_len]; omega) (by rw [lst_len]; omega)]
      rw [hw]
      refine l3r24_ok (by rw [lst_len]; omega) (c11_ok ?_ rfl (brT rfl (c11_ok ?_ ?_ hk)))
      · rw [lst_len]
        have : (rl f).length ≤ f.2.1.length := sel_len
        omega
      · rw [lst_len, List.length_reverse]; omega
      · simp [lst]
  · exact c6_ok hz (fun _ => c7_ok hz h12 (fun _ => c8_ok hz (fun _ => c9_ok hz (brT (by simpa using e) (brT (by simp) (brT (by simp) (brT (by simp) hk))))) fun w => (e w).elim) fun w => (e w).elim) fun w => (e w).elim
abbrev dt0 : TM := (2, 1, 0, [], [(1, [], ()), (2, [], ())], ())
abbrev dt1 : TM := (1, 0, 0, [], [(3, [], ())], ())
abbrev dt3 : TM := (0, 1, 0, [], [], ())
abbrev di : IN := (1, 0, 1, [], ())
abbrev db0 : BK := ([], [di], dt0, ())
abbrev db1 : BK := ([], [], dt1, ())
abbrev db3 : BK := ([], [], dt3, ())
abbrev dbl : List BK := [db0, db1, db1, db3]
abbrev dia : FU := (-1, dbl, ())
theorem dia_mem {b : BK} (h : b ∈ dia.2.1) : b = db0 ∨ b = db1 ∨ b = db3 := by
  rcases List.mem_cons.1 h with h | h
  · exact .inl h
  rcases List.mem_cons.1 h with h | h
  · exact .inr (.inl h)
  rcases List.mem_cons.1 h with h | h
  · exact .inr (.inl h)
  · exact .inr (.inr (List.mem_singleton.1 h))
theorem dia_szu : Szu dia := by
  refine ⟨by decide +kernel, fun b hb => ?_, fun b hb => ?_, fun b hb => ?_, fun b hb x hx => ?_, fun b hb e he => ?_⟩
  · rcases dia_mem hb with rfl | rfl | rfl <;> decide +kernel
  · rcases dia_mem hb with rfl | rfl | rfl <;> decide +kernel
  · rcases dia_mem hb with rfl | rfl | rfl <;> decide +kernel
  · rcases dia_mem hb with rfl | rfl | rfl
    · rw [List.mem_singleton.1 hx]; decide +kernel
    · cases hx
    · cases hx
  · rcases dia_mem hb with rfl | rfl | rfl
    · rcases List.mem_cons.1 he with rfl | he
      · decide +kernel
      · rw [List.mem_singleton.1 he]; decide +kernel
    · rw [List.mem_singleton.1 he]; decide +kernel
    · cases he
theorem di_form : formE di = 0 := by
  unfold formE
  have ha : ar di = 0 := by decide +kernel
  have h1 : ¬ Bf di := by unfold Bf; rw [ha]; decide +kernel
  have h2 : ¬ Lg di := by unfold Lg; decide +kernel
  have h3 : numP di := by unfold numP; decide +kernel
  rw [if_neg h1, if_neg h2, if_pos h3]
theorem dt_end {t : TM} (h : t = dt0 ∨ t = dt1 ∨ t = dt3) : endE dia t = 0 := by
  unfold endE
  have h1 : shpP t := by unfold shpP; rcases h with rfl | rfl | rfl <;> decide +kernel
  rw [if_neg (fun w => w h1)]
  rcases h with rfl | rfl | rfl
  · rw [if_neg (by decide +kernel), if_neg (by decide +kernel), if_neg (by decide +kernel)]; decide +kernel
  · rw [if_neg (by decide +kernel), if_neg (by decide +kernel), if_neg (by decide +kernel)]; decide +kernel
  · rw [if_neg (by decide +kernel), if_neg (by decide +kernel), if_neg (by decide +kernel)]; decide +kernel
theorem blkE_nil {k : Int} {t : TM} {m : MP} (h : endE dia t = 0) : blkE dia k ([], [], t, ()) m = (0, m) := by
  rw [blkE, parE, if_neg (fun w => w rfl), insE, if_neg (fun w => w rfl), h]
theorem dia_shp : (shpE dia 0 dbl []).1 = 0 := by
  have hp : parE (((0 : Nat) : Int), 0, ()) [] [] = (0, []) := rfl
  have hi : insE ((0 : Nat) : Int) 0 [di] [] = (0, [(1, (0, 1, ()))]) := by
    rw [insE, if_neg (by decide +kernel), if_neg (fun w => w di_form), insE]
    rfl
  have hb : blkE dia ((0 : Nat) : Int) db0 [] = (0, [(1, (0, 1, ()))]) := by
    rw [blkE, if_neg (by rw [hp]; exact fun w => w rfl), hp, if_neg (by rw [hi]; exact fun w => w rfl), hi, dt_end (.inl rfl)]
  have e1 := dt_end (t := dt1) (.inr (.inl rfl))
  have e3 := dt_end (t := dt3) (.inr (.inr rfl))
  rw [shpE, if_neg (by rw [hb]; exact fun w => w rfl), hb, shpE, blkE_nil e1, if_neg (fun w => w rfl), shpE, blkE_nil e1, if_neg (fun w => w rfl), shpE, blkE_nil e3, if_neg (fun w => w rfl), shpE]
theorem dia_df : Df dia 1 0 1 := ⟨_, rfl, .inr ⟨0, _, rfl, rfl, rfl⟩⟩
theorem dia_all : AllU dia := by
  intro k b hb
  have nar : ∀ (j : Nat) (x : IN), b.2.1[j]? = some x → x.2.2.2.1 = [] := fun j x hx => by
    rcases dia_mem (List.mem_of_getElem? hb) with rfl | rfl | rfl
    · rw [List.mem_singleton.1 (List.mem_of_getElem? hx)]
    · cases hx
    · cases hx
  refine ⟨fun j x hj v hv => (by rw [nar j x hj] at hv; cases hv), fun v hv => ?_⟩
  match k with
  | 0 =>
    obtain rfl := Option.some.inj hb
    have : v = 1 := by simpa [opr] using hv
    subst this
    exact ⟨0, 1, dia_df, .inr (.inl ⟨rfl, Nat.le_refl _⟩)⟩
  | 1 => obtain rfl := Option.some.inj hb; simp [opr] at hv
  | 2 => obtain rfl := Option.some.inj hb; simp [opr] at hv
  | 3 =>
    obtain rfl := Option.some.inj hb
    have : v = 1 := by simpa [opr] using hv
    subst this
    exact ⟨0, 1, dia_df, .inr (.inr ⟨by decide, fun w => w.no⟩)⟩
  | k + 4 => cases hb
theorem dia_err : fErr dia = 0 := by
  unfold fErr
  rw [if_neg (by decide +kernel), if_neg (by decide +kernel), if_neg (by decide +kernel), if_neg (by decide +kernel), if_neg (by decide +kernel), if_neg (fun w => w dia_shp), if_pos dia_all]
theorem dia_po : PO dia [3, 1, 2, 0] := by
  have d : Vl dia [(1, [], ()), (2, [], ())] [true, false, false, false] [] [true, true, true, true] [3, 1, 2] :=
    .new (j := 1) rfl (by decide) (by unfold Tr; decide) (.new (j := 3) rfl (by decide) (by unfold Tr; decide) .nil .nil) (.new (j := 2) rfl (by decide) (by unfold Tr; decide) (.old (j := 3) rfl (by decide) (by unfold Tr; decide) .nil) .nil)
  exact ⟨_, _, d, rfl⟩
theorem nil_szu : Szu ((0, [], ()) : FU) := by
  refine ⟨by decide +kernel, fun b hb => ?_, fun b hb => ?_, fun b hb => ?_, fun b hb x hx => ?_, fun b hb e he => ?_⟩ <;> cases hb
theorem nil_err : fErr ((0, [], ()) : FU) = 3 := by
  unfold fErr
  exact if_pos rfl
theorem c4_ok {k : Bool → Prop} (h : k true) : c4 k := by
  have hp3 : lst (prd dia 4 3) = [1, 2] := by decide +kernel
  have hg := rws_get (n := 4) (j := 3) (Y := fun j => prd dia 4 j) (by decide)
  rw [hp3] at hg
  constructor
  constructor
  refine c8x_ok (f := dia) dia_szu dia_po (fun e => (e dia_err).elim) fun _ => ?_
  constructor
  refine c6_ok (f := dia) dia_szu (fun e => (e dia_err).elim) fun _ => ?_
  refine c8_ok nil_szu (fun _ => ?_) fun e => ?_
  · rw [nil_err]
    refine brT rfl (c11_ok (by decide) rfl (brT rfl (brT rfl (brT ?_ (brD ?_ (needS hg (needS hg (c11_ok (by decide) rfl (brT rfl h)))))))))
    · rw [rws_len]; rfl
    · rw [rws_len]; decide
  · rw [nil_err] at e; cases e
abbrev edT : Ty := .pair (.int .i64) (.pair (.sl (.int .i64)) .unit)
abbrev tmT : Ty := .pair (.int .i64) (.pair (.int .i64) (.pair (.int .i64) (.pair (.sl (.int .i64)) (.pair (.sl edT) .unit))))
abbrev inT : Ty := .pair (.int .i64) (.pair (.int .i64) (.pair (.int .i64) (.pair (.sl (.int .i64)) .unit)))
abbrev bkT : Ty := .pair (.sl (.int .i64)) (.pair (.sl inT) (.pair tmT .unit))
abbrev fuT : Ty := .pair (.int .i64) (.pair (.sl bkT) .unit)
theorem szu_of {f : FU} (g : Go.Abs.Good fuT f) : Szu f := by
  obtain ⟨_, ⟨g1, g2⟩, _⟩ := g
  refine ⟨g1, fun b hb => ?_, fun b hb => ?_, fun b hb => ?_, fun b hb x hx => ?_, fun b hb e he => ?_⟩
  · obtain ⟨⟨h, _⟩, _⟩ := g2 b hb
    exact h
  · obtain ⟨_, ⟨h, _⟩, _⟩ := g2 b hb
    exact h
  · obtain ⟨_, _, ⟨_, _, _, _, ⟨h, _⟩, _⟩, _⟩ := g2 b hb
    exact h
  · obtain ⟨_, ⟨_, h⟩, _⟩ := g2 b hb
    obtain ⟨_, _, _, ⟨h2, _⟩, _⟩ := h x hx
    exact h2
  · obtain ⟨_, _, ⟨_, _, _, _, ⟨_, h⟩, _⟩, _⟩ := g2 b hb
    obtain ⟨_, ⟨h2, _⟩, _⟩ := h e he
    exact h2
theorem law3 {f : FU} (g : Go.Abs.Good fuT f ∧ Go.Abs.Sz fuT f) {k : Bool → Prop} (hk : k true) : c3 f k := law3' (szu_of g.1) c4_ok hk
end Go.Proofs.Yteeigkbjjoedoaa
