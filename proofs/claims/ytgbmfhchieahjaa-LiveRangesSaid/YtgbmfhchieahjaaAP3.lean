/- What is live where, as the program and the reference say it. -/
import Derived.Test.YtgbmfhchieahjaaAD3
import Derived.Test.YtgbmfhchieahjaaAPKit2
import Derived.Test.YtgbmfhchieahjaaARow1
import Derived.Test.YtgbmfhchieahjaaARow6
set_option linter.unusedVariables false
set_option linter.unusedSimpArgs false
namespace Go.Proofs.Ytgbmfhchieahjaa
open Go.Abs
theorem hml : maxLen = 9223372036854775807 := rfl
theorem allInd {N : Nat} {p : Nat → Prop} {M : Nat → Prop} (hN : (∀ i, i < N → p i) → M N)
    (hs : ∀ i, i < N → (∀ j, j < i → p j) → (p i → M (i + 1)) → M i) : M 0 := by
  have key := upInd (N := N) (M := fun i => (∀ j, j < i → p j) → M i) hN (fun i hi ih hp =>
    hs i hi hp (fun h => ih fun j hj => by
      by_cases e : j = i
      · subst e; exact h
      · exact hp j (by omega)))
  exact key 0 (Nat.zero_le _) fun j hj => absurd hj (by omega)
theorem dropInd {α : Type} {l : List α} {M : Nat → List α → Prop} (hN : M l.length [])
    (hs : ∀ i, (h : i < l.length) → M (i + 1) (l.drop (i + 1)) → M i (l[i] :: l.drop (i + 1))) : M 0 l := by
  have key := upInd (N := l.length) (M := fun i => M i (l.drop i)) (by rw [List.drop_length]; exact hN) (fun i hi ih => by rw [drop_cons hi]; exact hs i hi ih) 0 (Nat.zero_le _)
  rwa [List.drop_zero] at key
abbrev ED := Int × List Int × Unit
abbrev TM := Int × Int × Int × List Int × List ED × Unit
abbrev IN := Int × Int × Int × List Int × Unit
abbrev BK := List Int × List IN × TM × Unit
abbrev FU := Int × List BK × Unit
theorem c38_ok {a b c : Int} {k : Bool → Prop} (h : k (decide (b ≤ a ∧ a ≤ c))) : c38 a b c k := by
  constructor
  refine brP (fun e => ?_) fun e => ?_
  · rw [show decide (a ≤ c) = decide (b ≤ a ∧ a ≤ c) by simp only [decide_eq_decide]; omega]; exact h
  · rw [show decide (b ≤ a ∧ a ≤ c) = false by rw [decide_eq_false_iff_not]; omega] at h; exact h
theorem c13_ok {a b c : Int} {k : Bool → Prop} (h : k (decide (b ≤ a ∧ a ≤ c))) : c13 a b c k := by
  constructor
  refine brP (fun e => ?_) fun e => ?_
  · rw [show decide (a ≤ c) = decide (b ≤ a ∧ a ≤ c) by simp only [decide_eq_decide]; omega]; exact h
  · rw [show decide (b ≤ a ∧ a ≤ c) = false by rw [decide_eq_false_iff_not]; omega] at h; exact h
theorem c38_if {a b c : Int} {k : Bool → Prop} (h1 : b ≤ a ∧ a ≤ c → k true) (h2 : ¬ (b ≤ a ∧ a ≤ c) → k false) : c38 a b c k := by
  refine c38_ok ?_
  by_cases e : b ≤ a ∧ a ≤ c
  · rw [decide_eq_true e]; exact h1 e
  · rw [decide_eq_false e]; exact h2 e
theorem c13_if {a b c : Int} {k : Bool → Prop} (h1 : b ≤ a ∧ a ≤ c → k true) (h2 : ¬ (b ≤ a ∧ a ≤ c) → k false) : c13 a b c k := by
  refine c13_ok ?_
  by_cases e : b ≤ a ∧ a ≤ c
  · rw [decide_eq_true e]; exact h1 e
  · rw [decide_eq_false e]; exact h2 e
theorem c55_if {a : Int} {k : Bool → Prop} (h1 : -1073741824 ≤ a ∧ a ≤ 1073741823 → k true) (h2 : ¬ (-1073741824 ≤ a ∧ a ≤ 1073741823) → k false) : c55 a k := ⟨c38_if h1 h2⟩
theorem c37_if {a : Int} {k : Bool → Prop} (h1 : -1073741824 ≤ a ∧ a ≤ 1073741823 → k true) (h2 : ¬ (-1073741824 ≤ a ∧ a ≤ 1073741823) → k false) : c37 a k := ⟨c13_if h1 h2⟩
theorem c24_ok {l : List Int} {v : Int} {k : Bool → Prop} (hl : l.length ≤ maxLen) (h1 : v ∈ l → k true) (h2 : v ∉ l → k false) : c24 l v k := by
  have hm := hml
  constructor
  constructor
  intro I hI
  refine allInd (N := l.length) (p := fun i => ∀ h : i < l.length, l[i] ≠ v) (M := fun i => I v l (l.length : Int) (i : Int)) (fun h => hI _ _ _ _ (brDn (by omega) (h2 fun hm => ?_))) fun i hi hlt ih => hI _ _ _ _ ?_
  · obtain ⟨i, hi, e⟩ := List.mem_iff_getElem.1 hm
    exact h i hi hi e
  · rw [wrapS (by omega)]
    exact brD (by omega) (needAt hi (brE (fun e => h1 (e ▸ List.getElem_mem hi)) fun e => ih fun _ => e))
theorem c43_ok {l : List Int} {v : Int} {k : Bool → Prop} (hl : l.length ≤ maxLen) (h1 : v ∈ l → k true) (h2 : v ∉ l → k false) : c43 l v k := by
  have hm := hml
  constructor
  constructor
  constructor
  intro I hI
  refine allInd (N := l.length) (p := fun i => ∀ h : i < l.length, l[i] ≠ v) (M := fun i => I l v (l.length : Int) (i : Int)) (fun h => hI _ _ _ _ (brDn (by omega) ?_)) fun i hi hlt ih => hI _ _ _ _ ?_
  · exact h2 fun hm => by
      obtain ⟨i, hi, e⟩ := List.mem_iff_getElem.1 hm
      exact h i hi hi e
  · rw [wrapS (by omega)]
    refine brD (by omega) (needAt hi (brE (fun e => ?_) fun e => ih fun _ w => e w.symm))
    have : decide ((i : Int) ≥ 0) = true := by rw [decide_eq_true_eq]; omega
    show k (decide ((i : Int) ≥ 0))
    rw [this]
    exact h1 (e ▸ List.getElem_mem hi)
def ar (x : IN) : Int :=
  if x.2.1 = 0 then 0
  else if x.2.1 = 10 ∨ x.2.1 = 11 ∨ x.2.1 = 12 ∨ x.2.1 = 15 ∨ x.2.1 = 17 ∨ x.2.1 = 24 then 1
  else if (1 ≤ x.2.1 ∧ x.2.1 ≤ 7) ∨ x.2.1 = 16 ∨ x.2.1 = 18 ∨ x.2.1 = 19 ∨ x.2.1 = 21 ∨ x.2.1 = 23 then 2
  else if x.2.1 = 20 then 3
  else if x.2.1 = 8 ∨ x.2.1 = 9 ∨ x.2.1 = 13 ∨ x.2.1 = 14 then -1
  else if x.2.1 = 22 ∧ x.2.2.1 = 2 then 2
  else if x.2.1 = 22 ∧ x.2.2.1 = 4 then 4 else -2
theorem c36_ok {x : IN} {k : Int → Prop} (h : k (ar x)) : c36 x k := by
  have go : ∀ v, ar x = v → k v := fun v e => e ▸ h
  constructor
  repeat (first | refine brE (fun e => go _ (by simp [ar, e])) fun _ => ?_ | (refine brE (fun e => ?_) fun _ => ?_; rotate_left))
  · exact go _ (by simp [ar, *]; omega)
  · rename_i e
    refine brE (fun e2 => go _ (by simp [ar, e, e2])) fun e2 => brE (fun e3 => go _ (by simp [ar, e, e3])) fun e3 => go _ (by simp [ar, e, e2, e3])
theorem c52_ok {x : IN} {k : Int → Bool → Prop} (h1 : ar x = -2 → ∀ z, k z false) (h2 : ar x ≠ -2 → k (ar x) true) : c52 x k := by
  have go : ∀ v, ar x = v → v ≠ -2 → k v true := fun v e w => e ▸ h2 (e ▸ w)
  constructor
  repeat (first | refine brE (fun e => go _ (by simp [ar, e]) (by decide)) fun _ => ?_ | (refine brE (fun e => ?_) fun _ => ?_; rotate_left))
  · exact h1 (by simp [ar, *]; omega) _
  · rename_i e
    refine brE (fun e2 => go _ (by simp [ar, e, e2]) (by omega)) fun e2 => ?_
    cases hb : (x.2.2.1 == 4) with
    | true =>
      have e3 : x.2.2.1 = 4 := by simpa using hb
      exact go _ (by simp [ar, e, e3]) (by omega)
    | false =>
      have e3 : x.2.2.1 ≠ 4 := by simpa using hb
      exact h1 (by simp [ar, e, e2, e3]) _
def numP (x : IN) : Prop :=
  (x.2.1 = 0 → -1073741824 ≤ x.2.2.1 ∧ x.2.2.1 ≤ 1073741823) ∧ (x.2.1 = 8 ∨ x.2.1 = 9 ∨ x.2.1 = 13 → 0 ≤ x.2.2.1 ∧ x.2.2.1 ≤ 255) ∧ (x.2.1 = 11 → 0 ≤ x.2.2.1 ∧ x.2.2.1 ≤ 15) ∧
  (x.2.1 = 23 → x.2.2.1 = 1 ∨ x.2.2.1 = 2 ∨ x.2.2.1 = 3) ∧ (x.2.1 = 24 → 0 ≤ x.2.2.1 ∧ x.2.2.1 ≤ 3) ∧
  (x.2.1 ≠ 0 ∧ x.2.1 ≠ 8 ∧ x.2.1 ≠ 9 ∧ x.2.1 ≠ 13 ∧ x.2.1 ≠ 11 ∧ x.2.1 ≠ 23 ∧ x.2.1 ≠ 24 ∧ x.2.1 ≠ 22 → x.2.2.1 = 0)
theorem beq_if {a b : Int} {k : Bool → Prop} (h1 : a = b → k true) (h2 : a ≠ b → k false) : k (a == b) := by
  by_cases e : a = b
  · rw [show (a == b) = true by simpa using e]; exact h1 e
  · rw [show (a == b) = false by simpa using e]; exact h2 e
theorem c53_ok {x : IN} {k : Bool → Prop} (h1 : numP x → k true) (h2 : ¬ numP x → k false) : c53 x k := by
  constructor
  refine brE (fun e => c55_if (fun q => h1 ?_) fun q => h2 ?_) fun e0 => ?_
  · unfold numP; omega
  · unfold numP; omega
  refine brE (fun e => c38_if (fun q => h1 ?_) fun q => h2 ?_) fun e1 => ?_
  · unfold numP; omega
  · unfold numP; omega
  refine brE (fun e => c38_if (fun q => h1 ?_) fun q => h2 ?_) fun e2 => ?_
  · unfold numP; omega
  · unfold numP; omega
  refine brE (fun e => c38_if (fun q => h1 ?_) fun q => h2 ?_) fun e3 => ?_
  · unfold numP; omega
  · unfold numP; omega
  refine brE (fun e => c38_if (fun q => h1 ?_) fun q => h2 ?_) fun e4 => ?_
  · unfold numP; omega
  · unfold numP; omega
  refine brE (fun e => ?_) fun e5 => ?_
  · refine brE (fun e2 => h1 ?_) fun e2 => brE (fun e3 => h1 ?_) fun e3 => beq_if (fun q => h1 ?_) fun q => h2 ?_
    all_goals (unfold numP; omega)
  refine brE (fun e => c38_if (fun q => h1 ?_) fun q => h2 ?_) fun e6 => ?_
  · unfold numP; omega
  · unfold numP; omega
  refine brE (fun e => h1 ?_) fun e7 => beq_if (fun q => h1 ?_) fun q => h2 ?_
  all_goals (unfold numP; omega)
def Lg (x : IN) : Prop := ((x.2.1 = 8 ∨ x.2.1 = 9) ∧ 16 < x.2.2.2.1.length) ∨ ((x.2.1 = 13 ∨ x.2.1 = 14) ∧ 6 < x.2.2.2.1.length)
def Bf (x : IN) : Prop := ar x = -2 ∨ (0 ≤ ar x ∧ (x.2.2.2.1.length : Int) ≠ ar x) ∨ (x.2.1 = 14 ∧ x.2.2.2.1.length = 0)
open Classical in
noncomputable def formE (x : IN) : Int := if Bf x then 3 else if Lg x then 2 else if numP x then 0 else 4
theorem j45s5_ok {k1 : Int → Prop} {k2 : Prop} {s : Bool} {x : IN} (h1 : s = true → k1 2) (h2 : s = false → ¬ numP x → k1 4) (h3 : s = false → numP x → k2) : j45s5 k1 k2 s x := by
  constructor
  exact brB h1 fun e => c53_ok (fun q => brF rfl (h3 e q)) fun q => brT rfl (h2 e q)
theorem j45s2_ok {k1 : Int → Prop} {k2 : Prop} {s : Bool} {x : IN} (h1 : s = true → k1 3) (h2 : s = false → Lg x → k1 2) (h3 : s = false → ¬ Lg x → ¬ numP x → k1 4) (h4 : s = false → ¬ Lg x → numP x → k2) : j45s2 k1 k2 s x := by
  constructor
  refine brB h1 fun hs => ?_
  have go : ∀ b : Bool, (b = true ↔ Lg x) → j45s5 k1 k2 b x := fun b hb => j45s5_ok (fun q => h2 hs (hb.1 q)) (fun q => h3 hs fun w => by rw [hb.2 w] at q; cases q) (fun q => h4 hs fun w => by rw [hb.2 w] at q; cases q)
  have no : ¬ Lg x → j45s5 k1 k2 false x := fun q => go false ⟨fun w => (by cases w), fun w => (q w).elim⟩
  have six : x.2.1 = 13 ∨ x.2.1 = 14 → j45s5 k1 k2 (decide (((x.2.2.2.1.length : Nat) : Int) > 6)) x := fun q => go _ (by rw [decide_eq_true_eq]; unfold Lg; omega)
  refine brE (fun e => brP (fun q => go true ⟨fun _ => ?_, fun _ => rfl⟩) fun q => brE (fun e1 => ?_) fun e1 => brE (fun e2 => ?_) fun e2 => no ?_) fun e => ?_
  · unfold Lg; omega
  · omega
  · omega
  · unfold Lg; omega
  refine brE (fun e => brP (fun q => go true ⟨fun _ => ?_, fun _ => rfl⟩) fun q => brE (fun e1 => ?_) fun e1 => brE (fun e2 => ?_) fun e2 => no ?_) fun e => ?_
  · unfold Lg; omega
  · omega
  · omega
  · unfold Lg; omega
  refine brE (fun e => six (.inl e)) fun e3 => brE (fun e => six (.inr e)) fun e4 => no ?_
  unfold Lg; omega
theorem c45_ok {x : IN} {k : Int → Prop} (h : k (formE x)) : c45 x k := by
  have go : ∀ v, formE x = v → k v := fun v e => e ▸ h
  have main : ∀ s : Bool, (s = true ↔ Bf x) → j45s2 k (j45r9 k) s x := fun s hs => j45s2_ok (fun q => go _ (if_pos (hs.1 q)))
    (fun q w => go _ ((if_neg fun w2 => by rw [hs.2 w2] at q; cases q).trans (if_pos w)))
    (fun q w w3 => go _ ((if_neg fun w2 => by rw [hs.2 w2] at q; cases q).trans ((if_neg w).trans (if_neg w3))))
    (fun q w w3 => ⟨go _ ((if_neg fun w2 => by rw [hs.2 w2] at q; cases q).trans ((if_neg w).trans (if_pos w3)))⟩)
  constructor
  refine c52_ok (fun e z => brT rfl (main true ⟨fun _ => .inl e, fun _ => rfl⟩)) fun e => brF rfl (brP (fun e1 => brN (fun e2 => main true ⟨fun _ => .inr (.inl ⟨e1, e2⟩), fun _ => rfl⟩) fun e2 => ?_) fun e1 => ?_)
  · refine brE (fun e3 => main _ ?_) fun e3 => main false ⟨fun w => (by cases w), fun w => ?_⟩
    · rw [beq_iff_eq]; unfold Bf; omega
    · unfold Bf at w; omega
  · refine brE (fun e3 => main _ ?_) fun e3 => main false ⟨fun w => (by cases w), fun w => ?_⟩
    · rw [beq_iff_eq]; unfold Bf; omega
    · unfold Bf at w; omega
theorem j27r6_ok {x : IN} {k : Int → Prop} (h1 : numP x → k 0) (h2 : ¬ numP x → k 4) : j27r6 k x := by
  constructor
  refine brE (fun e => c37_if (fun q => brF rfl (h1 ?_)) fun q => brT rfl (h2 ?_)) fun e0 => ?_
  · unfold numP; omega
  · unfold numP; omega
  refine brE (fun e => c13_if (fun q => brF rfl (h1 ?_)) fun q => brT rfl (h2 ?_)) fun e1 => ?_
  · unfold numP; omega
  · unfold numP; omega
  refine brE (fun e => c13_if (fun q => brF rfl (h1 ?_)) fun q => brT rfl (h2 ?_)) fun e2 => ?_
  · unfold numP; omega
  · unfold numP; omega
  refine brE (fun e => c13_if (fun q => brF rfl (h1 ?_)) fun q => brT rfl (h2 ?_)) fun e3 => ?_
  · unfold numP; omega
  · unfold numP; omega
  refine brE (fun e => c13_if (fun q => brF rfl (h1 ?_)) fun q => brT rfl (h2 ?_)) fun e4 => ?_
  · unfold numP; omega
  · unfold numP; omega
  refine brE (fun e => ?_) fun e5 => ?_
  · refine brE (fun e2 => h1 ?_) fun e2 => brE (fun e3 => h1 ?_) fun e3 => brN (fun q => h2 ?_) fun q => h1 ?_
    all_goals (unfold numP; omega)
  refine brE (fun e => c13_if (fun q => brF rfl (h1 ?_)) fun q => brT rfl (h2 ?_)) fun e6 => ?_
  · unfold numP; omega
  · unfold numP; omega
  refine brE (fun e => h1 ?_) fun e7 => brN (fun q => h2 ?_) fun q => h1 ?_
  all_goals (unfold numP; omega)
theorem j27r4_ok {x : IN} {k : Int → Prop} (h1 : Lg x → k 2) (h2 : ¬ Lg x → numP x → k 0) (h3 : ¬ Lg x → ¬ numP x → k 4) : j27r4 k x := by
  have go : ∀ b : Bool, (b = true ↔ Lg x) → j27s4 k (fun z => j27r6 k z) b x := fun b hb => ⟨brB (fun q => h1 (hb.1 q)) fun q => j27r6_ok (h2 fun w => by rw [hb.2 w] at q; cases q) (h3 fun w => by rw [hb.2 w] at q; cases q)⟩
  have no : ¬ Lg x → j27s4 k (fun z => j27r6 k z) false x := fun q => go false ⟨fun w => (by cases w), fun w => (q w).elim⟩
  have six : x.2.1 = 13 ∨ x.2.1 = 14 → j27s4 k (fun z => j27r6 k z) (decide (((x.2.2.2.1.length : Nat) : Int) > 6)) x := fun q => go _ (by rw [decide_eq_true_eq]; unfold Lg; omega)
  constructor
  refine brE (fun e => brP (fun q => go true ⟨fun _ => ?_, fun _ => rfl⟩) fun q => brE (fun e1 => ?_) fun e1 => brE (fun e2 => ?_) fun e2 => no ?_) fun e => ?_
  · unfold Lg; omega
  · omega
  · omega
  · unfold Lg; omega
  refine brE (fun e => brP (fun q => go true ⟨fun _ => ?_, fun _ => rfl⟩) fun q => brE (fun e1 => ?_) fun e1 => brE (fun e2 => ?_) fun e2 => no ?_) fun e => ?_
  · unfold Lg; omega
  · omega
  · omega
  · unfold Lg; omega
  refine brE (fun e => six (.inl e)) fun e3 => brE (fun e => six (.inr e)) fun e4 => no ?_
  unfold Lg; omega
theorem c27_ok {x : IN} {k : Int → Prop} (h : k (formE x)) : c27 x k := by
  have go : ∀ v, formE x = v → k v := fun v e => e ▸ h
  have yes : Bf x → k 3 := fun q => go _ (if_pos q)
  have no : ¬ Bf x → j27r4 k x := fun q => j27r4_ok (fun w => go _ ((if_neg q).trans (if_pos w))) (fun w w2 => go _ ((if_neg q).trans ((if_neg w).trans (if_pos w2)))) (fun w w2 => go _ ((if_neg q).trans ((if_neg w).trans (if_neg w2))))
  constructor
  refine c36_ok (brE (fun e => yes (.inl e)) fun e => brP (fun e1 => brN (fun e2 => yes (.inr (.inl ⟨e1, fun w => e2 w.symm⟩))) fun e2 => ?_) fun e1 => ?_)
  · refine brE (fun e3 => brP (fun e4 => yes ?_) fun e4 => no ?_) fun e3 => no ?_
    all_goals (unfold Bf; omega)
  · refine brE (fun e3 => brP (fun e4 => yes ?_) fun e4 => no ?_) fun e3 => no ?_
    all_goals (unfold Bf; omega)
def shpP (t : TM) : Prop :=
  (t.1 = 0 ∧ t.2.2.2.2.1.length = 0 ∧ t.2.2.1 = 0 ∧ t.2.2.2.1.length = 0) ∨ (t.1 = 1 ∧ t.2.2.2.2.1.length = 1 ∧ t.2.1 = 0 ∧ t.2.2.1 = 0 ∧ t.2.2.2.1.length = 0) ∨
  (t.1 = 2 ∧ t.2.2.2.2.1.length = 2 ∧ t.2.2.1 = 0 ∧ t.2.2.2.1.length = 0) ∨ (t.1 = 3 ∧ (t.2.2.2.2.1.length : Int) = IntKind.wrap .i64 ((t.2.2.2.1.length : Int) + 1) ∧ t.2.2.1 = 0) ∨
  (t.1 = 4 ∧ t.2.2.2.2.1.length = 0 ∧ t.2.1 = 0 ∧ t.2.2.2.1.length = 0)
theorem j54r14_ok {e : Int} {a n c : Bool} {t : TM} {k : Bool → Prop} (h1 : (t.2.2.2.2.1.length : Int) = e → (a = true ∨ t.2.1 = 0) → (n = true ∨ t.2.2.1 = 0) → (c = true ∨ t.2.2.2.1.length = 0) → k true)
    (h2 : ¬ ((t.2.2.2.2.1.length : Int) = e ∧ (a = true ∨ t.2.1 = 0) ∧ (n = true ∨ t.2.2.1 = 0) ∧ (c = true ∨ t.2.2.2.1.length = 0)) → k false) : j54r14 k e a n c t := by
  have hc : (t.2.2.2.2.1.length : Int) = e → (a = true ∨ t.2.1 = 0) → (n = true ∨ t.2.2.1 = 0) → br c (k true) (k (((t.2.2.2.1.length : Nat) : Int) == 0)) := fun e1 e2 e3 =>
    brB (fun q => h1 e1 e2 e3 (.inl q)) fun q => beq_if (fun w => h1 e1 e2 e3 (.inr (by omega))) fun w => h2 fun ⟨_, _, _, z⟩ => z.elim (fun z => by rw [q] at z; cases z) fun z => w (by omega)
  have hn : (t.2.2.2.2.1.length : Int) = e → (a = true ∨ t.2.1 = 0) → br n (br c (k true) (k (((t.2.2.2.1.length : Nat) : Int) == 0))) (br (t.2.2.1 == 0) (br c (k true) (k (((t.2.2.2.1.length : Nat) : Int) == 0))) (k false)) := fun e1 e2 =>
    brB (fun q => hc e1 e2 (.inl q)) fun q => brE (fun w => hc e1 e2 (.inr w)) fun w => h2 fun ⟨_, _, z, _⟩ => z.elim (fun z => by rw [q] at z; cases z) fun z => w z
  constructor
  refine brE (fun e1 => brB (fun q => hn e1 (.inl q)) fun q => brE (fun w => hn e1 (.inr w)) fun w => h2 ?_) fun e1 => h2 fun z => e1 z.1
  exact fun ⟨_, z, _⟩ => z.elim (fun z => by rw [q] at z; cases z) fun z => w z
theorem c54_ok {t : TM} {k : Bool → Prop} (h1 : shpP t → k true) (h2 : ¬ shpP t → k false) : c54 t k := by
  constructor
  refine brE (fun e => j54r14_ok (fun a b c d => h1 ?_) fun q => h2 fun w => q ?_) fun e0 => ?_
  · simp only [Bool.false_eq_true, false_or] at c d; unfold shpP; omega
  · simp only [Bool.false_eq_true, false_or, true_or, true_and]; unfold shpP at w; omega
  refine brE (fun e => j54r14_ok (fun a b c d => h1 ?_) fun q => h2 fun w => q ?_) fun e1 => ?_
  · simp only [Bool.false_eq_true, false_or] at b c d; unfold shpP; omega
  · simp only [Bool.false_eq_true, false_or, true_or, true_and]; unfold shpP at w; omega
  refine brE (fun e => j54r14_ok (fun a b c d => h1 ?_) fun q => h2 fun w => q ?_) fun e2 => ?_
  · simp only [Bool.false_eq_true, false_or] at c d; unfold shpP; omega
  · simp only [Bool.false_eq_true, false_or, true_or, true_and]; unfold shpP at w; omega
  refine brE (fun e => j54r14_ok (fun a b c d => h1 ?_) fun q => h2 fun w => q ?_) fun e3 => ?_
  · simp only [Bool.false_eq_true, false_or] at c; exact .inr (.inr (.inr (.inl ⟨e, a, c⟩)))
  · simp only [Bool.false_eq_true, false_or, true_or, true_and, and_true]; unfold shpP at w; omega
  refine brE (fun e => j54r14_ok (fun a b c d => h1 ?_) fun q => h2 fun w => q ?_) fun e4 => h2 fun w => ?_
  · simp only [Bool.false_eq_true, false_or] at b d; unfold shpP; omega
  · simp only [Bool.false_eq_true, false_or, true_or, true_and]; unfold shpP at w; omega
  · unfold shpP at w; omega
def casE : List Int → List Int → Int
  | _, [] => 0
  | q, c :: r => if ¬ (-1073741824 ≤ c ∧ c ≤ 1073741823) then 4 else if c ∈ q then 7 else casE (q ++ [c]) r
theorem take_snoc {α : Type} {l : List α} {i : Nat} (h : i < l.length) : l.take i ++ [l[i]] = l.take (i + 1) := (List.take_succ_eq_append_getElem h).symm
theorem l46r8_ok {f : FU} {t : TM} {k1 : Int → Prop} {k2 : FU → TM → Prop} (hl : t.2.2.2.1.length ≤ 256) (h1 : casE [] t.2.2.2.1 ≠ 0 → k1 (casE [] t.2.2.2.1)) (h2 : casE [] t.2.2.2.1 = 0 → k2 f t) : l46r8 k1 k2 t.2.2.2.1 (t.2.2.2.1.length : Int) 0 f t := by
  have hm := hml
  constructor
  intro I hI
  have key := dropInd (l := t.2.2.2.1) (M := fun i r => (casE (t.2.2.2.1.take i) r ≠ 0 → k1 (casE (t.2.2.2.1.take i) r)) → (casE (t.2.2.2.1.take i) r = 0 → k2 f t) → I t.2.2.2.1 (t.2.2.2.1.length : Int) (i : Int) f t)
    (fun _ h2 => hI _ _ _ _ _ (brDn (by omega) (h2 rfl)))
    (fun i hi ih h1 h2 => by
      apply hI
      rw [casE, take_snoc hi] at h1 h2
      rw [wrapS (by omega), Int.toNat_natCast]
      refine brD (by omega) (needAt hi (c55_if (fun e => brF rfl (brD (by omega) ?_)) fun e => brT rfl ?_))
      · rw [if_neg (fun w => w e)] at h1 h2
        rw [List.drop_zero]
        refine c43_ok (by rw [List.length_take]; omega) (fun q => brT rfl ?_) fun q => brF rfl ?_
        · rw [if_pos q] at h1; exact h1 (by decide)
        · rw [if_neg q] at h1 h2; exact ih h1 h2
      · rw [if_pos e] at h1; exact h1 (by decide))
  exact key h1 h2
theorem l28r11_ok {f : FU} {t : TM} {k1 : Int → Prop} {k2 : FU → TM → Prop} (hl : t.2.2.2.1.length ≤ 256) (h1 : casE [] t.2.2.2.1 ≠ 0 → k1 (casE [] t.2.2.2.1)) (h2 : casE [] t.2.2.2.1 = 0 → k2 f t) : l28r11 k1 k2 t.2.2.2.1 (t.2.2.2.1.length : Int) 0 f t := by
  have hm := hml
  constructor
  intro I hI
  have key := dropInd (l := t.2.2.2.1) (M := fun i r => (casE (t.2.2.2.1.take i) r ≠ 0 → k1 (casE (t.2.2.2.1.take i) r)) → (casE (t.2.2.2.1.take i) r = 0 → k2 f t) → I t.2.2.2.1 (t.2.2.2.1.length : Int) (i : Int) f t)
    (fun _ h2 => hI _ _ _ _ _ (brDn (by omega) (h2 rfl)))
    (fun i hi ih h1 h2 => by
      apply hI
      rw [casE, take_snoc hi] at h1 h2
      rw [wrapS (by omega), Int.toNat_natCast]
      refine brD (by omega) (needAt hi (c37_if (fun e => brF rfl (brD (by omega) ?_)) fun e => brT rfl ?_))
      · rw [if_neg (fun w => w e)] at h1 h2
        rw [List.drop_zero]
        refine c24_ok (by rw [List.length_take]; omega) (fun q => brT rfl ?_) fun q => brF rfl ?_
        · rw [if_pos q] at h1; exact h1 (by decide)
        · rw [if_neg q] at h1 h2; exact ih h1 h2
      · rw [if_pos e] at h1; exact h1 (by decide))
  exact key h1 h2
def parN (bs : List BK) (i : Nat) : Nat := match bs[i]? with | some b => b.1.length | none => 0
def edgE (bs : List BK) : List ED → Int
  | [] => 0
  | e :: r => if ¬ (1 ≤ e.1 ∧ e.1 ≤ (bs.length : Int) - 1) then 4 else if e.2.1.length ≠ parN bs e.1.toNat then 3 else edgE bs r
theorem parN_at {bs : List BK} {i : Nat} (h : i < bs.length) : parN bs i = bs[i].1.length := by unfold parN; rw [List.getElem?_eq_getElem h]
theorem edg_ok {f : FU} {A : Prop} {k : Int → Prop} {y : ED} {z : BK} (h0 : 0 ≤ y.1) (h : y.1.toNat < f.2.1.length) (hz : f.2.1[y.1.toNat] = z) (h1 : y.2.1.length ≠ z.1.length → k 3) (h2 : y.2.1.length = z.1.length → A) {s t : Ty} {u : s.T} {v : t.T} {t1 t2 t3 : Ty} {a1 : t1.T} {a2 : t2.T} {a3 : t3.T} {g : BK → Bool} (hg : g z = true) :
    (br (true && true) (br (eqT s u u) (br (true && true) (br (eqT t v v) (need False (at? f.2.1 y.1) fun y8 => br (g y8) (br (eqT t1 a1 a1) (br (eqT t2 a2 a2) (br (((y.2.1.length : Nat) : Int) != ((z.1.length : Nat) : Int)) (k 3) A) False) False) False) False) False) False) False) ∧
    (br (true && true) (br (eqT t3 a3 a3) (br (((y.2.1.length : Nat) : Int) != ((z.1.length : Nat) : Int)) (k 3) A) False) False) := by
  have fin : br (((y.2.1.length : Nat) : Int) != ((z.1.length : Nat) : Int)) (k 3) A := brN (fun e => h1 (by omega)) fun e => h2 (by omega)
  refine ⟨brT rfl (brT (eqT_self _ _) (brT rfl (brT (eqT_self _ _) (needAtI h0 h ?_)))), brT rfl (brT (eqT_self _ _) fin)⟩
  rw [hz]
  exact brT hg (brT (eqT_self _ _) (brT (eqT_self _ _) fin))
theorem l46r16_ok {f : FU} {l : List ED} {k1 : Int → Prop} {k2 : Prop} (hn : f.2.1.length ≤ 128) (hl : l.length ≤ maxLen) (h1 : edgE f.2.1 l ≠ 0 → k1 (edgE f.2.1 l)) (h2 : edgE f.2.1 l = 0 → k2) : l46r16 k1 k2 l (l.length : Int) 0 f := by
  have hm := hml
  constructor
  intro I hI
  have key := dropInd (l := l) (M := fun i r => (edgE f.2.1 r ≠ 0 → k1 (edgE f.2.1 r)) → (edgE f.2.1 r = 0 → k2) → I l (l.length : Int) (i : Int) f)
    (fun _ h2 => hI _ _ _ _ (brDn (by omega) (h2 rfl)))
    (fun i hi ih h1 h2 => by
      apply hI
      rw [edgE] at h1 h2
      rw [wrapS (n := i) (by omega), wrap64 (a := ((f.2.1.length : Nat) : Int) - 1) (by omega) (by omega)]
      refine brD (by omega) (needAt hi (c38_if (fun e => brF rfl ?_) fun e => brT rfl ?_))
      · rw [if_neg (fun w => w e)] at h1 h2
        have hb : l[i].1.toNat < f.2.1.length := by omega
        refine needAtI (by omega) hb ?_
        rw [parN_at hb] at h1 h2
        refine edg_ok (by omega) hb rfl (fun q => ?_) (fun q => ?_) (eqT_self _ _)
        · rw [if_pos q] at h1; exact h1 (by decide)
        · rw [if_neg (fun w => w q)] at h1 h2; exact ih h1 h2
      · rw [if_pos e] at h1; exact h1 (by decide))
  exact key h1 h2
theorem l28r19_ok {f : FU} {l : List ED} {k1 : Int → Prop} {k2 : Prop} (hn : f.2.1.length ≤ 128) (hl : l.length ≤ maxLen) (h1 : edgE f.2.1 l ≠ 0 → k1 (edgE f.2.1 l)) (h2 : edgE f.2.1 l = 0 → k2) : l28r19 k1 k2 l (l.length : Int) 0 f := by
  have hm := hml
  constructor
  intro I hI
  have key := dropInd (l := l) (M := fun i r => (edgE f.2.1 r ≠ 0 → k1 (edgE f.2.1 r)) → (edgE f.2.1 r = 0 → k2) → I l (l.length : Int) (i : Int) f)
    (fun _ h2 => hI _ _ _ _ (brDn (by omega) (h2 rfl)))
    (fun i hi ih h1 h2 => by
      apply hI
      rw [edgE] at h1 h2
      rw [wrapS (n := i) (by omega), wrap64 (a := ((f.2.1.length : Nat) : Int) - 1) (by omega) (by omega)]
      refine brD (by omega) (needAt hi (c13_if (fun e => brF rfl ?_) fun e => brT rfl ?_))
      · rw [if_neg (fun w => w e)] at h1 h2
        have hb : l[i].1.toNat < f.2.1.length := by omega
        refine needAtI (by omega) hb ?_
        rw [parN_at hb] at h1 h2
        refine edg_ok (by omega) hb rfl (fun q => ?_) (fun q => ?_) (eqT_self _ _)
        · rw [if_pos q] at h1; exact h1 (by decide)
        · rw [if_neg (fun w => w q)] at h1 h2; exact ih h1 h2
      · rw [if_pos e] at h1; exact h1 (by decide))
  exact key h1 h2
open Classical in
noncomputable def endE (f : FU) (t : TM) : Int :=
  if ¬ shpP t then 3 else if 256 < t.2.2.2.1.length then 2 else if t.1 = 4 ∧ ¬ (1 ≤ t.2.2.1 ∧ t.2.2.1 ≤ 6) then 4 else if casE [] t.2.2.2.1 ≠ 0 then casE [] t.2.2.2.1 else edgE f.2.1 t.2.2.2.2.1
theorem c46_ok {f : FU} {t : TM} {k : Int → Prop} (hn : f.2.1.length ≤ 128) (hT : t.2.2.2.2.1.length ≤ maxLen) (h : k (endE f t)) : c46 f t k := by
  constructor
  refine c54_ok (fun e => brF rfl (brP (fun e2 => ?_) fun e2 => ?_)) fun e => brT rfl ?_
  · rw [endE, if_neg (fun w => w e), if_pos (by omega)] at h; exact h
  · rw [endE, if_neg (fun w => w e), if_neg (by omega)] at h
    have hl : t.2.2.2.1.length ≤ 256 := by omega
    refine brE (fun e3 => c38_if (fun e4 => brF rfl ?_) fun e4 => brT rfl ?_) fun e3 => ?_
    · rw [if_neg (by omega)] at h
      refine l46r8_ok hl (fun q => ?_) fun q => l46r16_ok hn hT (fun w => ?_) fun w => ?_
      · rw [if_pos q] at h; exact h
      · rw [if_neg (fun w => w q)] at h; exact h
      · rw [if_neg (fun w => w q), w] at h; exact h
    · rw [if_pos ⟨e3, e4⟩] at h; exact h
    · rw [if_neg (by omega)] at h
      refine l46r8_ok hl (fun q => ?_) fun q => l46r16_ok hn hT (fun w => ?_) fun w => ?_
      · rw [if_pos q] at h; exact h
      · rw [if_neg (fun w => w q)] at h; exact h
      · rw [if_neg (fun w => w q), w] at h; exact h
  · rw [endE, if_pos e] at h; exact h
theorem j28r6_ok {f : FU} {t : TM} {k : Int → Prop} (hn : f.2.1.length ≤ 128) (hT : t.2.2.2.2.1.length ≤ maxLen) (e : shpP t) (h : k (endE f t)) : j28r6 k f t := by
  rw [endE, if_neg (fun w => w e)] at h
  constructor
  refine brP (fun e2 => ?_) fun e2 => ?_
  · rw [if_pos (by omega)] at h; exact h
  · rw [if_neg (by omega)] at h
    have hl : t.2.2.2.1.length ≤ 256 := by omega
    refine brE (fun e3 => c13_if (fun e4 => brF rfl ?_) fun e4 => brT rfl ?_) fun e3 => ?_
    · rw [if_neg (by omega)] at h
      refine l28r11_ok hl (fun q => ?_) fun q => l28r19_ok hn hT (fun w => ?_) fun w => ?_
      · rw [if_pos q] at h; exact h
      · rw [if_neg (fun w => w q)] at h; exact h
      · rw [if_neg (fun w => w q), w] at h; exact h
    · rw [if_pos ⟨e3, e4⟩] at h; exact h
    · rw [if_neg (by omega)] at h
      refine l28r11_ok hl (fun q => ?_) fun q => l28r19_ok hn hT (fun w => ?_) fun w => ?_
      · rw [if_pos q] at h; exact h
      · rw [if_neg (fun w => w q)] at h; exact h
      · rw [if_neg (fun w => w q), w] at h; exact h
set_option maxHeartbeats 4000000 in
theorem c28_ok {f : FU} {t : TM} {k : Int → Prop} (hn : f.2.1.length ≤ 128) (hT : t.2.2.2.2.1.length ≤ maxLen) (h : k (endE f t)) : c28 f t k := by
  have h3 : ¬ shpP t → k 3 := fun q => by rw [endE, if_pos q] at h; exact h
  have hr : shpP t → j28r6 k f t := fun q => j28r6_ok hn hT q h
  have hJ : ∀ b : Bool, (b = true ↔ ¬ shpP t) → j28s4 k (fun z6 z7 => j28r6 k z6 z7) b f t := fun b hb => ⟨brB (fun q => h3 (hb.1 q)) fun q => hr (Classical.byContradiction fun w => by rw [hb.2 w] at q; cases q)⟩
  constructor
  refine c13_if (fun e => brF rfl (brD (by omega) ?_)) fun e => brT rfl (h3 fun w => e (by unfold shpP at w; omega))
  have main : ∀ v : Int, (t.1 = 0 ∧ v = 0) ∨ (t.1 = 1 ∧ v = 1) ∨ (t.1 = 2 ∧ v = 2) ∨ (t.1 = 3 ∧ v = IntKind.wrap .i64 ((t.2.2.2.1.length : Int) + 1)) ∨ (t.1 = 4 ∧ v = 0) →
      ([0, 1, 2, IntKind.wrap .i64 ((t.2.2.2.1.length : Int) + 1), 0] : List Int)[t.1.toNat]? = some v := by
    rintro v (⟨a, b⟩ | ⟨a, b⟩ | ⟨a, b⟩ | ⟨a, b⟩ | ⟨a, b⟩) <;> rw [a, b] <;> rfl
  obtain ⟨v, hv⟩ : ∃ v : Int, (t.1 = 0 ∧ v = 0) ∨ (t.1 = 1 ∧ v = 1) ∨ (t.1 = 2 ∧ v = 2) ∨ (t.1 = 3 ∧ v = IntKind.wrap .i64 ((t.2.2.2.1.length : Int) + 1)) ∨ (t.1 = 4 ∧ v = 0) := by
    have : t.1 = 0 ∨ t.1 = 1 ∨ t.1 = 2 ∨ t.1 = 3 ∨ t.1 = 4 := by omega
    rcases this with a | a | a | a | a
    · exact ⟨0, .inl ⟨a, rfl⟩⟩
    · exact ⟨1, .inr (.inl ⟨a, rfl⟩)⟩
    · exact ⟨2, .inr (.inr (.inl ⟨a, rfl⟩))⟩
    · exact ⟨_, .inr (.inr (.inr (.inl ⟨a, rfl⟩)))⟩
    · exact ⟨0, .inr (.inr (.inr (.inr ⟨a, rfl⟩)))⟩
  generalize hw : IntKind.wrap .i64 ((t.2.2.2.1.length : Int) + 1) = w0 at hv main
  have hs : shpP t ↔ (t.1 = 0 ∧ t.2.2.2.2.1.length = 0 ∧ t.2.2.1 = 0 ∧ t.2.2.2.1.length = 0) ∨ (t.1 = 1 ∧ t.2.2.2.2.1.length = 1 ∧ t.2.1 = 0 ∧ t.2.2.1 = 0 ∧ t.2.2.2.1.length = 0) ∨
      (t.1 = 2 ∧ t.2.2.2.2.1.length = 2 ∧ t.2.2.1 = 0 ∧ t.2.2.2.1.length = 0) ∨ (t.1 = 3 ∧ (t.2.2.2.2.1.length : Int) = w0 ∧ t.2.2.1 = 0) ∨
      (t.1 = 4 ∧ t.2.2.2.2.1.length = 0 ∧ t.2.1 = 0 ∧ t.2.2.2.1.length = 0) := by rw [← hw]; exact Iff.rfl
  have yes : ¬ shpP t → j28s4 k (fun z6 z7 => j28r6 k z6 z7) true f t := fun q => hJ true ⟨fun _ => q, fun _ => rfl⟩
  have no : shpP t → j28s4 k (fun z6 z7 => j28r6 k z6 z7) false f t := fun q => hJ false ⟨fun w => (by cases w), fun w => (w q).elim⟩
  have arg : (t.2.1 = 0 ↔ shpP t) → j28s4 k (fun z6 z7 => j28r6 k z6 z7) (t.2.1 != 0) f t := fun q => hJ _ (by rw [bne_iff_ne, ← q])
  have hm := main v hv
  clear main
  rcases hv with ⟨a, b⟩ | ⟨a, b⟩ | ⟨a, b⟩ | ⟨a, b⟩ | ⟨a, b⟩
  · have hp : shpP t ↔ t.2.2.2.2.1.length = 0 ∧ t.2.2.1 = 0 ∧ t.2.2.2.1.length = 0 := hs.trans (by omega)
    clear hs
    refine needS hm (brN (fun e1 => h3 ?_) fun e1 => brN (fun e2 => brP (fun e3 => yes ?_) fun e3 => brN (fun e4 => brN (fun e5 => yes ?_) fun e5 => brE (fun e6 => arg ?_) fun e6 => brE (fun e7 => arg ?_) fun e7 => no ?_) fun e4 => brE (fun e6 => arg ?_) fun e6 => brE (fun e7 => arg ?_) fun e7 => no ?_) fun e2 =>
      brN (fun e4 => brN (fun e5 => yes ?_) fun e5 => brE (fun e6 => arg ?_) fun e6 => brE (fun e7 => arg ?_) fun e7 => no ?_) fun e4 => brE (fun e6 => arg ?_) fun e6 => brE (fun e7 => arg ?_) fun e7 => no ?_)
    all_goals first | omega | (rw [hp]; omega)
  · have hp : shpP t ↔ t.2.2.2.2.1.length = 1 ∧ t.2.1 = 0 ∧ t.2.2.1 = 0 ∧ t.2.2.2.1.length = 0 := hs.trans (by omega)
    clear hs
    refine needS hm (brN (fun e1 => h3 ?_) fun e1 => brN (fun e2 => brP (fun e3 => yes ?_) fun e3 => brN (fun e4 => brN (fun e5 => yes ?_) fun e5 => brE (fun e6 => arg ?_) fun e6 => brE (fun e7 => arg ?_) fun e7 => no ?_) fun e4 => brE (fun e6 => arg ?_) fun e6 => brE (fun e7 => arg ?_) fun e7 => no ?_) fun e2 =>
      brN (fun e4 => brN (fun e5 => yes ?_) fun e5 => brE (fun e6 => arg ?_) fun e6 => brE (fun e7 => arg ?_) fun e7 => no ?_) fun e4 => brE (fun e6 => arg ?_) fun e6 => brE (fun e7 => arg ?_) fun e7 => no ?_)
    all_goals first | omega | (rw [hp]; omega)
  · have hp : shpP t ↔ t.2.2.2.2.1.length = 2 ∧ t.2.2.1 = 0 ∧ t.2.2.2.1.length = 0 := hs.trans (by omega)
    clear hs
    refine needS hm (brN (fun e1 => h3 ?_) fun e1 => brN (fun e2 => brP (fun e3 => yes ?_) fun e3 => brN (fun e4 => brN (fun e5 => yes ?_) fun e5 => brE (fun e6 => arg ?_) fun e6 => brE (fun e7 => arg ?_) fun e7 => no ?_) fun e4 => brE (fun e6 => arg ?_) fun e6 => brE (fun e7 => arg ?_) fun e7 => no ?_) fun e2 =>
      brN (fun e4 => brN (fun e5 => yes ?_) fun e5 => brE (fun e6 => arg ?_) fun e6 => brE (fun e7 => arg ?_) fun e7 => no ?_) fun e4 => brE (fun e6 => arg ?_) fun e6 => brE (fun e7 => arg ?_) fun e7 => no ?_)
    all_goals first | omega | (rw [hp]; omega)
  · have hp : shpP t ↔ (t.2.2.2.2.1.length : Int) = w0 ∧ t.2.2.1 = 0 := hs.trans (by omega)
    clear hs
    refine needS hm (brN (fun e1 => h3 ?_) fun e1 => brN (fun e2 => brP (fun e3 => yes ?_) fun e3 => brN (fun e4 => brN (fun e5 => yes ?_) fun e5 => brE (fun e6 => arg ?_) fun e6 => brE (fun e7 => arg ?_) fun e7 => no ?_) fun e4 => brE (fun e6 => arg ?_) fun e6 => brE (fun e7 => arg ?_) fun e7 => no ?_) fun e2 =>
      brN (fun e4 => brN (fun e5 => yes ?_) fun e5 => brE (fun e6 => arg ?_) fun e6 => brE (fun e7 => arg ?_) fun e7 => no ?_) fun e4 => brE (fun e6 => arg ?_) fun e6 => brE (fun e7 => arg ?_) fun e7 => no ?_)
    all_goals first | omega | (rw [hp]; omega)
  · have hp : shpP t ↔ t.2.2.2.2.1.length = 0 ∧ t.2.1 = 0 ∧ t.2.2.2.1.length = 0 := hs.trans (by omega)
    clear hs
    refine needS hm (brN (fun e1 => h3 ?_) fun e1 => brN (fun e2 => brP (fun e3 => yes ?_) fun e3 => brN (fun e4 => brN (fun e5 => yes ?_) fun e5 => brE (fun e6 => arg ?_) fun e6 => brE (fun e7 => arg ?_) fun e7 => no ?_) fun e4 => brE (fun e6 => arg ?_) fun e6 => brE (fun e7 => arg ?_) fun e7 => no ?_) fun e2 =>
      brN (fun e4 => brN (fun e5 => yes ?_) fun e5 => brE (fun e6 => arg ?_) fun e6 => brE (fun e7 => arg ?_) fun e7 => no ?_) fun e4 => brE (fun e6 => arg ?_) fun e6 => brE (fun e7 => arg ?_) fun e7 => no ?_)
    all_goals first | omega | (rw [hp]; omega)
abbrev PL3 := Int × Int × Unit
abbrev MP := List (Int × PL3)
def keys (m : MP) : List Int := m.map (·.1)
theorem keys_snoc {m : MP} {v : Int} {p : PL3} : keys (m ++ [(v, p)]) = keys m ++ [v] := by unfold keys; rw [List.map_append]; rfl
theorem mget_none {m : MP} {v : Int} : mget m v = none ↔ v ∉ keys m := by
  induction m with
  | nil => simp [mget, keys]
  | cons p r ih =>
    unfold mget
    by_cases e : p.1 = v
    · simp [e, keys]
    · have e2 : @BEq.beq Int _ p.1 v = false := by simpa using e
      rw [e2]
      show mget r v = none ↔ _
      rw [ih]
      have : v ∈ keys (p :: r) ↔ v ∈ keys r := by
        show v ∈ p.1 :: keys r ↔ _
        rw [List.mem_cons]
        exact ⟨fun w => w.resolve_left fun w => e w.symm, .inr⟩
      rw [this]
theorem mhas_iff {m : MP} {v : Int} : mhas m v = true ↔ v ∈ keys m := by
  unfold mhas
  cases h : mget m v with
  | none => have := mget_none.1 h; simp [this]
  | some x => simp; exact Classical.byContradiction fun w => by rw [mget_none.2 w] at h; cases h
theorem mput_new {m : MP} {v : Int} {p : PL3} (h : v ∉ keys m) : mput m v p = m ++ [(v, p)] := by
  induction m with
  | nil => rfl
  | cons q r ih =>
    have e : q.1 ≠ v := fun e => h (by unfold keys; simp [e])
    have e2 : @BEq.beq Int _ q.1 v = false := by simpa using e
    unfold mput
    rw [e2]
    show q :: mput r v p = _
    rw [ih fun w => h (by unfold keys at *; simp [w])]
    rfl
theorem pig : ∀ (N : Nat) (l : List Int), l.Nodup → (∀ x ∈ l, 0 ≤ x ∧ x < (N : Int)) → l.length ≤ N
  | 0, [], _, _ => Nat.le_refl _
  | 0, x :: l, _, h => by have := h x List.mem_cons_self; omega
  | N + 1, l, hd, h => by
    have h1 := pig N (l.erase (N : Int)) (hd.erase _) fun x hx => by
      have h2 := (hd.mem_erase_iff).1 hx
      have h3 := h x h2.2
      have h4 := h2.1
      simp only [ne_eq] at h4
      omega
    by_cases e : (N : Int) ∈ l
    · rw [List.length_erase_of_mem e] at h1; omega
    · rw [List.erase_of_not_mem e] at h1; omega
structure Kd (s : List Int) : Prop where
  nd : s.Nodup
  rg : ∀ x ∈ s, 0 ≤ x ∧ x ≤ 4095
theorem Kd.len {s : List Int} (h : Kd s) : s.length ≤ 4096 := pig 4096 s h.nd fun x hx => by have := h.rg x hx; omega
def defE (v : Int) (s : List Int) : Int := if ¬ (0 ≤ v ∧ v ≤ 4095) then 4 else if v ∈ s then 7 else 0
theorem defE_zero {v : Int} {s : List Int} (h : defE v s = 0) : (0 ≤ v ∧ v ≤ 4095) ∧ v ∉ s := by
  unfold defE at h
  split at h
  · cases h
  · rename_i e
    split at h
    · cases h
    · rename_i e2
      exact ⟨Classical.byContradiction e, e2⟩
theorem Kd.snoc {v : Int} {s : List Int} (h : Kd s) (hv : defE v s = 0) : Kd (s ++ [v]) := by
  obtain ⟨h1, h2⟩ := defE_zero hv
  refine ⟨?_, fun x hx => ?_⟩
  · rw [List.nodup_append]
    refine ⟨h.nd, by simp, fun a ha b hb e => ?_⟩
    rw [List.mem_singleton] at hb
    subst hb; subst e
    exact h2 ha
  · rcases List.mem_append.1 hx with hx | hx
    · exact h.rg x hx
    · rw [List.mem_singleton] at hx; subst hx; exact h1
theorem c26_ok {v : Int} {s : List Int} {k : Int → Prop} (hl : s.length ≤ maxLen) (h : k (defE v s)) : c26 v s k := by
  unfold defE at h
  constructor
  refine c13_if (fun e => brF rfl ?_) fun e => brT rfl ?_
  · rw [if_neg (fun w => w e)] at h
    refine c24_ok hl (fun q => brT rfl ?_) fun q => brF rfl ?_
    · rw [if_pos q] at h; exact h
    · rw [if_neg q] at h; exact h
  · rw [if_pos e] at h; exact h
theorem c44_ok {v : Int} {p : PL3} {f : FU} {m : MP} {k : Int → FU → MP → Prop} (h1 : defE v (keys m) ≠ 0 → k (defE v (keys m)) f m) (h2 : defE v (keys m) = 0 → k 0 f (m ++ [(v, p)])) : c44 v p f m k := by
  unfold defE at h1 h2
  constructor
  refine c38_if (fun e => brF rfl ?_) fun e => brT rfl ?_
  · rw [if_neg (fun w => w e)] at h1 h2
    refine brB (fun q => ?_) fun q => ?_
    · rw [if_pos (mhas_iff.1 q)] at h1; exact h1 (by decide)
    · have q' : v ∉ keys m := fun w => by rw [mhas_iff.2 w] at q; cases q
      rw [if_neg q'] at h2
      rw [mput_new q']
      exact h2 rfl
  · rw [if_pos e] at h1; exact h1 (by decide)
def parE (p : PL3) : List Int → MP → Int × MP
  | [], m => (0, m)
  | v :: r, m => if defE v (keys m) ≠ 0 then (defE v (keys m), m) else parE p r (m ++ [(v, p)])
noncomputable def insE (k : Int) : Nat → List IN → MP → Int × MP
  | _, [], m => (0, m)
  | n, x :: r, m => if defE x.1 (keys m) ≠ 0 then (defE x.1 (keys m), m) else if formE x ≠ 0 then (formE x, m) else insE k (n + 1) r (m ++ [(x.1, (k, ((n + 1 : Nat) : Int), ()))])
noncomputable def blkE (f : FU) (k : Int) (b : BK) (m : MP) : Int × MP :=
  if (parE (k, 0, ()) b.1 m).1 ≠ 0 then parE (k, 0, ()) b.1 m else
  if (insE k 0 b.2.1 (parE (k, 0, ()) b.1 m).2).1 ≠ 0 then insE k 0 b.2.1 (parE (k, 0, ()) b.1 m).2 else (endE f b.2.2.1, (insE k 0 b.2.1 (parE (k, 0, ()) b.1 m).2).2)
noncomputable def shpE (f : FU) : Nat → List BK → MP → Int × MP
  | _, [], m => (0, m)
  | k, b :: r, m => if (blkE f (k : Int) b m).1 ≠ 0 then blkE f (k : Int) b m else shpE f (k + 1) r (blkE f (k : Int) b m).2
theorem l39r3_ok {f : FU} {b : BK} {kb : Int} {l : List Int} {m : MP} {k1 : Int → FU → MP → Prop} {k2 : Int → FU → MP → BK → Prop} (hl : l.length ≤ maxLen)
    (h1 : (parE (kb, 0, ()) l m).1 ≠ 0 → ∀ m', k1 (parE (kb, 0, ()) l m).1 f m') (h2 : (parE (kb, 0, ()) l m).1 = 0 → k2 kb f (parE (kb, 0, ()) l m).2 b) : l39r3 k1 k2 kb l (l.length : Int) 0 f m b := by
  have hm := hml
  constructor
  intro I hI
  have key := dropInd (l := l) (M := fun i r => ∀ m, ((parE (kb, 0, ()) r m).1 ≠ 0 → ∀ m', k1 (parE (kb, 0, ()) r m).1 f m') → ((parE (kb, 0, ()) r m).1 = 0 → k2 kb f (parE (kb, 0, ()) r m).2 b) → I kb l (l.length : Int) (i : Int) f m b)
    (fun m _ h2 => hI _ _ _ _ _ _ _ (brDn (by omega) (h2 rfl)))
    (fun i hi ih m h1 h2 => by
      apply hI
      rw [parE] at h1 h2
      rw [wrapS (n := i) (by omega)]
      refine brD (by omega) (needAt hi (c44_ok (fun e => brN (fun _ => ?_) fun w => (e w).elim) fun e => brF rfl ?_))
      · rw [if_pos e] at h1; exact h1 e _
      · rw [if_neg (fun w => w e)] at h1 h2; exact ih _ h1 h2)
  exact key m h1 h2
theorem l39r10_ok {f : FU} {b : BK} {kb : Int} {l : List IN} {m : MP} {k1 : Int → FU → MP → Prop} {k2 : FU → MP → BK → Prop} (hl : l.length ≤ maxLen)
    (h1 : (insE kb 0 l m).1 ≠ 0 → ∀ m', k1 (insE kb 0 l m).1 f m') (h2 : (insE kb 0 l m).1 = 0 → k2 f (insE kb 0 l m).2 b) : l39r10 k1 k2 kb l (l.length : Int) 0 f m b := by
  have hm := hml
  constructor
  intro I hI
  have key := dropInd (l := l) (M := fun i r => ∀ m, ((insE kb i r m).1 ≠ 0 → ∀ m', k1 (insE kb i r m).1 f m') → ((insE kb i r m).1 = 0 → k2 f (insE kb i r m).2 b) → I kb l (l.length : Int) (i : Int) f m b)
    (fun m _ h2 => hI _ _ _ _ _ _ _ (brDn (by omega) (h2 rfl)))
    (fun i hi ih m h1 h2 => by
      apply hI
      rw [insE] at h1 h2
      rw [wrapS (n := i) (by omega)]
      refine brD (by omega) (needAt hi (c44_ok (fun e => brN (fun _ => ?_) fun w => (e w).elim) fun e => brF rfl (c45_ok (brN (fun e2 => ?_) fun e2 => ?_))))
      · rw [if_pos e] at h1; exact h1 e _
      · rw [if_neg (fun w => w e), if_pos e2] at h1; exact h1 e2 _
      · rw [if_neg (fun w => w e), if_neg (fun w => w e2)] at h1 h2; exact ih _ h1 h2)
  exact key m h1 h2
structure Szu (f : FU) : Prop where
  bl : f.2.1.length ≤ maxLen
  par : ∀ b ∈ f.2.1, b.1.length ≤ maxLen
  ins : ∀ b ∈ f.2.1, b.2.1.length ≤ maxLen
  to : ∀ b ∈ f.2.1, b.2.2.1.2.2.2.2.1.length ≤ maxLen
  args : ∀ b ∈ f.2.1, ∀ x ∈ b.2.1, x.2.2.2.1.length ≤ maxLen
  edg : ∀ b ∈ f.2.1, ∀ e ∈ b.2.2.1.2.2.2.2.1, e.2.1.length ≤ maxLen
theorem c39_ok {f : FU} {kb : Nat} {m : MP} {k : Int → FU → MP → Prop} (hz : Szu f) (hn : f.2.1.length ≤ 128) (hk : kb < f.2.1.length)
    (h1 : (blkE f (kb : Int) f.2.1[kb] m).1 ≠ 0 → ∀ m', k (blkE f (kb : Int) f.2.1[kb] m).1 f m') (h2 : (blkE f (kb : Int) f.2.1[kb] m).1 = 0 → k 0 f (blkE f (kb : Int) f.2.1[kb] m).2) : c39 (kb : Int) f m k := by
  have hb : f.2.1[kb] ∈ f.2.1 := List.getElem_mem hk
  constructor
  refine needAt hk (l39r3_ok (hz.par _ hb) (fun e m' => ?_) fun e => l39r10_ok (hz.ins _ hb) (fun e2 m' => ?_) fun e2 => c46_ok hn (hz.to _ hb) ?_)
  · rw [blkE, if_pos e] at h1; exact h1 e m'
  · rw [blkE, if_neg (fun w => w e), if_pos e2] at h1; exact h1 e2 m'
  · rw [blkE, if_neg (fun w => w e), if_neg (fun w => w e2)] at h1 h2
    by_cases e3 : endE f f.2.1[kb].2.2.1 = 0
    · rw [e3]; exact h2 e3
    · exact h1 e3 _
theorem l30r15_ok {f : FU} {m : MP} {k1 : Int → Prop} {k2 : FU → MP → Prop} (hz : Szu f) (hn : f.2.1.length ≤ 128)
    (h1 : (shpE f 0 f.2.1 m).1 ≠ 0 → k1 (shpE f 0 f.2.1 m).1) (h2 : (shpE f 0 f.2.1 m).1 = 0 → k2 f (shpE f 0 f.2.1 m).2) : l30r15 k1 k2 (f.2.1.length : Int) 0 f m := by
  constructor
  intro I hI
  have key := dropInd (l := f.2.1) (M := fun i r => ∀ m, ((shpE f i r m).1 ≠ 0 → k1 (shpE f i r m).1) → ((shpE f i r m).1 = 0 → k2 f (shpE f i r m).2) → I (f.2.1.length : Int) (i : Int) f m)
    (fun m _ h2 => hI _ _ _ _ (brDn (by omega) (h2 rfl)))
    (fun i hi ih m h1 h2 => by
      apply hI
      rw [shpE] at h1 h2
      rw [wrapS (n := i) (by omega)]
      refine brD (by omega) (c39_ok hz hn hi (fun e m' => brN (fun _ => ?_) fun w => (e w).elim) fun e => brF rfl ?_)
      · rw [if_pos e] at h1; exact h1 e
      · rw [if_neg (fun w => w e)] at h1 h2; exact ih _ h1 h2)
  exact key m h1 h2
theorem parE_kd {p : PL3} : ∀ {l : List Int} {m : MP}, Kd (keys m) → (parE p l m).1 = 0 → Kd (keys (parE p l m).2)
  | [], m, h, _ => h
  | v :: r, m, h, e => by
    rw [parE] at e ⊢
    by_cases q : defE v (keys m) = 0
    · rw [if_neg (fun w => w q)] at e ⊢
      exact parE_kd (by rw [keys_snoc]; exact h.snoc q) e
    · rw [if_pos q] at e; exact (q e).elim
theorem insE_kd {kb : Int} : ∀ {l : List IN} {n : Nat} {m : MP}, Kd (keys m) → (insE kb n l m).1 = 0 → Kd (keys (insE kb n l m).2)
  | [], n, m, h, _ => h
  | x :: r, n, m, h, e => by
    rw [insE] at e ⊢
    by_cases q : defE x.1 (keys m) = 0
    · rw [if_neg (fun w => w q)] at e ⊢
      by_cases q2 : formE x = 0
      · rw [if_neg (fun w => w q2)] at e ⊢
        exact insE_kd (by rw [keys_snoc]; exact h.snoc q) e
      · rw [if_pos q2] at e; exact (q2 e).elim
    · rw [if_pos q] at e; exact (q e).elim
theorem blkE_kd {f : FU} {kb : Int} {b : BK} {m : MP} (h : Kd (keys m)) (e : (blkE f kb b m).1 = 0) : Kd (keys (blkE f kb b m).2) := by
  rw [blkE] at e ⊢
  by_cases q : (parE (kb, 0, ()) b.1 m).1 = 0
  · rw [if_neg (fun w => w q)] at e ⊢
    by_cases q2 : (insE kb 0 b.2.1 (parE (kb, 0, ()) b.1 m).2).1 = 0
    · rw [if_neg (fun w => w q2)] at e ⊢
      exact insE_kd (parE_kd h q) q2
    · rw [if_pos q2] at e; exact (q2 e).elim
  · rw [if_pos q] at e; exact (q e).elim
theorem l14r6_ok {f : FU} {b : BK} {bs : List BK} {nb kb : Int} {p : PL3} {l : List Int} {m : MP} {k1 : Int → Prop} {k2 : List BK → Int → Int → FU → List Int → BK → Prop} (hl : l.length ≤ maxLen) (hd : Kd (keys m))
    (h1 : (parE p l m).1 ≠ 0 → k1 (parE p l m).1) (h2 : (parE p l m).1 = 0 → k2 bs nb kb f (keys (parE p l m).2) b) : l14r6 k1 k2 bs nb kb l (l.length : Int) 0 f (keys m) b := by
  have hm := hml
  constructor
  intro I hI
  have key := dropInd (l := l) (M := fun i r => ∀ m, Kd (keys m) → ((parE p r m).1 ≠ 0 → k1 (parE p r m).1) → ((parE p r m).1 = 0 → k2 bs nb kb f (keys (parE p r m).2) b) → I bs nb kb l (l.length : Int) (i : Int) f (keys m) b)
    (fun m _ _ h2 => hI _ _ _ _ _ _ _ _ _ (brDn (by omega) (h2 rfl)))
    (fun i hi ih m hd h1 h2 => by
      apply hI
      have hkl := hd.len
      rw [parE] at h1 h2
      rw [wrapS (n := i) (by omega)]
      refine brD (by omega) (needAt hi (c26_ok (by omega) (brN (fun e => ?_) fun e => brT (roomS (by omega)) ?_)))
      · rw [if_pos e] at h1; exact h1 e
      · rw [if_neg (fun w => w e)] at h1 h2
        have := ih _ (by rw [keys_snoc]; exact hd.snoc e) h1 h2
        rw [keys_snoc] at this
        exact this)
  exact key m hd h1 h2
theorem l14r14_ok {f : FU} {b : BK} {bs : List BK} {nb kb k0 : Int} {l : List IN} {m : MP} {k1 : Int → Prop} {k2 : List BK → Int → Int → FU → List Int → BK → Prop} (hl : l.length ≤ maxLen) (hd : Kd (keys m))
    (h1 : (insE k0 0 l m).1 ≠ 0 → k1 (insE k0 0 l m).1) (h2 : (insE k0 0 l m).1 = 0 → k2 bs nb kb f (keys (insE k0 0 l m).2) b) : l14r14 k1 k2 bs nb kb l (l.length : Int) 0 f (keys m) b := by
  have hm := hml
  constructor
  intro I hI
  have key := dropInd (l := l) (M := fun i r => ∀ m, Kd (keys m) → ((insE k0 i r m).1 ≠ 0 → k1 (insE k0 i r m).1) → ((insE k0 i r m).1 = 0 → k2 bs nb kb f (keys (insE k0 i r m).2) b) → I bs nb kb l (l.length : Int) (i : Int) f (keys m) b)
    (fun m _ _ h2 => hI _ _ _ _ _ _ _ _ _ (brDn (by omega) (h2 rfl)))
    (fun i hi ih m hd h1 h2 => by
      apply hI
      have hkl := hd.len
      rw [insE] at h1 h2
      rw [wrapS (n := i) (by omega)]
      refine brD (by omega) (needAt hi (c26_ok (by omega) (brN (fun e => ?_) fun e => brT (roomS (by omega)) (c27_ok (brN (fun e2 => ?_) fun e2 => ?_)))))
      · rw [if_pos e] at h1; exact h1 e
      · rw [if_neg (fun w => w e), if_pos e2] at h1; exact h1 e2
      · rw [if_neg (fun w => w e), if_neg (fun w => w e2)] at h1 h2
        have := ih _ (by rw [keys_snoc]; exact hd.snoc e) h1 h2
        rw [keys_snoc] at this
        exact this)
  exact key m hd h1 h2
theorem l14r3_ok {f : FU} {m : MP} {k1 : Int → Prop} {k2 : Prop} (hz : Szu f) (hn : f.2.1.length ≤ 128) (hd : Kd (keys m))
    (h1 : (shpE f 0 f.2.1 m).1 ≠ 0 → k1 (shpE f 0 f.2.1 m).1) (h2 : (shpE f 0 f.2.1 m).1 = 0 → k2) : l14r3 k1 k2 f.2.1 (f.2.1.length : Int) 0 f (keys m) := by
  constructor
  intro I hI
  have key := dropInd (l := f.2.1) (M := fun i r => ∀ m, Kd (keys m) → ((shpE f i r m).1 ≠ 0 → k1 (shpE f i r m).1) → ((shpE f i r m).1 = 0 → k2) → I f.2.1 (f.2.1.length : Int) (i : Int) f (keys m))
    (fun m _ _ h2 => hI _ _ _ _ _ (brDn (by omega) (h2 rfl)))
    (fun i hi ih m hd h1 h2 => by
      apply hI
      have hb : f.2.1[i] ∈ f.2.1 := List.getElem_mem hi
      rw [shpE] at h1 h2
      have g1 : ∀ v, (blkE f (i : Int) f.2.1[i] m).1 = v → v ≠ 0 → k1 v := fun v e w => by
        rw [if_pos (by rw [e]; exact w), e] at h1; exact h1 w
      refine brD (by omega) (needAt hi (l14r6_ok (p := ((i : Int), 0, ())) (hz.par _ hb) hd (fun e => g1 _ (by rw [blkE, if_pos e]) e) fun e => l14r14_ok (k0 := (i : Int)) (hz.ins _ hb) (parE_kd hd e) (fun e2 => g1 _ (by rw [blkE, if_neg (fun w => w e), if_pos e2]) e2) fun e2 => c28_ok hn (hz.to _ hb) (brN (fun e3 => g1 _ (by rw [blkE, if_neg (fun w => w e), if_neg (fun w => w e2)]) e3) fun e3 => ?_)))
      have e4 : blkE f (i : Int) f.2.1[i] m = (0, (insE (i : Int) 0 f.2.1[i].2.1 (parE ((i : Int), 0, ()) f.2.1[i].1 m).2).2) := by rw [blkE, if_neg (fun w => w e), if_neg (fun w => w e2), e3]
      rw [e4, if_neg (fun w => w rfl)] at h1 h2
      rw [wrapS (n := i) (by omega)]
      exact ih _ (insE_kd (parE_kd hd e) e2) h1 h2)
  exact key m hd h1 h2
theorem c14_ok {f : FU} {k : Int → Prop} (hz : Szu f) (hn : f.2.1.length ≤ 128) (h : k (shpE f 0 f.2.1 []).1) : c14 f k := by
  constructor
  have hd : Kd (keys []) := ⟨List.nodup_nil, fun x hx => by cases hx⟩
  exact l14r3_ok (m := []) hz hn hd (fun _ => h) fun e => by rw [e] at h; exact h
def manyI : Int → List BK → Int
  | s, [] => s
  | s, b :: r => manyI (IntKind.wrap .i64 (s + (b.2.1.length : Int))) r
theorem l30r3_ok {f : FU} {k : Int → FU → Prop} (hl : f.2.1.length ≤ maxLen) (h : k (manyI 0 f.2.1) f) : l30r3 k 0 f.2.1 (f.2.1.length : Int) 0 f := by
  have hm := hml
  constructor
  intro I hI
  have key := dropInd (l := f.2.1) (M := fun i r => ∀ s, k (manyI s r) f → I s f.2.1 (f.2.1.length : Int) (i : Int) f)
    (fun s h => hI _ _ _ _ _ (brDn (by omega) h))
    (fun i hi ih s h => by
      apply hI
      rw [wrapS (n := i) (by omega)]
      exact brD (by omega) (needAt hi (ih _ h)))
  exact key 0 h
theorem l7r3_ok {f : FU} {k : Int → FU → Prop} (hl : f.2.1.length ≤ maxLen) (h : k (manyI 0 f.2.1) f) : l7r3 k 0 f.2.1 (f.2.1.length : Int) 0 f := by
  have hm := hml
  constructor
  intro I hI
  have key := dropInd (l := f.2.1) (M := fun i r => ∀ s, k (manyI s r) f → I s f.2.1 (f.2.1.length : Int) (i : Int) f)
    (fun s h => hI _ _ _ _ _ (brDn (by omega) h))
    (fun i hi ih s h => by
      apply hI
      rw [wrapS (n := i) (by omega)]
      exact brD (by omega) (needAt hi (ih _ h)))
  exact key 0 h
def insL (kb : Int) : Nat → List IN → MP
  | _, [] => []
  | n, x :: r => (x.1, (kb, ((n + 1 : Nat) : Int), ())) :: insL kb (n + 1) r
def blkL (kb : Int) (b : BK) : MP := b.1.map (fun v => (v, (kb, (0 : Int), ()))) ++ insL kb 0 b.2.1
def shpL : Nat → List BK → MP
  | _, [] => []
  | k, b :: r => blkL (k : Int) b ++ shpL (k + 1) r
theorem parE_eq {p : PL3} : ∀ {l : List Int} {m : MP}, (parE p l m).1 = 0 → (parE p l m).2 = m ++ l.map fun v => (v, p)
  | [], m, _ => by simp [parE]
  | v :: r, m, e => by
    rw [parE] at e ⊢
    by_cases q : defE v (keys m) = 0
    · rw [if_neg (fun w => w q)] at e ⊢
      rw [parE_eq e, List.append_assoc]
      rfl
    · rw [if_pos q] at e; exact (q e).elim
theorem insE_eq {kb : Int} : ∀ {l : List IN} {n : Nat} {m : MP}, (insE kb n l m).1 = 0 → (insE kb n l m).2 = m ++ insL kb n l ∧ ∀ x ∈ l, formE x = 0
  | [], n, m, _ => by simp [insE, insL]
  | x :: r, n, m, e => by
    rw [insE] at e ⊢
    by_cases q : defE x.1 (keys m) = 0
    · rw [if_neg (fun w => w q)] at e ⊢
      by_cases q2 : formE x = 0
      · rw [if_neg (fun w => w q2)] at e ⊢
        obtain ⟨h1, h2⟩ := insE_eq e
        rw [h1, List.append_assoc]
        refine ⟨rfl, fun y hy => ?_⟩
        rcases List.mem_cons.1 hy with rfl | hy
        · exact q2
        · exact h2 y hy
      · rw [if_pos q2] at e; exact (q2 e).elim
    · rw [if_pos q] at e; exact (q e).elim
theorem blkE_eq {f : FU} {kb : Int} {b : BK} {m : MP} (e : (blkE f kb b m).1 = 0) : (blkE f kb b m).2 = m ++ blkL kb b ∧ (∀ x ∈ b.2.1, formE x = 0) ∧ endE f b.2.2.1 = 0 := by
  rw [blkE] at e ⊢
  by_cases q : (parE (kb, 0, ()) b.1 m).1 = 0
  · rw [if_neg (fun w => w q)] at e ⊢
    by_cases q2 : (insE kb 0 b.2.1 (parE (kb, 0, ()) b.1 m).2).1 = 0
    · rw [if_neg (fun w => w q2)] at e ⊢
      obtain ⟨h1, h2⟩ := insE_eq q2
      refine ⟨?_, h2, e⟩
      show (insE kb 0 b.2.1 (parE (kb, 0, ()) b.1 m).2).2 = _
      rw [h1, parE_eq q, List.append_assoc]
      rfl
    · rw [if_pos q2] at e; exact (q2 e).elim
  · rw [if_pos q] at e; exact (q e).elim
theorem shpE_eq {f : FU} : ∀ {l : List BK} {k : Nat} {m : MP}, (shpE f k l m).1 = 0 → (shpE f k l m).2 = m ++ shpL k l ∧ ∀ b ∈ l, (∀ x ∈ b.2.1, formE x = 0) ∧ endE f b.2.2.1 = 0
  | [], k, m, _ => by simp [shpE, shpL]
  | b :: r, k, m, e => by
    rw [shpE] at e ⊢
    by_cases q : (blkE f (k : Int) b m).1 = 0
    · rw [if_neg (fun w => w q)] at e ⊢
      obtain ⟨h1, h2⟩ := shpE_eq e
      obtain ⟨h3, h4⟩ := blkE_eq q
      rw [h1, h3, List.append_assoc]
      refine ⟨rfl, fun y hy => ?_⟩
      rcases List.mem_cons.1 hy with rfl | hy
      · exact h4
      · exact h2 y hy
    · rw [if_pos q] at e; exact (q e).elim
theorem shpE_kd {f : FU} : ∀ {l : List BK} {k : Nat} {m : MP}, Kd (keys m) → (shpE f k l m).1 = 0 → Kd (keys (shpE f k l m).2)
  | [], k, m, h, _ => h
  | b :: r, k, m, h, e => by
    rw [shpE] at e ⊢
    by_cases q : (blkE f (k : Int) b m).1 = 0
    · rw [if_neg (fun w => w q)] at e ⊢
      exact shpE_kd (blkE_kd h q) e
    · rw [if_pos q] at e; exact (q e).elim
theorem mem_insL {kb v : Int} {p : PL3} : ∀ {l : List IN} {n : Nat}, (v, p) ∈ insL kb n l ↔ ∃ j x, l[j]? = some x ∧ x.1 = v ∧ p = (kb, ((n + j + 1 : Nat) : Int), ())
  | [], n => by simp [insL]
  | y :: r, n => by
    rw [insL, List.mem_cons, mem_insL]
    constructor
    · rintro (e | ⟨j, x, h1, h2, h3⟩)
      · obtain ⟨rfl, rfl⟩ := Prod.mk.injEq _ _ _ _ ▸ e
        exact ⟨0, y, rfl, rfl, rfl⟩
      · exact ⟨j + 1, x, h1, h2, by rw [h3, show n + 1 + j + 1 = n + (j + 1) + 1 by omega]⟩
    · rintro ⟨j, x, h1, h2, h3⟩
      cases j with
      | zero =>
        obtain rfl := Option.some.inj h1
        exact .inl (by rw [h3, ← h2])
      | succ j => exact .inr ⟨j, x, h1, h2, by rw [h3, show n + 1 + j + 1 = n + (j + 1) + 1 by omega]⟩
def Df (f : FU) (v : Int) (k i : Nat) : Prop := ∃ b, f.2.1[k]? = some b ∧ ((i = 0 ∧ v ∈ b.1) ∨ ∃ j x, i = j + 1 ∧ b.2.1[j]? = some x ∧ x.1 = v)
theorem mem_blkL {kb v : Int} {p : PL3} {b : BK} : (v, p) ∈ blkL kb b ↔ ∃ i : Nat, p = (kb, (i : Int), ()) ∧ ((i = 0 ∧ v ∈ b.1) ∨ ∃ j x, i = j + 1 ∧ b.2.1[j]? = some x ∧ x.1 = v) := by
  unfold blkL
  rw [List.mem_append, List.mem_map, mem_insL]
  constructor
  · rintro (⟨w, h1, h2⟩ | ⟨j, x, h1, h2, h3⟩)
    · obtain ⟨rfl, rfl⟩ := Prod.mk.injEq _ _ _ _ ▸ h2
      exact ⟨0, rfl, .inl ⟨rfl, h1⟩⟩
    · exact ⟨j + 1, by rw [h3, Nat.zero_add], .inr ⟨j, x, rfl, h1, h2⟩⟩
  · rintro ⟨i, rfl, ⟨rfl, h⟩ | ⟨j, x, rfl, h1, h2⟩⟩
    · exact .inl ⟨v, h, rfl⟩
    · exact .inr ⟨j, x, h1, h2, by rw [Nat.zero_add]⟩
theorem mem_shpL {v : Int} {p : PL3} : ∀ {l : List BK} {k : Nat}, (v, p) ∈ shpL k l ↔ ∃ i b, l[i]? = some b ∧ (v, p) ∈ blkL ((k + i : Nat) : Int) b
  | [], k => by simp [shpL]
  | c :: r, k => by
    rw [shpL, List.mem_append, mem_shpL]
    constructor
    · rintro (h | ⟨i, b, h1, h2⟩)
      · exact ⟨0, c, rfl, h⟩
      · exact ⟨i + 1, b, h1, by rw [show k + (i + 1) = k + 1 + i by omega]; exact h2⟩
    · rintro ⟨i, b, h1, h2⟩
      cases i with
      | zero => obtain rfl := Option.some.inj h1; exact .inl h2
      | succ i => exact .inr ⟨i, b, h1, by rw [show k + 1 + i = k + (i + 1) by omega]; exact h2⟩
theorem mget_mem {v : Int} {p : PL3} : ∀ {m : MP}, (keys m).Nodup → (mget m v = some p ↔ (v, p) ∈ m)
  | [], _ => by simp [mget]
  | q :: r, h => by
    have h' : (q.1 :: keys r).Nodup := h
    obtain ⟨h1, h2⟩ := List.nodup_cons.1 h'
    unfold mget
    by_cases e : q.1 = v
    · rw [show (@BEq.beq Int _ q.1 v) = true by simpa using e]
      show some q.2 = some p ↔ _
      rw [List.mem_cons]
      constructor
      · intro w; exact .inl (by rw [← e, ← Option.some.inj w])
      · rintro (w | w)
        · rw [← w]
        · exact (h1 (by rw [e]; exact List.mem_map.2 ⟨_, w, rfl⟩)).elim
    · rw [show (@BEq.beq Int _ q.1 v) = false by simpa using e]
      show mget r v = some p ↔ _
      rw [mget_mem h2, List.mem_cons]
      exact ⟨.inr, fun w => w.resolve_left fun w => e (by rw [← w])⟩
theorem edgE_zero {bs : List BK} : ∀ {l : List ED}, edgE bs l = 0 → ∀ e ∈ l, 1 ≤ e.1 ∧ e.1 < (bs.length : Int) ∧ e.2.1.length = parN bs e.1.toNat
  | [], _, e, he => by cases he
  | y :: r, h, e, he => by
    rw [edgE] at h
    by_cases q : 1 ≤ y.1 ∧ y.1 ≤ (bs.length : Int) - 1
    · rw [if_neg (fun w => w q)] at h
      by_cases q2 : y.2.1.length = parN bs y.1.toNat
      · rw [if_neg (fun w => w q2)] at h
        rcases List.mem_cons.1 he with rfl | he
        · exact ⟨q.1, by omega, q2⟩
        · exact edgE_zero h e he
      · rw [if_pos q2] at h; cases h
    · rw [if_pos q] at h; cases h
theorem endE_zero {f : FU} {t : TM} (h : endE f t = 0) : shpP t ∧ ∀ e ∈ t.2.2.2.2.1, 1 ≤ e.1 ∧ e.1 < (f.2.1.length : Int) ∧ e.2.1.length = parN f.2.1 e.1.toNat := by
  unfold endE at h
  by_cases q : shpP t
  · refine ⟨q, ?_⟩
    rw [if_neg (fun w => w q)] at h
    split at h
    · cases h
    split at h
    · cases h
    split at h
    · rename_i e; exact (e h).elim
    exact edgE_zero h
  · rw [if_pos q] at h; cases h
theorem insL_len {kb : Int} : ∀ {l : List IN} {n : Nat}, (insL kb n l).length = l.length
  | [], _ => rfl
  | x :: r, n => by rw [insL, List.length_cons, insL_len, List.length_cons]
theorem shpL_len {b : BK} : ∀ {l : List BK} {k : Nat}, b ∈ l → b.1.length + b.2.1.length ≤ (shpL k l).length
  | c :: r, k, h => by
    rw [shpL, List.length_append]
    rcases List.mem_cons.1 h with rfl | h
    · unfold blkL
      rw [List.length_append, List.length_map, insL_len]
      omega
    · have := shpL_len (k := k + 1) h
      omega
theorem endE_tl {f : FU} {t : TM} (h : endE f t = 0) : t.2.2.2.2.1.length ≤ 257 := by
  have hs := (endE_zero h).1
  have hc : t.2.2.2.1.length ≤ 256 := by
    unfold endE at h
    rw [if_neg (fun w => w hs)] at h
    split at h
    · cases h
    · omega
  unfold shpP at hs
  rw [wrap64 (by omega) (by omega)] at hs
  omega
structure FOk (f : FU) (m : MP) : Prop where
  pos : 0 < f.2.1.length
  le : f.2.1.length ≤ 128
  edg : ∀ b ∈ f.2.1, ∀ e ∈ b.2.2.1.2.2.2.2.1, 1 ≤ e.1 ∧ e.1 < (f.2.1.length : Int) ∧ e.2.1.length = parN f.2.1 e.1.toNat
  shp : ∀ b ∈ f.2.1, shpP b.2.2.1
  frm : ∀ b ∈ f.2.1, ∀ x ∈ b.2.1, formE x = 0
  kd : Kd (keys m)
  pl : ∀ b ∈ f.2.1, b.1.length ≤ 4096
  tl : ∀ b ∈ f.2.1, b.2.2.1.2.2.2.2.1.length ≤ 257
  il : ∀ b ∈ f.2.1, b.2.1.length ≤ 4096
  df : ∀ v p, mget m v = some p ↔ ∃ k i : Nat, p = ((k : Int), (i : Int), ()) ∧ Df f v k i
theorem fok_of {f : FU} (h0 : 0 < f.2.1.length) (h1 : f.2.1.length ≤ 128) (h : (shpE f 0 f.2.1 []).1 = 0) : FOk f (shpE f 0 f.2.1 []).2 := by
  have hd : Kd (keys (shpE f 0 f.2.1 []).2) := shpE_kd ⟨List.nodup_nil, fun x hx => by cases hx⟩ h
  obtain ⟨e1, e2⟩ := shpE_eq h
  refine ⟨h0, h1, fun b hb => (endE_zero (e2 b hb).2).2, fun b hb => (endE_zero (e2 b hb).2).1, fun b hb => (e2 b hb).1, hd, fun b hb => ?_, fun b hb => endE_tl (e2 b hb).2, fun b hb => ?_, fun v p => ?_⟩
  · have := shpL_len (k := 0) hb
    have h3 := hd.len
    unfold keys at h3
    rw [List.length_map, e1, List.nil_append] at h3
    omega
  · have := shpL_len (k := 0) hb
    have h3 := hd.len
    unfold keys at h3
    rw [List.length_map, e1, List.nil_append] at h3
    omega
  rw [mget_mem hd.nd, e1, List.nil_append, mem_shpL]
  constructor
  · rintro ⟨k, b, h1, h2⟩
    obtain ⟨i, rfl, h3⟩ := mem_blkL.1 h2
    exact ⟨k, i, by rw [Nat.zero_add], b, h1, h3⟩
  · rintro ⟨k, i, rfl, b, h1, h3⟩
    exact ⟨k, b, h1, by rw [Nat.zero_add]; exact mem_blkL.2 ⟨i, rfl, h3⟩⟩
theorem FOk.uniq {f : FU} {m : MP} (h : FOk f m) {v : Int} {k i k' i' : Nat} (h1 : Df f v k i) (h2 : Df f v k' i') : k = k' ∧ i = i' := by
  have a := (h.df v _).2 ⟨k, i, rfl, h1⟩
  have b := (h.df v _).2 ⟨k', i', rfl, h2⟩
  rw [a] at b
  have b := Option.some.inj b
  simp only [Prod.mk.injEq] at b
  omega
def wd (P : Nat → Bool) (o : Nat) : Nat → Nat
  | 0 => 0
  | i + 1 => wd P o i + if P (o + i) = true then 2 ^ i else 0
theorem wd_lt {P : Nat → Bool} {o : Nat} : ∀ {n : Nat}, wd P o n < 2 ^ n
  | 0 => by simp [wd]
  | n + 1 => by
    have := wd_lt (P := P) (o := o) (n := n)
    rw [wd, Nat.pow_succ]
    split <;> omega
theorem wd_bit {P : Nat → Bool} {o : Nat} : ∀ {n j : Nat}, (wd P o n).testBit j = (decide (j < n) && P (o + j))
  | 0, j => by simp [wd]
  | n + 1, j => by
    have hl := wd_lt (P := P) (o := o) (n := n)
    rw [wd]
    split
    · rename_i e
      have h := Nat.two_pow_add_eq_or_of_lt hl 1
      rw [Nat.mul_one] at h
      rw [Nat.add_comm, h, Nat.testBit_or, wd_bit, Nat.testBit_two_pow]
      by_cases h : j < n
      · have : ¬ n = j := by omega
        simp [h, Nat.lt_succ_of_lt h, this]
      · by_cases h2 : j = n
        · subst h2; simp [e]
        · have h3 : ¬ j < n + 1 := by omega
          have h4 : ¬ n = j := by omega
          simp [h, h3, h4]
    · rename_i e
      rw [Nat.add_zero, wd_bit]
      by_cases h : j < n
      · simp [h, Nat.lt_succ_of_lt h]
      · by_cases h2 : j = n
        · subst h2; simp at e; simp [e]
        · have : ¬ j < n + 1 := by omega
          simp [h, this]
theorem wrapU {n : Nat} (h : n < 2 ^ 64) : IntKind.wrap .u64 (n : Int) = (n : Int) := by
  simp [IntKind.wrap, IntKind.signed, IntKind.bits]
  omega
theorem ofInt_nat {a : Nat} (h : a < 2 ^ 64) : (BitVec.ofInt 64 (a : Int)).toNat = a := by
  rw [BitVec.toNat_ofInt]
  omega
theorem bit_or {a b : Nat} (ha : a < 2 ^ 64) (hb : b < 2 ^ 64) : bitop .or .u64 (a : Int) (b : Int) = ((a ||| b : Nat) : Int) := by
  show IntKind.wrap .u64 (((BitVec.ofInt 64 (a : Int) ||| BitVec.ofInt 64 (b : Int)).toNat : Nat) : Int) = _
  rw [BitVec.toNat_or, ofInt_nat ha, ofInt_nat hb, wrapU (Nat.or_lt_two_pow ha hb)]
theorem bit_and {a b : Nat} (ha : a < 2 ^ 64) (hb : b < 2 ^ 64) : bitop .and .u64 (a : Int) (b : Int) = ((a &&& b : Nat) : Int) := by
  show IntKind.wrap .u64 (((BitVec.ofInt 64 (a : Int) &&& BitVec.ofInt 64 (b : Int)).toNat : Nat) : Int) = _
  rw [BitVec.toNat_and, ofInt_nat ha, ofInt_nat hb, wrapU (Nat.and_lt_two_pow _ hb)]
theorem shl_one {j : Nat} (h : j < 64) : shlI .u64 1 (j : Int) = ((2 ^ j : Nat) : Int) := by
  unfold shlI
  rw [Int.toNat_natCast, show min j IntKind.u64.bits = j from Nat.min_eq_left (Nat.le_of_lt h), Int.one_mul]
  rw [show ((2 : Int) ^ j) = ((2 ^ j : Nat) : Int) by simp]
  exact wrapU (Nat.pow_lt_pow_right (by decide) h)
theorem shr_nat {a j : Nat} (h : j < 64) : shrI .u64 (a : Int) (j : Int) = ((a / 2 ^ j : Nat) : Int) := by
  unfold shrI
  rw [Int.toNat_natCast, show min j IntKind.u64.bits = j from Nat.min_eq_left (Nat.le_of_lt h)]
  rw [show ((2 : Int) ^ j) = ((2 ^ j : Nat) : Int) by simp, Int.fdiv_eq_ediv_of_nonneg _ (Int.natCast_nonneg _)]
  rfl
def enc (P : Nat → Bool) : List Int := [(wd P 0 64 : Int), (wd P 64 64 : Int)]
def upd (P : Nat → Bool) (k : Nat) : Nat → Bool := fun i => P i || decide (i = k)
def met (P Q : Nat → Bool) : Nat → Bool := fun i => P i && Q i
theorem enc_none : enc (fun _ => false) = [0, 0] := by decide +kernel
theorem wd_ext {P Q : Nat → Bool} {o : Nat} (h : ∀ i, i < 64 → P (o + i) = Q (o + i)) : wd P o 64 = wd Q o 64 :=
  Nat.eq_of_testBit_eq fun j => by
    rw [wd_bit, wd_bit]
    by_cases hj : j < 64
    · rw [h j hj]
    · simp [hj]
theorem enc_iff {P Q : Nat → Bool} : enc P = enc Q ↔ ∀ i, i < 128 → P i = Q i := by
  constructor
  · intro h i hi
    unfold enc at h
    have h1 : (wd P 0 64 : Int) = (wd Q 0 64 : Int) := (List.cons.inj h).1
    have h2 : (wd P 64 64 : Int) = (wd Q 64 64 : Int) := (List.cons.inj (List.cons.inj h).2).1
    by_cases e : i < 64
    · have := congrArg (fun x : Nat => x.testBit i) (show wd P 0 64 = wd Q 0 64 by omega)
      simp only [wd_bit, Nat.zero_add, e, decide_true, Bool.true_and] at this
      exact this
    · have := congrArg (fun x : Nat => x.testBit (i - 64)) (show wd P 64 64 = wd Q 64 64 by omega)
      have e2 : i - 64 < 64 := by omega
      simp only [wd_bit, show 64 + (i - 64) = i by omega, e2, decide_true, Bool.true_and] at this
      exact this
  · intro h
    unfold enc
    rw [wd_ext (P := P) (Q := Q) (o := 0) fun i hi => h _ (by omega), wd_ext (P := P) (Q := Q) (o := 64) fun i hi => h _ (by omega)]
theorem tdv {k : Nat} : Int.tdiv (k : Int) 64 = ((k / 64 : Nat) : Int) := rfl
theorem tmd {k : Nat} : Int.tmod (k : Int) 64 = ((k % 64 : Nat) : Int) := rfl
theorem wr_dv {k : Nat} (h : k < 128) : IntKind.wrap .i64 (Int.tdiv (k : Int) 64) = ((k / 64 : Nat) : Int) := by rw [tdv]; exact wrap64 (by omega) (by omega)
theorem enc_get {P : Nat → Bool} {q : Nat} (h : q < 2) : (enc P)[q]? = some ((wd P (64 * q) 64 : Nat) : Int) := by
  rcases (by omega : q = 0 ∨ q = 1) with rfl | rfl <;> rfl
theorem wd_upd {P : Nat → Bool} {k : Nat} : wd P (64 * (k / 64)) 64 ||| 2 ^ (k % 64) = wd (upd P k) (64 * (k / 64)) 64 :=
  Nat.eq_of_testBit_eq fun j => by
    rw [Nat.testBit_or, wd_bit, wd_bit, Nat.testBit_two_pow]
    unfold upd
    by_cases hj : j < 64
    · by_cases e : k % 64 = j
      · have : 64 * (k / 64) + j = k := by omega
        simp [hj, e, this]
      · have : ¬ 64 * (k / 64) + j = k := by omega
        simp [hj, e, this]
    · have : ¬ k % 64 = j := by omega
      simp [hj, this]
theorem enc_upd {P : Nat → Bool} {k : Nat} (h : k < 128) : (enc P).set (k / 64) ((wd (upd P k) (64 * (k / 64)) 64 : Nat) : Int) = enc (upd P k) := by
  have other : ∀ o, o ≠ 64 * (k / 64) → (o = 0 ∨ o = 64) → wd P o 64 = wd (upd P k) o 64 := fun o ho h2 => wd_ext fun i hi => by
    unfold upd
    have : ¬ o + i = k := by omega
    simp [this]
  rcases (by omega : k / 64 = 0 ∨ k / 64 = 1) with e | e
  · rw [e]
    unfold enc
    rw [other 64 (by omega) (.inr rfl)]
    rfl
  · rw [e]
    unfold enc
    rw [other 0 (by omega) (.inl rfl)]
    rfl
theorem c56_ok {P : Nat → Bool} {k : Nat} {kk : List Int → Prop} (h : k < 128) (hk : kk (enc (upd P k))) : c56 (enc P) (k : Int) kk := by
  constructor
  rw [wr_dv h, tmd, Int.toNat_natCast]
  refine brD (by omega) (needS (enc_get (by omega)) (brDn (by omega) (brD (by omega) (needS (enc_get (by omega)) ?_))))
  rw [shl_one (by omega), bit_or wd_lt (Nat.pow_lt_pow_right (by decide) (by omega)), wd_upd, enc_upd h]
  exact hk
theorem c49_ok {P : Nat → Bool} {k : Nat} {kk : Bool → Prop} (h : k < 128) (hk : kk (P k)) : c49 (enc P) (k : Int) kk := by
  constructor
  rw [wr_dv h, tmd, Int.toNat_natCast]
  refine brD (by omega) (needS (enc_get (by omega)) (brDn (by omega) ?_))
  have e : ((bitop .and .u64 (shrI .u64 ((wd P (64 * (k / 64)) 64 : Nat) : Int) ((k % 64 : Nat) : Int)) 1 : Int) == 1) = P k := by
    have hl : wd P (64 * (k / 64)) 64 < 2 ^ 64 := wd_lt
    have hb : (wd P (64 * (k / 64)) 64).testBit (k % 64) = P k := by
      rw [wd_bit, show 64 * (k / 64) + k % 64 = k by omega]
      have : k % 64 < 64 := by omega
      simp [this]
    have hd : wd P (64 * (k / 64)) 64 / 2 ^ (k % 64) < 2 ^ 64 := Nat.lt_of_le_of_lt (Nat.div_le_self _ _) hl
    rw [shr_nat (by omega), show ((1 : Int)) = ((1 : Nat) : Int) from rfl, bit_and hd (by decide), Nat.and_one_is_mod, ← hb, Nat.testBit_eq_decide_div_mod_eq]
    rw [Bool.eq_iff_iff, beq_iff_eq, decide_eq_true_eq]
    omega
  rw [e]
  exact hk
theorem wd_met {P Q : Nat → Bool} {o : Nat} : wd P o 64 &&& wd Q o 64 = wd (met P Q) o 64 :=
  Nat.eq_of_testBit_eq fun j => by
    rw [Nat.testBit_and, wd_bit, wd_bit, wd_bit]
    unfold met
    by_cases hj : j < 64 <;> simp [hj]
theorem c57_ok {P Q : Nat → Bool} {kk : List Int → Prop} (hk : kk (enc (met P Q))) : c57 (enc P) (enc Q) kk := by
  constructor
  refine needS rfl (needS rfl (needS rfl (needS rfl ?_)))
  rw [bit_and wd_lt wd_lt, bit_and wd_lt wd_lt, wd_met, wd_met]
  exact hk
theorem eqT_enc {P Q : Nat → Bool} : eqT (.arr 2 (.int .u64)) (enc P) (enc Q) = decide (enc P = enc Q) := by
  rw [Bool.eq_iff_iff, decide_eq_true_eq]
  exact ⟨fun h => eqT_eq h, fun h => by rw [h]; exact eqT_self _ _⟩
def tos (b : BK) : List ED := b.2.2.1.2.2.2.2.1
def Eg (f : FU) (k j : Nat) : Prop := ∃ b, f.2.1[k]? = some b ∧ ∃ e ∈ tos b, e.1 = (j : Int)
inductive Rc (f : FU) (w : Int) : Nat → Prop
  | z : w ≠ 0 → Rc f w 0
  | s {k j : Nat} : Rc f w k → Eg f k j → (j : Int) ≠ w → Rc f w j
theorem Eg.lt {f : FU} {m : MP} (h : FOk f m) {k j : Nat} (e : Eg f k j) : k < f.2.1.length ∧ 1 ≤ j ∧ j < f.2.1.length := by
  obtain ⟨b, hb, x, hx, ex⟩ := e
  obtain ⟨h1, h2, _⟩ := h.edg b (List.mem_of_getElem? hb) x hx
  exact ⟨(List.getElem?_eq_some_iff.1 hb).1, by omega, by omega⟩
theorem Rc.lt {f : FU} {m : MP} (h : FOk f m) {w : Int} {j : Nat} (r : Rc f w j) : j < f.2.1.length := by
  cases r with
  | z _ => exact h.pos
  | s _ e _ => exact (e.lt h).2.2
theorem Rc.ne {f : FU} {w : Int} {j : Nat} (r : Rc f w j) : (j : Int) ≠ w := by
  cases r with
  | z h => exact fun e => h e.symm
  | s _ _ h => exact h
theorem Rc.all {f : FU} {w : Int} {j : Nat} (r : Rc f w j) : Rc f (-1) j := by
  induction r with
  | z _ => exact .z (by decide)
  | s _ e _ ih => exact .s ih e (by omega)
abbrev BF := Nat → Nat → Bool
def ovl (n : Nat) (O : BF) : List (List Int) := (List.range n).map fun k => enc (O k)
def put (O : BF) (e : Nat) (P : Nat → Bool) : BF := fun i => if i = e then P else O i
theorem ovl_len {n : Nat} {O : BF} : (ovl n O).length = n := by simp [ovl]
theorem ovl_get {n k : Nat} {O : BF} (h : k < n) : (ovl n O)[k]? = some (enc (O k)) := by
  unfold ovl
  rw [List.getElem?_map, List.getElem?_range h]
  rfl
theorem ovl_put {n e : Nat} {O : BF} {P : Nat → Bool} (h : e < n) : (ovl n O).set e (enc P) = ovl n (put O e P) := by
  refine List.ext_getElem? fun i => ?_
  by_cases hi : i < n
  · rw [ovl_get hi]
    unfold put
    by_cases q : i = e
    · subst q; rw [List.getElem?_set_self (by rw [ovl_len]; exact h), if_pos rfl]
    · rw [List.getElem?_set_ne (fun w => q w.symm), ovl_get hi, if_neg q]
  · rw [List.getElem?_eq_none (by rw [List.length_set, ovl_len]; omega), List.getElem?_eq_none (by rw [ovl_len]; omega)]
structure Dm (f : FU) (O : BF) (S : Nat → Bool) : Prop where
  s0 : S 0 = true
  sr : ∀ j, S j = true → Rc f (-1) j
  self : ∀ k, k < f.2.1.length → O k k = true
  o0 : ∀ a, O 0 a = true → a = 0
  snd : ∀ k a : Nat, k < f.2.1.length → a < f.2.1.length → ¬ Rc f (a : Int) k → O k a = true
  bd : ∀ k a, O k a = true → a < f.2.1.length
def nxt (O : BF) (k e : Nat) : Nat → Bool := upd (met (O e) (O k)) e
theorem Dm.step {f : FU} {m : MP} (hf : FOk f m) {O : BF} {S : Nat → Bool} (h : Dm f O S) {k e : Nat} (hk : S k = true) (he : Eg f k e) : Dm f (put O e (nxt O k e)) (upd S e) := by
  obtain ⟨q1, q2, q3⟩ := he.lt hf
  refine ⟨by unfold upd; rw [h.s0]; rfl, fun j hj => ?_, fun i hi => ?_, fun a ha => ?_, fun i a hi ha hr => ?_, fun i a ha => ?_⟩
  · unfold upd at hj
    rw [Bool.or_eq_true, decide_eq_true_eq] at hj
    rcases hj with hj | rfl
    · exact h.sr j hj
    · exact .s (h.sr k hk) he (by omega)
  · unfold put nxt upd met
    split
    · rename_i w; subst w; simp
    · exact h.self i hi
  · unfold put at ha
    rw [if_neg (by omega)] at ha
    exact h.o0 a ha
  · unfold put nxt upd met
    split
    · rename_i w; subst w
      by_cases q : a = i
      · simp [q]
      · have w1 := h.snd i a hi ha hr
        have w2 := h.snd k a q1 ha fun w => hr (.s w he (by omega))
        simp [w1, w2]
    · exact h.snd i a hi ha hr
  · unfold put nxt upd met at ha
    split at ha
    · rw [Bool.or_eq_true, Bool.and_eq_true, decide_eq_true_eq] at ha
      rcases ha with ha | ha
      · exact h.bd _ _ ha.1
      · omega
    · exact h.bd _ _ ha
def cnt (P : Nat → Bool) : Nat → Nat
  | 0 => 0
  | i + 1 => cnt P i + if P i = true then 1 else 0
def smf (g : Nat → Nat) : Nat → Nat
  | 0 => 0
  | i + 1 => smf g i + g i
theorem cnt_le {P Q : Nat → Bool} : ∀ {n : Nat}, (∀ i, i < n → P i = true → Q i = true) → cnt P n ≤ cnt Q n
  | 0, _ => Nat.le_refl _
  | n + 1, h => by
    have := cnt_le (n := n) fun i hi => h i (by omega)
    have := h n (by omega)
    unfold cnt
    split
    · rename_i e; rw [if_pos (this e)]; omega
    · omega
theorem cnt_lt {P Q : Nat → Bool} : ∀ {n : Nat} (h : ∀ i, i < n → P i = true → Q i = true) {j : Nat} (hj : j < n) (h1 : P j = false) (h2 : Q j = true), cnt P n < cnt Q n
  | n + 1, h, j, hj, h1, h2 => by
    unfold cnt
    by_cases e : j = n
    · subst e
      have := cnt_le (n := j) fun i hi => h i (by omega)
      rw [h1, h2]
      simp
      omega
    · have := cnt_lt (n := n) (fun i hi => h i (by omega)) (by omega) h1 h2
      have := h n (by omega)
      split
      · rename_i e; rw [if_pos (this e)]; omega
      · omega
theorem cnt_max {P : Nat → Bool} : ∀ {n : Nat}, cnt P n ≤ n
  | 0 => Nat.le_refl _
  | n + 1 => by have := cnt_max (P := P) (n := n); unfold cnt; split <;> omega
theorem smf_le {g h : Nat → Nat} : ∀ {n : Nat}, (∀ i, i < n → g i ≤ h i) → smf g n ≤ smf h n
  | 0, _ => Nat.le_refl _
  | n + 1, q => by have := smf_le (n := n) fun i hi => q i (by omega); have := q n (by omega); unfold smf; omega
theorem smf_lt {g h : Nat → Nat} : ∀ {n : Nat} (q : ∀ i, i < n → g i ≤ h i) {j : Nat} (hj : j < n) (hl : g j < h j), smf g n < smf h n
  | n + 1, q, j, hj, hl => by
    unfold smf
    by_cases e : j = n
    · subst e
      have := smf_le (n := j) fun i hi => q i (by omega)
      omega
    · have := smf_lt (n := n) (fun i hi => q i (by omega)) (by omega) hl
      have := q n (by omega)
      omega
def mu (n : Nat) (O : BF) (S : Nat → Bool) : Nat := smf (fun k => cnt (O k) n) n + (n - cnt S n)
def EOk (O : BF) (S : Nat → Bool) (k e : Nat) : Prop := enc (nxt O k e) = enc (O e) ∧ S e = true
theorem nxt_sub {f : FU} {O : BF} {S : Nat → Bool} (h : Dm f O S) {k e : Nat} (he : e < f.2.1.length) (i : Nat) (q : nxt O k e i = true) : O e i = true := by
  unfold nxt upd met at q
  rw [Bool.or_eq_true, Bool.and_eq_true, decide_eq_true_eq] at q
  rcases q with q | rfl
  · exact q.1
  · exact h.self _ he
theorem mu_step {f : FU} {m : MP} (hf : FOk f m) {O : BF} {S : Nat → Bool} (h : Dm f O S) {k e : Nat} (he : Eg f k e) (hn : ¬ EOk O S k e) : mu f.2.1.length (put O e (nxt O k e)) (upd S e) < mu f.2.1.length O S := by
  obtain ⟨q1, q2, q3⟩ := he.lt hf
  have hle := hf.le
  have sub := nxt_sub h (k := k) q3
  have hO : ∀ i, i < f.2.1.length → cnt (put O e (nxt O k e) i) f.2.1.length ≤ cnt (O i) f.2.1.length := fun i hi => cnt_le fun j hj q => by
    unfold put at q
    split at q
    · rename_i w; subst w; exact sub j q
    · exact q
  have hS : cnt S f.2.1.length ≤ cnt (upd S e) f.2.1.length := cnt_le fun j _ q => by unfold upd; rw [q]; rfl
  have hS2 := cnt_max (P := upd S e) (n := f.2.1.length)
  by_cases eS : S e = true
  · have hne : enc (nxt O k e) ≠ enc (O e) := fun w => hn ⟨w, eS⟩
    rw [Ne, enc_iff] at hne
    obtain ⟨i, hi⟩ := Classical.not_forall.1 hne
    rw [Classical.not_imp] at hi
    obtain ⟨_, hi⟩ := hi
    have hi1 : O e i = true := by
      cases hx : O e i with
      | true => rfl
      | false =>
        cases hy : nxt O k e i with
        | true => have := sub i hy; rw [hx] at this; cases this
        | false => rw [hx, hy] at hi; exact (hi rfl).elim
    have hi2 : nxt O k e i = false := by
      cases hy : nxt O k e i with
      | true => rw [hi1, hy] at hi; exact (hi rfl).elim
      | false => rfl
    have := smf_lt hO q3 (by
      show cnt (put O e (nxt O k e) e) f.2.1.length < cnt (O e) f.2.1.length
      have e1 : put O e (nxt O k e) e = nxt O k e := by unfold put; rw [if_pos rfl]
      rw [e1]
      exact cnt_lt (fun j _ q => sub j q) (h.bd e i hi1) hi2 hi1)
    unfold mu
    omega
  · have : cnt S f.2.1.length < cnt (upd S e) f.2.1.length := cnt_lt (fun j _ q => by unfold upd; rw [q]; rfl) q3 (by simpa using eS) (by unfold upd; simp)
    have := smf_le hO
    unfold mu
    omega
def Ps (f : FU) (O0 : BF) (S0 : Nat → Bool) (P : Nat → Nat → Prop) (again : Bool) (O : BF) (S : Nat → Bool) : Prop :=
  Dm f O S ∧ ((again = false ∧ O = O0 ∧ S = S0 ∧ ∀ k e, P k e → EOk O0 S0 k e) ∨ (again = true ∧ mu f.2.1.length O S < mu f.2.1.length O0 S0))
theorem Ps.mono {f : FU} {O0 : BF} {S0 : Nat → Bool} {P Q : Nat → Nat → Prop} {a : Bool} {O : BF} {S : Nat → Bool} (h : Ps f O0 S0 P a O S) (hPQ : ∀ k e, Q k e → P k e) : Ps f O0 S0 Q a O S :=
  ⟨h.1, h.2.imp (fun ⟨h1, h2, h3, h4⟩ => ⟨h1, h2, h3, fun k e q => h4 k e (hPQ k e q)⟩) id⟩
theorem Ps.step {f : FU} {m : MP} (hf : FOk f m) {O0 : BF} {S0 : Nat → Bool} {P : Nat → Nat → Prop} {a : Bool} {O : BF} {S : Nat → Bool} (h : Ps f O0 S0 P a O S) {k e : Nat} (hk : S k = true) (he : Eg f k e) (hn : ¬ EOk O S k e) {Q : Nat → Nat → Prop} : Ps f O0 S0 Q true (put O e (nxt O k e)) (upd S e) := by
  refine ⟨h.1.step hf hk he, .inr ⟨rfl, ?_⟩⟩
  have h1 := mu_step hf h.1 he hn
  rcases h.2 with ⟨_, rfl, rfl, _⟩ | ⟨_, h2⟩
  · exact h1
  · omega
theorem j47r26_ok {f : FU} {O : BF} {S : Nat → Bool} {y : ED} {k e : Nat} (hn : f.2.1.length ≤ 128) (he : y.1 = (e : Int)) (hel : e < f.2.1.length) {a : Bool} {s2 s4 s5 s7 s8 : Int} {s3 : List BK} {s6 : List ED} {s10 : List Int} {k1 : Bool → Int → List BK → Int → Int → List ED → Int → Int → FU → List Int → List (List Int) → List Int → Prop}
    (h1 : ¬ EOk O S k e → k1 true s2 s3 s4 s5 s6 s7 s8 f s10 (ovl f.2.1.length (put O e (nxt O k e))) (enc (upd S e))) (h2 : EOk O S k e → k1 a s2 s3 s4 s5 s6 s7 s8 f s10 (ovl f.2.1.length O) (enc S)) :
    j47r26 k1 a s2 s3 s4 s5 s6 s7 s8 f s10 (ovl f.2.1.length O) (enc S) y (enc (nxt O k e)) := by
  have hol := ovl_len (n := f.2.1.length) (O := O)
  have fin : ¬ EOk O S k e → ∀ z16 : List Int, z16 = enc (upd S e) → br (true && true) (br (eqT (.int .i64) y.1 y.1) (br (eqT (.arr 2 (.int .u64)) (enc (nxt O k e)) (enc (nxt O k e))) (br (decide ((0 : Int) ≤ y.1 ∧ y.1 < (((ovl f.2.1.length O).length : Nat) : Int)))
      (need False (ovl f.2.1.length O)[y.1.toNat]? fun y17 => k1 true s2 s3 s4 s5 s6 s7 s8 f s10 ((ovl f.2.1.length O).set y.1.toNat (enc (nxt O k e))) z16) False) False) False) False := by
    rintro hE z rfl
    rw [he, Int.toNat_natCast]
    refine brT rfl (brT (eqT_self (.int .i64) _) (brT (eqT_self _ _) (brD (by omega) (needS (ovl_get hel) ?_))))
    rw [ovl_put hel]
    exact h1 hE
  constructor
  rw [he, Int.toNat_natCast]
  rw [he, Int.toNat_natCast] at fin
  refine brD (by omega) (needS (ovl_get hel) ?_)
  rw [eqT_enc]
  by_cases q : enc (nxt O k e) = enc (O e)
  · rw [decide_eq_true q]
    refine brF rfl (c49_ok (by omega) ?_)
    cases hS : S e with
    | true => exact brF rfl (h2 ⟨q, hS⟩)
    | false => exact brT rfl (c56_ok (by omega) (fin (fun w => by rw [w.2] at hS; cases hS) _ rfl))
  · rw [decide_eq_false q]
    exact brT rfl (c56_ok (by omega) (fin (fun w => q w.1) _ rfl))
theorem l47r23_ok {f : FU} {m : MP} (hf : FOk f m) {O0 : BF} {S0 : Nat → Bool} {k : Nat} {b : BK} (hb : f.2.1[k]? = some b) (hl : (tos b).length ≤ maxLen) {s4 s5 : Int} {s3 : List BK} {s10 : List Int} {k1 : Bool → List BK → Int → Int → FU → List Int → List (List Int) → List Int → Prop} {P : Nat → Nat → Prop}
    (hk : ∀ a O S, Ps f O0 S0 (fun k' e => P k' e ∨ (k' = k ∧ ∃ x ∈ tos b, x.1 = (e : Int))) a O S → k1 a s3 s4 s5 f s10 (ovl f.2.1.length O) (enc S)) {a : Bool} {O : BF} {S : Nat → Bool} (h : Ps f O0 S0 P a O S) (hS : S k = true) :
    l47r23 k1 a (k : Int) s3 s4 s5 (tos b) ((tos b).length : Int) 0 f s10 (ovl f.2.1.length O) (enc S) := by
  have hm := hml
  have hn := hf.le
  have hkl := (List.getElem?_eq_some_iff.1 hb).1
  constructor
  intro I hI
  have key := upInd (N := (tos b).length) (M := fun i => ∀ a O S, S k = true → Ps f O0 S0 (fun k' e => P k' e ∨ (k' = k ∧ ∃ j x, j < i ∧ (tos b)[j]? = some x ∧ x.1 = (e : Int))) a O S → I a (k : Int) s3 s4 s5 (tos b) ((tos b).length : Int) (i : Int) f s10 (ovl f.2.1.length O) (enc S))
    (fun a O S _ h => hI _ _ _ _ _ _ _ _ _ _ _ _ (brDn (by omega) (hk _ _ _ (h.mono fun k' e q => q.imp id fun ⟨q1, x, hx, q2⟩ => by
      obtain ⟨j, hj⟩ := List.mem_iff_getElem?.1 hx
      exact ⟨q1, j, x, (List.getElem?_eq_some_iff.1 hj).1, hj, q2⟩))))
    (fun i hi ih a O S hS h => by
      apply hI
      have hx : (tos b)[i] ∈ tos b := List.getElem_mem hi
      obtain ⟨q1, q2, _⟩ := hf.edg b (List.mem_of_getElem? hb) _ hx
      obtain ⟨e, he⟩ := Int.eq_ofNat_of_zero_le (show 0 ≤ ((tos b)[i]).1 by omega)
      have hel : e < f.2.1.length := by omega
      have hol := ovl_len (n := f.2.1.length) (O := O)
      have hE : Eg f k e := ⟨b, hb, _, hx, he⟩
      have hw : IntKind.wrap .i64 ((i : Int) + 1) = ((i + 1 : Nat) : Int) := wrapS (by omega)
      have hj : j47r26 (fun z18 z19 z20 z21 z22 z23 z24 z25 z26 z27 z28 z29 => I z18 z19 z20 z21 z22 z23 z24 (IntKind.wrap .i64 (z25 + 1)) z26 z27 z28 z29) a (k : Int) s3 s4 s5 (tos b) ((tos b).length : Int) (i : Int) f s10 (ovl f.2.1.length O) (enc S) (tos b)[i] (enc (nxt O k e)) := by
        refine j47r26_ok hn he hel (fun q => ?_) fun q => ?_
        · show I true _ _ _ _ _ _ (IntKind.wrap .i64 ((i : Int) + 1)) f _ _ _
          rw [hw]
          exact ih _ _ _ (by unfold upd; rw [hS]; rfl) (h.step hf hS hE q)
        · show I a _ _ _ _ _ _ (IntKind.wrap .i64 ((i : Int) + 1)) f _ _ _
          rw [hw]
          refine ih _ _ _ hS ⟨h.1, h.2.imp (fun ⟨h1, h2, h3, h4⟩ => ⟨h1, h2, h3, fun k' e' w => ?_⟩) id⟩
          rcases w with w | ⟨w1, j, x, w2, w3, w4⟩
          · exact h4 k' e' (.inl w)
          · by_cases w5 : j = i
            · subst w5
              rw [List.getElem?_eq_getElem hi] at w3
              obtain rfl := Option.some.inj w3
              obtain rfl : e' = e := by omega
              subst w1
              rw [← h2, ← h3]
              exact q
            · exact h4 k' e' (.inr ⟨w1, j, x, by omega, w3, w4⟩)
      have c1 : ∀ {kk : List Int → Prop}, kk (enc (nxt O k e)) → c56 (enc (met (O e) (O k))) (e : Int) kk := fun h => c56_ok (by omega) h
      refine brD (by omega) (needAt hi ?_)
      rw [he, Int.toNat_natCast, Int.toNat_natCast]
      refine brD (by omega) (needS (ovl_get hel) (brD (by omega) (needS (ovl_get hkl) ⟨?_, ?_⟩)))
      · exact c57_ok (brT rfl (brT (eqT_self (.int .i64) _) ⟨c1 hj, brT rfl (brT (eqT_self (.int .i64) _) (c1 hj))⟩))
      · exact brT rfl (brT (eqT_self (.int .i64) _) (brD (by omega) (brT (by simp) (needS (ovl_get hel) (brT (eqT_self _ _) (brT (eqT_self (.int .i64) _) (brD (by omega) (brT (by simp) (needS (ovl_get hkl) (brT (eqT_self _ _) (brT rfl (brT (eqT_self (.int .i64) _) (c57_ok (brT rfl (brT (eqT_self (.int .i64) _) (c1 hj)))))))))))))))))
    0 (Nat.zero_le _)
  exact key a O S hS (h.mono fun k' e q => q.elim id fun ⟨_, j, _, w, _⟩ => absurd w (by omega))
theorem l47r19_ok {f : FU} {m : MP} (hf : FOk f m) (hz : Szu f) {O : BF} {S : Nat → Bool} (hD : Dm f O S) {s10 : List Int} {k1 : Bool → FU → List Int → List (List Int) → List Int → Prop}
    (hk1 : (∀ k e, S k = true → Eg f k e → EOk O S k e) → k1 false f s10 (ovl f.2.1.length O) (enc S)) (hk2 : ∀ O' S', Dm f O' S' → mu f.2.1.length O' S' < mu f.2.1.length O S → k1 true f s10 (ovl f.2.1.length O') (enc S')) :
    l47r19 k1 false f.2.1 (f.2.1.length : Int) 0 f s10 (ovl f.2.1.length O) (enc S) := by
  have hn := hf.le
  constructor
  intro I hI
  have key := upInd (N := f.2.1.length) (M := fun i => ∀ a O' S', Ps f O S (fun k e => k < i ∧ S k = true ∧ Eg f k e) a O' S' → I a f.2.1 (f.2.1.length : Int) (i : Int) f s10 (ovl f.2.1.length O') (enc S'))
    (fun a O' S' h => hI _ _ _ _ _ _ _ _ (brDn (by omega) (by
      rcases h.2 with ⟨rfl, rfl, rfl, h4⟩ | ⟨rfl, h4⟩
      · exact hk1 fun k e q1 q2 => h4 k e ⟨(q2.lt hf).1, q1, q2⟩
      · exact hk2 _ _ h.1 h4)))
    (fun i hi ih a O' S' h => by
      apply hI
      have hb := List.getElem?_eq_getElem hi
      rw [wrapS (n := i) (by omega)]
      refine brD (by omega) (needAt hi (c49_ok (by omega) ?_))
      cases hS : S' i with
      | false =>
        refine brT rfl (ih _ _ _ ⟨h.1, h.2.imp (fun ⟨h1, h2, h3, h4⟩ => ⟨h1, h2, h3, fun k e ⟨q1, q2, q3⟩ => ?_⟩) id⟩)
        by_cases q : k = i
        · subst q; rw [← h3, hS] at q2; cases q2
        · exact h4 k e ⟨by omega, q2, q3⟩
      | true =>
        refine brF rfl (l47r23_ok (b := f.2.1[i]) hf hb (hz.to _ (List.getElem_mem hi)) (fun a O' S' h => ?_) h hS)
        show I a f.2.1 (f.2.1.length : Int) (IntKind.wrap .i64 ((i : Int) + 1)) f s10 _ _
        rw [wrapS (n := i) (by omega)]
        refine ih _ _ _ (h.mono fun k e ⟨q1, q2, q3⟩ => ?_)
        by_cases q : k = i
        · subst q
          obtain ⟨b', w1, w2⟩ := q3
          rw [hb] at w1
          obtain rfl := Option.some.inj w1
          exact .inr ⟨rfl, w2⟩
        · exact .inl ⟨by omega, q2, q3⟩)
    0 (Nat.zero_le _)
  exact key false O S ⟨hD, .inl ⟨rfl, rfl, rfl, fun k e q => absurd q.1 (by omega)⟩⟩
theorem l47r16_ok {f : FU} {m : MP} (hf : FOk f m) (hz : Szu f) {s3 : List Int} {k1 : List Int → List (List Int) → List Int → Prop}
    (hk : ∀ O S, Dm f O S → (∀ k e, S k = true → Eg f k e → EOk O S k e) → k1 s3 (ovl f.2.1.length O) (enc S)) {O : BF} {S : Nat → Bool} (hD : Dm f O S) : l47r16 k1 true f s3 (ovl f.2.1.length O) (enc S) := by
  constructor
  intro I hI
  have key : ∀ N O S, Dm f O S → mu f.2.1.length O S ≤ N → I true f s3 (ovl f.2.1.length O) (enc S) := by
    intro N
    induction N with
    | zero =>
      intro O S hD hN
      exact hI _ _ _ _ _ (brT rfl (l47r19_ok hf hz hD (fun h => hI _ _ _ _ _ (brF rfl (hk O S hD h))) fun O' S' _ w => absurd w (by omega)))
    | succ N ih =>
      intro O S hD hN
      exact hI _ _ _ _ _ (brT rfl (l47r19_ok hf hz hD (fun h => hI _ _ _ _ _ (brF rfl (hk O S hD h))) fun O' S' h w => ih O' S' h (by omega)))
  exact key _ O S hD (Nat.le_refl _)
structure Dn (f : FU) (O : BF) (S : Nat → Bool) : Prop where
  seen : ∀ j, S j = true ↔ Rc f (-1) j
  over : ∀ k a : Nat, Rc f (-1) k → a < f.2.1.length → (O k a = true ↔ ¬ Rc f (a : Int) k)
theorem dn_of {f : FU} {m : MP} (hf : FOk f m) {O : BF} {S : Nat → Bool} (h : Dm f O S) (hE : ∀ k e, S k = true → Eg f k e → EOk O S k e) : Dn f O S := by
  have hn := hf.le
  have hs : ∀ j, S j = true ↔ Rc f (-1) j := fun j => ⟨h.sr j, fun r => by
    induction r with
    | z _ => exact h.s0
    | s _ e _ ih => exact (hE _ _ ih e).2⟩
  refine ⟨hs, fun k a hk ha => ⟨fun q r => ?_, h.snd k a (hk.lt hf) ha⟩⟩
  have key : ∀ j, Rc f (a : Int) j → O j a = false := by
    intro j r
    induction r with
    | z w =>
      cases hx : O 0 a with
      | false => rfl
      | true => exact (w (by rw [h.o0 a hx]; rfl)).elim
    | @s i j r e w ih =>
      have h1 := (hE i j ((hs i).2 r.all) e).1
      have h2 := enc_iff.1 h1 a (by omega)
      rw [← h2]
      unfold nxt upd met
      have : ¬ a = j := fun w2 => w (by rw [w2])
      simp [ih, this]
  rw [key k r] at q
  cases q
theorem l47r3_ok {f : FU} (hn : f.2.1.length ≤ 128) {s4 : List Int} {k : FU → List Int → List Int → Prop} (h : k f s4 (enc fun i => decide (i < f.2.1.length))) : l47r3 k (f.2.1.length : Int) 0 f s4 [0, 0] := by
  constructor
  intro I hI
  have key := upInd (N := f.2.1.length) (M := fun i => I (f.2.1.length : Int) (i : Int) f s4 (enc fun j => decide (j < i)))
    (hI _ _ _ _ _ (brDn (by omega) h))
    (fun i hi ih => by
      apply hI
      refine brD (by omega) (c56_ok (by omega) ?_)
      rw [wrapS (n := i) (by omega)]
      rwa [show enc (upd (fun j => decide (j < i)) i) = enc (fun j => decide (j < i + 1)) from enc_iff.2 fun j _ => by
        unfold upd
        rw [Bool.eq_iff_iff]
        simp only [Bool.or_eq_true, decide_eq_true_eq]
        omega])
    0 (Nat.zero_le _)
  rw [show enc (fun j => decide (j < 0)) = [0, 0] by rw [← enc_none]; exact enc_iff.2 fun j _ => by simp] at key
  exact key
theorem l47r9_ok {f : FU} {A : Nat → Bool} (hn : f.2.1.length ≤ 128) {s4 : List Int} {k : FU → List Int → List (List Int) → Prop} (h : k f s4 (ovl f.2.1.length fun _ => A)) {O : BF} : l47r9 k (f.2.1.length : Int) 0 f s4 (enc A) (ovl f.2.1.length O) := by
  constructor
  intro I hI
  have key := upInd (N := f.2.1.length) (M := fun i => ∀ O : BF, (∀ j, j < i → O j = A) → I (f.2.1.length : Int) (i : Int) f s4 (enc A) (ovl f.2.1.length O))
    (fun O q => hI _ _ _ _ _ _ (brDn (by omega) (by
      rwa [show ovl f.2.1.length O = ovl f.2.1.length (fun _ => A) from List.map_congr_left fun j hj => by rw [q j (List.mem_range.1 hj)]])))
    (fun i hi ih O q => by
      apply hI
      have hol := ovl_len (n := f.2.1.length) (O := O)
      rw [wrapS (n := i) (by omega), Int.toNat_natCast]
      refine brD (by omega) (brD (by omega) (needS (ovl_get hi) ?_))
      rw [ovl_put hi]
      refine ih _ fun j hj => ?_
      unfold put
      split
      · rfl
      · exact q j (by omega))
    0 (Nat.zero_le _)
  exact key O fun j hj => absurd hj (by omega)
theorem c47_ok {f : FU} {m : MP} (hf : FOk f m) (hz : Szu f) {k : List Int → List (List Int) → Prop} (hk : ∀ O S, Dn f O S → k (enc S) (ovl f.2.1.length O)) : c47 f k := by
  have hn := hf.le
  have hp := hf.pos
  constructor
  refine l47r3_ok hn (brD (by omega) ?_)
  have hrep : List.replicate (Int.toNat ((f.2.1.length : Nat) : Int)) ([0, 0] : List Int) = ovl f.2.1.length (fun _ _ => false) := by
    rw [Int.toNat_natCast]
    show _ = (List.range f.2.1.length).map fun _ => enc fun _ => false
    rw [enc_none, List.map_const', List.length_range]
  rw [hrep, ovl_len]
  refine l47r9_ok hn ?_
  have c0 : ∀ {kk : List Int → Prop}, kk (enc (upd (fun _ => false) 0)) → c56 [0, 0] 0 kk := fun {kk} h => by
    have := c56_ok (P := fun _ => false) (k := 0) (kk := kk) (by omega) h
    rw [enc_none] at this
    exact this
  have hol := ovl_len (n := f.2.1.length) (O := fun _ => fun i => decide (i < f.2.1.length))
  refine c0 (brD (by omega) (needS (ovl_get hp) (c0 ?_)))
  rw [ovl_put hp]
  have hu : ∀ j, upd (fun _ => false) 0 j = true ↔ j = 0 := fun j => by unfold upd; simp
  refine l47r16_ok hf hz (fun O S h hE => hk O S (dn_of hf h hE)) ⟨(hu 0).2 rfl, fun j hj => ?_, fun i hi => ?_, fun a ha => ?_, fun i a hi ha hr => ?_, fun i a ha => ?_⟩
  · rw [(hu j).1 hj]; exact .z (by decide)
  · unfold put
    split
    · rename_i w; subst w; exact (hu 0).2 rfl
    · simpa using hi
  · unfold put at ha
    rw [if_pos rfl] at ha
    exact (hu a).1 ha
  · unfold put
    split
    · rename_i w; subst w
      refine (hu a).2 (Classical.byContradiction fun w => hr (.z (by omega)))
    · simpa using ha
  · unfold put at ha
    split at ha
    · rw [(hu a).1 ha]; exact hp
    · simpa using ha
def Us (f : FU) (v : Int) (k i : Nat) : Prop := ∃ k' i', Df f v k' i' ∧ (¬ Rc f (-1) k ∨ (k' = k ∧ i' ≤ i) ∨ (k' ≠ k ∧ ¬ Rc f (k' : Int) k))
theorem c48_ok {f : FU} {m : MP} (hf : FOk f m) {O : BF} {S : Nat → Bool} (hD : Dn f O S) {v : Int} {k i : Nat} (hk : k < f.2.1.length) {kk : Bool → FU → MP → Int → Int → List (List Int) → List Int → Prop}
    (h1 : Us f v k i → kk true f m (k : Int) (i : Int) (ovl f.2.1.length O) (enc S)) (h2 : ¬ Us f v k i → kk false f m (k : Int) (i : Int) (ovl f.2.1.length O) (enc S)) : c48 v f m (k : Int) (i : Int) (ovl f.2.1.length O) (enc S) kk := by
  have hn := hf.le
  have hol := ovl_len (n := f.2.1.length) (O := O)
  constructor
  cases hg : mget m v with
  | none =>
    have hh : mhas m v = false := by unfold mhas; rw [hg]; rfl
    refine brF hh (h2 ?_)
    rintro ⟨k', i', q, _⟩
    have := (hf.df v _).2 ⟨k', i', rfl, q⟩
    rw [hg] at this
    cases this
  | some p =>
    have hh : mhas m v = true := by unfold mhas; rw [hg]; rfl
    have hv : mval (0, 0, ()) m v = p := by unfold mval; rw [hg]
    obtain ⟨k', i', rfl, hd⟩ := (hf.df v p).1 hg
    have hk' : k' < f.2.1.length := by obtain ⟨b, hb, _⟩ := hd; exact (List.getElem?_eq_some_iff.1 hb).1
    have iff : Us f v k i ↔ ¬ Rc f (-1) k ∨ (k' = k ∧ i' ≤ i) ∨ (k' ≠ k ∧ ¬ Rc f (k' : Int) k) := by
      constructor
      · rintro ⟨a, b, q, w⟩
        obtain ⟨rfl, rfl⟩ := hf.uniq hd q
        exact w
      · exact fun w => ⟨k', i', hd, w⟩
    rw [hv]
    refine brT hh ?_
    -- not reached
    have last : ¬ (k' = k ∧ i' ≤ i) → (Rc f (-1) k → ¬ (k' ≠ k ∧ ¬ Rc f (k' : Int) k)) → c49 (enc S) (k : Int) (fun z => kk (!z) f m (k : Int) (i : Int) (ovl f.2.1.length O) (enc S)) := fun q1 q2 => by
      refine c49_ok (by omega) ?_
      cases hS : S k with
      | true =>
        have hr := (hD.seen k).1 hS
        exact h2 fun w => by rcases iff.1 w with w | w | w
                             · exact w hr
                             · exact q1 w
                             · exact q2 hr w
      | false => exact h1 (iff.2 (.inl fun w => by rw [(hD.seen k).2 w] at hS; cases hS))
    have other : k' ≠ k → br (decide ((0 : Int) ≤ (k : Int) ∧ (k : Int) < (((ovl f.2.1.length O).length : Nat) : Int))) (need False (ovl f.2.1.length O)[(k : Int).toNat]? fun y8 => c49 y8 (k' : Int) fun z9 => br z9 (kk true f m (k : Int) (i : Int) (ovl f.2.1.length O) (enc S))
        (c49 (enc S) (k : Int) (fun z => kk (!z) f m (k : Int) (i : Int) (ovl f.2.1.length O) (enc S)))) False := fun q => by
      rw [Int.toNat_natCast]
      refine brD (by omega) (needS (ovl_get hk) (c49_ok (by omega) (brB (fun w => h1 (iff.2 ?_)) fun w => last (fun w => q w.1) fun hr w2 => ?_)))
      · by_cases hr : Rc f (-1) k
        · exact .inr (.inr ⟨q, (hD.over k k' hr hk').1 w⟩)
        · exact .inl hr
      · rw [(hD.over k k' hr hk').2 w2.2] at w; cases w
    refine brE (fun q => brP (fun w => h1 (iff.2 (.inr (.inl ⟨?_, ?_⟩)))) fun w => brN (fun q2 => (q2 q).elim) fun _ => last ?_ ?_) fun q => brN (fun _ => other ?_) fun q2 => (q q2).elim
    · exact Int.ofNat_inj.1 q
    · exact Int.ofNat_le.1 w
    · exact fun z => w (Int.ofNat_le.2 z.2)
    · exact fun _ z => z.1 (Int.ofNat_inj.1 q)
    · exact fun z => q (by rw [z])
theorem l40r12_ok {f : FU} {m : MP} (hf : FOk f m) {O : BF} {S : Nat → Bool} (hD : Dn f O S) {k i : Nat} (hk : k < f.2.1.length) {l : List Int} (hl : l.length ≤ maxLen) {s1 : List BK} {s2 s3 s5 s6 : Int} {s4 : List IN} {b : BK} {k1 : Int → FU → MP → Prop} {k2 : List BK → Int → Int → List IN → Int → Int → FU → MP → List (List Int) → List Int → BK → Int → Int → Prop}
    (h1 : (∀ v ∈ l, Us f v k i) → k2 s1 s2 s3 s4 s5 s6 f m (ovl f.2.1.length O) (enc S) b (i : Int) (k : Int)) (h2 : (¬ ∀ v ∈ l, Us f v k i) → k1 6 f m) :
    l40r12 k1 k2 s1 s2 s3 s4 s5 s6 l (l.length : Int) 0 f m (ovl f.2.1.length O) (enc S) b (i : Int) (k : Int) := by
  have hm := hml
  constructor
  intro I hI
  refine allInd (N := l.length) (p := fun j => ∀ h : j < l.length, Us f l[j] k i) (M := fun j => I s1 s2 s3 s4 s5 s6 l (l.length : Int) (j : Int) f m (ovl f.2.1.length O) (enc S) b (i : Int) (k : Int)) (fun h => hI _ _ _ _ _ _ _ _ _ _ _ _ _ _ _ _ (brDn (by omega) (h1 fun v hv => ?_))) fun j hj hlt ih => hI _ _ _ _ _ _ _ _ _ _ _ _ _ _ _ _ ?_
  · obtain ⟨j, hj, rfl⟩ := List.mem_iff_getElem.1 hv
    exact h j hj hj
  · refine brD (by omega) (needAt hj (c48_ok hf hD hk (fun q => brF rfl ?_) fun q => brT rfl (h2 fun w => q (w _ (List.getElem_mem hj)))))
    show I s1 s2 s3 s4 s5 s6 l (l.length : Int) (IntKind.wrap .i64 ((j : Int) + 1)) f m _ _ b _ _
    rw [wrapS (n := j) (by omega)]
    exact ih fun _ => q
theorem l40r8_ok {f : FU} {m : MP} (hf : FOk f m) {O : BF} {S : Nat → Bool} (hD : Dn f O S) {k : Nat} (hk : k < f.2.1.length) {l : List IN} (hl : l.length ≤ maxLen) (ha : ∀ x ∈ l, x.2.2.2.1.length ≤ maxLen) {s1 : List BK} {s2 s3 s12 : Int} {b : BK} {k1 : Int → FU → MP → Prop} {k2 : List BK → Int → Int → FU → MP → List (List Int) → List Int → BK → Int → Int → Prop}
    (h1 : (∀ j x, l[j]? = some x → ∀ v ∈ x.2.2.2.1, Us f v k j) → ∀ s12, k2 s1 s2 s3 f m (ovl f.2.1.length O) (enc S) b s12 (k : Int)) (h2 : (¬ ∀ j x, l[j]? = some x → ∀ v ∈ x.2.2.2.1, Us f v k j) → k1 6 f m) :
    l40r8 k1 k2 s1 s2 s3 l (l.length : Int) 0 f m (ovl f.2.1.length O) (enc S) b s12 (k : Int) := by
  have hm := hml
  constructor
  intro I hI
  refine allInd (N := l.length) (p := fun j => ∀ h : j < l.length, ∀ v ∈ l[j].2.2.2.1, Us f v k j) (M := fun j => ∀ s12, I s1 s2 s3 l (l.length : Int) (j : Int) f m (ovl f.2.1.length O) (enc S) b s12 (k : Int)) (fun h s12 => hI _ _ _ _ _ _ _ _ _ _ _ _ _ (brDn (by omega) (h1 (fun j x hj => ?_) _))) (fun j hj hlt ih s12 => hI _ _ _ _ _ _ _ _ _ _ _ _ _ ?_) s12
  · obtain ⟨w, rfl⟩ := List.getElem?_eq_some_iff.1 hj
    exact h j w w
  · refine brD (by omega) (needAt hj (l40r12_ok hf hD hk (ha _ (List.getElem_mem hj)) (fun q => ?_) fun q => h2 fun w => q (w j _ (List.getElem?_eq_getElem hj))))
    show I s1 s2 s3 l (l.length : Int) (IntKind.wrap .i64 ((j : Int) + 1)) f m _ _ b _ _
    rw [wrapS (n := j) (by omega)]
    exact ih (fun _ => q) _
theorem l50r7_ok {f : FU} {m : MP} (hf : FOk f m) {O : BF} {S : Nat → Bool} (hD : Dn f O S) {k i : Nat} (hk : k < f.2.1.length) {l : List Int} (hl : l.length ≤ maxLen) {s1 : List ED} {s2 s3 : Int} {k1 : Bool → FU → MP → Int → Int → List (List Int) → List Int → Prop} {k2 : List ED → Int → Int → FU → MP → Int → Int → List (List Int) → List Int → Prop}
    (h1 : (∀ v ∈ l, Us f v k i) → k2 s1 s2 s3 f m (k : Int) (i : Int) (ovl f.2.1.length O) (enc S)) (h2 : (¬ ∀ v ∈ l, Us f v k i) → k1 false f m (k : Int) (i : Int) (ovl f.2.1.length O) (enc S)) :
    l50r7 k1 k2 s1 s2 s3 l (l.length : Int) 0 f m (k : Int) (i : Int) (ovl f.2.1.length O) (enc S) := by
  have hm := hml
  constructor
  intro I hI
  refine allInd (N := l.length) (p := fun j => ∀ h : j < l.length, Us f l[j] k i) (M := fun j => I s1 s2 s3 l (l.length : Int) (j : Int) f m (k : Int) (i : Int) (ovl f.2.1.length O) (enc S)) (fun h => hI _ _ _ _ _ _ _ _ _ _ _ _ (brDn (by omega) (h1 fun v hv => ?_))) fun j hj hlt ih => hI _ _ _ _ _ _ _ _ _ _ _ _ ?_
  · obtain ⟨j, hj, rfl⟩ := List.mem_iff_getElem.1 hv
    exact h j hj hj
  · refine brD (by omega) (needAt hj (c48_ok hf hD hk (fun q => brF rfl ?_) fun q => brT rfl (h2 fun w => q (w _ (List.getElem_mem hj)))))
    show I s1 s2 s3 l (l.length : Int) (IntKind.wrap .i64 ((j : Int) + 1)) f m _ _ _ _
    rw [wrapS (n := j) (by omega)]
    exact ih fun _ => q
theorem l50r4_ok {f : FU} {m : MP} (hf : FOk f m) {O : BF} {S : Nat → Bool} (hD : Dn f O S) {k i : Nat} (hk : k < f.2.1.length) {l : List ED} (hl : l.length ≤ maxLen) (ha : ∀ e ∈ l, e.2.1.length ≤ maxLen) {k1 : Bool → FU → MP → Int → Int → List (List Int) → List Int → Prop} {k2 : FU → MP → Int → Int → List (List Int) → List Int → Prop}
    (h1 : (∀ e ∈ l, ∀ v ∈ e.2.1, Us f v k i) → k2 f m (k : Int) (i : Int) (ovl f.2.1.length O) (enc S)) (h2 : (¬ ∀ e ∈ l, ∀ v ∈ e.2.1, Us f v k i) → k1 false f m (k : Int) (i : Int) (ovl f.2.1.length O) (enc S)) :
    l50r4 k1 k2 l (l.length : Int) 0 f m (k : Int) (i : Int) (ovl f.2.1.length O) (enc S) := by
  have hm := hml
  constructor
  intro I hI
  refine allInd (N := l.length) (p := fun j => ∀ h : j < l.length, ∀ v ∈ l[j].2.1, Us f v k i) (M := fun j => I l (l.length : Int) (j : Int) f m (k : Int) (i : Int) (ovl f.2.1.length O) (enc S)) (fun h => hI _ _ _ _ _ _ _ _ _ (brDn (by omega) (h1 fun e he => ?_))) fun j hj hlt ih => hI _ _ _ _ _ _ _ _ _ ?_
  · obtain ⟨j, hj, rfl⟩ := List.mem_iff_getElem.1 he
    exact h j hj hj
  · refine brD (by omega) (needAt hj (l50r7_ok hf hD hk (ha _ (List.getElem_mem hj)) (fun q => ?_) fun q => h2 fun w => q (w _ (List.getElem_mem hj))))
    show I l (l.length : Int) (IntKind.wrap .i64 ((j : Int) + 1)) f m _ _ _ _
    rw [wrapS (n := j) (by omega)]
    exact ih fun _ => q
def opr (t : TM) : List Int := (if t.1 = 0 ∨ t.1 = 2 ∨ t.1 = 3 then [t.2.1] else []) ++ t.2.2.2.2.1.flatMap fun e => e.2.1
theorem mem_opr {t : TM} {v : Int} : v ∈ opr t ↔ ((t.1 = 0 ∨ t.1 = 2 ∨ t.1 = 3) ∧ v = t.2.1) ∨ ∃ e ∈ t.2.2.2.2.1, v ∈ e.2.1 := by
  unfold opr
  rw [List.mem_append, List.mem_flatMap]
  refine or_congr ?_ Iff.rfl
  split
  · rename_i e; simp [e]
  · rename_i e; simp [e]
theorem shp_kind {t : TM} (h : shpP t) : (t.1 ≠ 1 ∧ t.1 ≠ 4) ↔ (t.1 = 0 ∨ t.1 = 2 ∨ t.1 = 3) := by
  have : t.1 = 0 ∨ t.1 = 1 ∨ t.1 = 2 ∨ t.1 = 3 ∨ t.1 = 4 := by
    rcases h with ⟨h, _⟩ | ⟨h, _⟩ | ⟨h, _⟩ | ⟨h, _⟩ | ⟨h, _⟩ <;> simp [h]
  omega
theorem c50_ok {f : FU} {m : MP} (hf : FOk f m) {O : BF} {S : Nat → Bool} (hD : Dn f O S) {k i : Nat} (hk : k < f.2.1.length) {t : TM} (hs : shpP t) (hl : t.2.2.2.2.1.length ≤ maxLen) (ha : ∀ e ∈ t.2.2.2.2.1, e.2.1.length ≤ maxLen) {kk : Bool → FU → MP → Int → Int → List (List Int) → List Int → Prop}
    (h1 : (∀ v ∈ opr t, Us f v k i) → kk true f m (k : Int) (i : Int) (ovl f.2.1.length O) (enc S)) (h2 : (¬ ∀ v ∈ opr t, Us f v k i) → kk false f m (k : Int) (i : Int) (ovl f.2.1.length O) (enc S)) : c50 t f m (k : Int) (i : Int) (ovl f.2.1.length O) (enc S) kk := by
  have hk2 := shp_kind hs
  have go : ((t.1 = 0 ∨ t.1 = 2 ∨ t.1 = 3) → Us f t.2.1 k i) → l50r4 (fun z15 z16 z17 z18 z19 z20 z21 => kk z15 z16 z17 z18 z19 z20 z21) (fun z22 z23 z24 z25 z26 z27 => kk true z22 z23 z24 z25 z26 z27) t.2.2.2.2.1 ((t.2.2.2.2.1.length : Nat) : Int) 0 f m (k : Int) (i : Int) (ovl f.2.1.length O) (enc S) := fun hA =>
    l50r4_ok hf hD hk hl ha (fun q => h1 fun v hv => by
      rcases mem_opr.1 hv with ⟨w, rfl⟩ | ⟨e, he, w⟩
      · exact hA w
      · exact q e he v w) fun q => h2 fun w => q fun e he v hv => w v (mem_opr.2 (.inr ⟨e, he, hv⟩))
  constructor
  refine brN (fun e1 => brN (fun e2 => ?_) fun e2 => go fun w => by omega) fun e1 => go fun w => by omega
  refine c48_ok hf hD hk (fun q => brF rfl (go fun _ => q)) fun q => brT rfl (h2 fun w => q (w _ (mem_opr.2 (.inl ⟨hk2.1 ⟨e1, e2⟩, rfl⟩))))
def UOk (f : FU) (k : Nat) (b : BK) : Prop := (∀ j x, b.2.1[j]? = some x → ∀ v ∈ x.2.2.2.1, Us f v k j) ∧ ∀ v ∈ opr b.2.2.1, Us f v k b.2.1.length
def AllU (f : FU) : Prop := ∀ k b, f.2.1[k]? = some b → UOk f k b
theorem l40r3_ok {f : FU} {m : MP} (hf : FOk f m) (hz : Szu f) {O : BF} {S : Nat → Bool} (hD : Dn f O S) {k1 : Int → FU → MP → Prop} {k2 : FU → MP → Prop} (h1 : AllU f → k2 f m) (h2 : ¬ AllU f → k1 6 f m) :
    l40r3 k1 k2 f.2.1 (f.2.1.length : Int) 0 f m (ovl f.2.1.length O) (enc S) := by
  have hn := hf.le
  constructor
  intro I hI
  refine allInd (N := f.2.1.length) (p := fun k => ∀ h : k < f.2.1.length, UOk f k f.2.1[k]) (M := fun k => I f.2.1 (f.2.1.length : Int) (k : Int) f m (ovl f.2.1.length O) (enc S)) (fun h => hI _ _ _ _ _ _ _ (brDn (by omega) (h1 fun k b hb => ?_))) fun k hk hlt ih => hI _ _ _ _ _ _ _ ?_
  · obtain ⟨w, rfl⟩ := List.getElem?_eq_some_iff.1 hb
    exact h k w w
  · have hb := List.getElem_mem hk
    have hg := List.getElem?_eq_getElem hk
    refine brD (by omega) (needAt hk (l40r8_ok hf hD hk (hz.ins _ hb) (hz.args _ hb) (fun q s => ?_) fun q => h2 fun w => q (w k _ hg).1))
    refine c50_ok hf hD hk (hf.shp _ hb) (hz.to _ hb) (hz.edg _ hb) (fun q2 => brF rfl ?_) fun q2 => brT rfl (h2 fun w => q2 (w k _ hg).2)
    show I f.2.1 (f.2.1.length : Int) (IntKind.wrap .i64 ((k : Int) + 1)) f m _ _
    rw [wrapS (n := k) (by omega)]
    exact ih fun _ => ⟨q, q2⟩
theorem c40_ok {f : FU} {m : MP} (hf : FOk f m) (hz : Szu f) {k : Int → FU → MP → Prop} (h1 : AllU f → k 0 f m) (h2 : ¬ AllU f → k 6 f m) : c40 f m k := by
  constructor
  exact c47_ok hf hz fun O S hD => l40r3_ok hf hz hD h1 h2
open Classical in
noncomputable def fErr (f : FU) : Int :=
  if f.2.1.length = 0 then 3 else if 128 < f.2.1.length then 2 else if 1024 < manyI 0 f.2.1 then 2 else if 6 < parN f.2.1 0 then 2 else if ¬ (-1 ≤ f.1 ∧ f.1 ≤ 1048575) then 4 else
  if (shpE f 0 f.2.1 []).1 ≠ 0 then (shpE f 0 f.2.1 []).1 else if AllU f then 0 else 6
theorem c30_ok {f : FU} (hz : Szu f) {k : Int → Prop} (h : k (fErr f)) : c30 f k := by
  constructor
  refine l30r3_ok hz.bl (brE (fun e => ?_) fun e => brP (fun e1 => ?_) fun e1 => brP (fun e2 => ?_) fun e2 => needAt (i := 0) (by omega) (brP (fun e3 => ?_) fun e3 => c38_if (fun e4 => brF rfl ?_) fun e4 => brT rfl ?_))
  · rw [fErr, if_pos (by omega)] at h; exact h
  · rw [fErr, if_neg (by omega), if_pos (by omega)] at h; exact h
  · rw [fErr, if_neg (by omega), if_neg (by omega), if_pos (by omega)] at h; exact h
  · rw [fErr, if_neg (by omega), if_neg (by omega), if_neg (by omega), if_pos (by rw [parN_at (by omega)]; omega)] at h; exact h
  · rw [fErr, if_neg (by omega), if_neg (by omega), if_neg (by omega), if_neg (by rw [parN_at (by omega)]; omega), if_neg (fun w => w e4)] at h
    refine l30r15_ok hz (by omega) (fun q => ?_) fun q => ?_
    · rw [if_pos q] at h; exact h
    · rw [if_neg (fun w => w q)] at h
      refine c40_ok (fok_of (by omega) (by omega) q) hz (fun w => ?_) fun w => ?_
      · rw [if_pos w] at h; exact h
      · rw [if_neg w] at h; exact h
  · rw [fErr, if_neg (by omega), if_neg (by omega), if_neg (by omega), if_neg (by rw [parN_at (by omega)]; omega), if_pos e4] at h; exact h
def Tr (s : List Bool) (r : Nat) : Prop := s[r]? = some true
theorem tr_set {s : List Bool} {i r : Nat} {v : Bool} (hi : i < s.length) : Tr (s.set i v) r ↔ (r = i ∧ v = true) ∨ (r ≠ i ∧ Tr s r) := by
  unfold Tr
  by_cases e : r = i
  · subst e; rw [List.getElem?_set_self hi]; simp
  · rw [List.getElem?_set_ne (fun h => e h.symm)]; simp [e]
theorem tr_get {s : List Bool} {r : Nat} (hr : r < s.length) : Tr s r ↔ s[r] = true := by
  unfold Tr
  rw [List.getElem?_eq_getElem hr]
  exact ⟨fun q => Option.some.inj q, fun q => by rw [q]⟩
theorem tr_lt {s : List Bool} {r : Nat} (h : Tr s r) : r < s.length := (List.getElem?_eq_some_iff.1 h).1
theorem cnt_eq : ∀ {s s' : List Bool}, s.length = s'.length → (∀ j, Tr s j → Tr s' j) → s.count true ≤ s'.count true ∧ (s'.count true ≤ s.count true → s' = s)
  | [], [], _, _ => ⟨Nat.le_refl _, fun _ => rfl⟩
  | a :: s, b :: s', hl, h => by
    obtain ⟨h1, h2⟩ := cnt_eq (s := s) (s' := s') (by simpa using hl) fun j hj => h (j + 1) hj
    have h0 : a = true → b = true := fun e => by
      have := h 0 (by unfold Tr; rw [e]; rfl)
      exact Option.some.inj this
    rw [List.count_cons, List.count_cons]
    cases a with
    | true =>
      rw [h0 rfl]
      exact ⟨by omega, fun w => by rw [h2 (by omega)]⟩
    | false =>
      cases b with
      | true => exact ⟨by simp; omega, fun w => by simp at w; omega⟩
      | false => exact ⟨by omega, fun w => by rw [h2 (by omega)]⟩
theorem Rc.no {f : FU} {j : Nat} (h : Rc f 0 j) : False := by
  induction h with
  | z w => exact w rfl
  | s _ _ _ ih => exact ih
structure Rs (f : FU) (w : Int) (s : List Bool) : Prop where
  len : s.length = f.2.1.length
  s0 : Tr s 0
  snd : ∀ j, Tr s j → Rc f w j
theorem l15r11_ok {f : FU} {m : MP} (hf : FOk f m) {w : Int} {k : Nat} {b : BK} (hb : f.2.1[k]? = some b) (hl : (tos b).length ≤ maxLen) {s3 s4 s6 s7 : Int} {s5 : List BK} {k1 : Int → Int → Int → List BK → Int → Int → FU → List Bool → Prop} {s : List Bool} (hs : Rs f w s)
    (h : ∀ s', Rs f w s' → (∀ j, Tr s j → Tr s' j) → (Tr s k → ∀ e ∈ tos b, e.1 ≠ w → Tr s' e.1.toNat) → k1 w s3 s4 s5 s6 s7 f s') :
    l15r11 k1 w (k : Int) s3 s4 s5 s6 s7 (tos b) ((tos b).length : Int) 0 f s := by
  have hm := hml
  have hn := hf.le
  have hkl := (List.getElem?_eq_some_iff.1 hb).1
  constructor
  intro I hI
  have key := dropInd (l := tos b) (M := fun i r => ∀ s, Rs f w s → (∀ s', Rs f w s' → (∀ j, Tr s j → Tr s' j) → (Tr s k → ∀ e ∈ r, e.1 ≠ w → Tr s' e.1.toNat) → k1 w s3 s4 s5 s6 s7 f s') → I w (k : Int) s3 s4 s5 s6 s7 (tos b) ((tos b).length : Int) (i : Int) f s)
    (fun s hs h => hI _ _ _ _ _ _ _ _ _ _ _ _ (brDn (by omega) (h s hs (fun _ q => q) fun _ e he => by cases he)))
    (fun i hi ih s hs h => by
      apply hI
      have hx : (tos b)[i] ∈ tos b := List.getElem_mem hi
      obtain ⟨q1, q2, _⟩ := hf.edg b (List.mem_of_getElem? hb) _ hx
      obtain ⟨e, he⟩ := Int.eq_ofNat_of_zero_le (show 0 ≤ ((tos b)[i]).1 by omega)
      have hel : e < f.2.1.length := by omega
      have hsl := hs.len
      have hT : Tr s k ↔ s[k]'(by omega) = true := tr_get (by omega)
      rw [wrapS (n := i) (by omega), wrap64 (a := ((f.2.1.length : Nat) : Int) - 1) (by omega) (by omega)]
      refine brD (by omega) (needAt hi ?_)
      rw [he, Int.toNat_natCast, Int.toNat_natCast]
      refine brD (by omega) (needNth (by omega) (brB (fun t => brN (fun ne => c13_if (fun _ => brT rfl (brD (by omega) (needNth (by omega) ?_))) fun w2 => (w2 ⟨by omega, by omega⟩).elim) fun ne => ?_) fun t => ?_))
      · refine ih _ ⟨by simp [hsl], (tr_set (by omega)).2 (.inr ⟨by omega, hs.s0⟩), fun j hj => ?_⟩ fun s' h1 h2 h3 => h s' h1 (fun j hj => h2 j ?_) fun tk x hx' hxw => ?_
        · rcases (tr_set (by omega)).1 hj with ⟨rfl, _⟩ | ⟨_, q⟩
          · exact .s (hs.snd k (hT.2 t)) ⟨b, hb, _, hx, he⟩ ne
          · exact hs.snd j q
        · by_cases q : j = e
          · exact (tr_set (by omega)).2 (.inl ⟨q, rfl⟩)
          · exact (tr_set (by omega)).2 (.inr ⟨q, hj⟩)
        · rcases List.mem_cons.1 hx' with rfl | hx'
          · rw [he, Int.toNat_natCast]; exact h2 e ((tr_set (by omega)).2 (.inl ⟨rfl, rfl⟩))
          · refine h3 ?_ x hx' hxw
            by_cases q : k = e
            · exact (tr_set (by omega)).2 (.inl ⟨q, rfl⟩)
            · exact (tr_set (by omega)).2 (.inr ⟨q, tk⟩)
      · refine ih s hs fun s' h1 h2 h3 => h s' h1 h2 fun tk x hx' hxw => ?_
        rcases List.mem_cons.1 hx' with rfl | hx'
        · exact (hxw (he.trans ne)).elim
        · exact h3 tk x hx' hxw
      · exact ih s hs fun s' h1 h2 h3 => h s' h1 h2 fun tk => by rw [hT.1 tk] at t; cases t)
  exact key s hs h
theorem l15r8_ok {f : FU} {m : MP} (hf : FOk f m) (hz : Szu f) {w : Int} {s2 s3 : Int} {k1 : Int → Int → Int → FU → List Bool → Prop} {s : List Bool} (hs : Rs f w s)
    (h : ∀ s', Rs f w s' → (∀ j, Tr s j → Tr s' j) → (∀ k j, Tr s k → Eg f k j → (j : Int) ≠ w → Tr s' j) → k1 w s2 s3 f s') : l15r8 k1 w s2 s3 f.2.1 (f.2.1.length : Int) 0 f s := by
  have hn := hf.le
  constructor
  intro I hI
  have key := upInd (N := f.2.1.length) (M := fun i => ∀ s, Rs f w s → (∀ s', Rs f w s' → (∀ j, Tr s j → Tr s' j) → (∀ k j, i ≤ k → Tr s k → Eg f k j → (j : Int) ≠ w → Tr s' j) → k1 w s2 s3 f s') → I w s2 s3 f.2.1 (f.2.1.length : Int) (i : Int) f s)
    (fun s hs h => hI _ _ _ _ _ _ _ _ (brDn (by omega) (h s hs (fun _ q => q) fun k j q _ e _ => by have := (e.lt hf).1; omega)))
    (fun i hi ih s hs h => by
      apply hI
      have hb := List.getElem?_eq_getElem hi
      refine brD (by omega) (needAt hi (l15r11_ok (b := f.2.1[i]) hf hb (hz.to _ (List.getElem_mem hi)) hs fun s' h1 h2 h3 => ?_))
      show I w s2 s3 f.2.1 (f.2.1.length : Int) (IntKind.wrap .i64 ((i : Int) + 1)) f s'
      rw [wrapS (n := i) (by omega)]
      refine ih s' h1 fun s2 g1 g2 g3 => h s2 g1 (fun j q => g2 j (h2 j q)) fun k j q1 q2 q3 q4 => ?_
      by_cases q : k = i
      · subst q
        obtain ⟨b', w1, e, w2, w3⟩ := q3
        rw [hb] at w1
        obtain rfl := Option.some.inj w1
        have := h3 q2 e w2 (by rw [w3]; exact q4)
        rw [w3, Int.toNat_natCast] at this
        exact g2 j this
      · exact g3 k j (by omega) (h2 k q2) q3 q4)
    0 (Nat.zero_le _)
  exact key s hs fun s' h1 h2 h3 => h s' h1 h2 fun k j q => h3 k j (Nat.zero_le _) q
theorem l15r6_ok {f : FU} {m : MP} (hf : FOk f m) (hz : Szu f) {w : Int} {k1 : List Bool → Prop} {s : List Bool} (hs : Rs f w s) (h : ∀ s', s'.length = f.2.1.length → (∀ j, Tr s' j ↔ Rc f w j) → k1 s') : l15r6 k1 w (f.2.1.length : Int) 0 f s := by
  have hn := hf.le
  constructor
  intro I hI
  have key := upInd (N := f.2.1.length) (M := fun r => ∀ s, Rs f w s → ((∀ j, Rc f w j → Tr s j) ∨ r + 1 ≤ s.count true) → I w (f.2.1.length : Int) (r : Int) f s)
    (fun s hs q => hI _ _ _ _ _ (brDn (by omega) (h s hs.len fun j => ⟨hs.snd j, fun w2 => by
      rcases q with q | q
      · exact q j w2
      · have := List.count_le_length (a := true) (l := s)
        have := hs.len
        omega⟩)))
    (fun r hr ih s hs q => by
      apply hI
      refine brD (by omega) (l15r8_ok hf hz hs fun s' h1 h2 h3 => ?_)
      show I w (f.2.1.length : Int) (IntKind.wrap .i64 ((r : Int) + 1)) f s'
      rw [wrapS (n := r) (by omega)]
      refine ih s' h1 ?_
      rcases q with q | q
      · exact .inl fun j w2 => h2 j (q j w2)
      · obtain ⟨c1, c2⟩ := cnt_eq (s := s) (s' := s') (by rw [hs.len, h1.len]) h2
        by_cases c900 : s'.count true ≤ s.count true
        · refine .inl fun j w2 => ?_
          have e := c2 c900
          induction w2 with
          | z _ => exact h1.s0
          | s _ e1 e2 ih => exact h3 _ _ (by rw [← e]; exact ih) e1 e2
        · exact .inr (by omega))
    0 (Nat.zero_le _)
  refine key s hs (.inr ?_)
  have : true ∈ s := List.mem_of_getElem? hs.s0
  exact List.count_pos_iff.2 this
theorem c15_ok {f : FU} {m : MP} (hf : FOk f m) (hz : Szu f) {w : Int} {k : List Bool → Prop} (h : ∀ s', s'.length = f.2.1.length → (∀ j, Tr s' j ↔ Rc f w j) → k s') : c15 f w k := by
  have hn := hf.le
  have hp := hf.pos
  have hrl : (List.replicate (Int.toNat ((f.2.1.length : Nat) : Int)) false).length = f.2.1.length := by simp
  have hrt : ∀ j, ¬ Tr (List.replicate (Int.toNat ((f.2.1.length : Nat) : Int)) false) j := fun j q => by
    unfold Tr at q
    rw [List.getElem?_replicate] at q
    split at q <;> cases q
  constructor
  refine brD (by omega) (brE (fun e => h _ hrl fun j => ⟨fun q => (hrt j q).elim, fun q => by rw [e] at q; exact q.no.elim⟩) fun e => brE (fun e2 => absurd e2 (by omega)) fun _ => brD (by rw [hrl]; omega) (needNth (by rw [hrl]; omega) ?_))
  refine l15r6_ok hf hz ⟨by rw [List.length_set, hrl], (tr_set (by rw [hrl]; omega)).2 (.inl ⟨rfl, rfl⟩), fun j hj => ?_⟩ h
  rcases (tr_set (by rw [hrl]; omega)).1 hj with ⟨rfl, _⟩ | ⟨_, q⟩
  · exact .z e
  · exact (hrt j q).elim
theorem c29_ok {f : FU} {m : MP} (hf : FOk f m) (hz : Szu f) {a b : Nat} (hb : b < f.2.1.length) {k : Bool → Prop} (h1 : ¬ Rc f (a : Int) b → k true) (h2 : Rc f (a : Int) b → k false) : c29 f (a : Int) (b : Int) k := by
  constructor
  refine brE (fun e => h1 fun w => w.ne e.symm) fun e => c15_ok hf hz fun s hl hs => ?_
  rw [Int.toNat_natCast]
  refine brD (by omega) (needNth (by omega) ?_)
  have hT := tr_get (s := s) (r := b) (by omega)
  cases hv : s[b]'(by omega) with
  | true => exact h2 ((hs b).1 (hT.2 hv))
  | false => exact h1 fun w => by rw [hT.1 ((hs b).2 w)] at hv; cases hv
def Hr (f : FU) (v : Int) (k i n : Nat) : Prop := ∃ i', Df f v n i' ∧ (n ≠ k ∨ i' ≤ i ∨ ¬ Rc f (-1) k)
theorem us_iff {f : FU} {v : Int} {k i : Nat} : Us f v k i ↔ ∃ n, Hr f v k i n ∧ (¬ Rc f (-1) k ∨ ¬ Rc f (n : Int) k) := by
  constructor
  · rintro ⟨n, i', hd, h | ⟨rfl, h⟩ | ⟨h, h2⟩⟩
    · exact ⟨n, ⟨i', hd, .inr (.inr h)⟩, .inl h⟩
    · exact ⟨n, ⟨i', hd, .inr (.inl h)⟩, .inr fun w => w.ne rfl⟩
    · exact ⟨n, ⟨i', hd, .inl h⟩, .inr h2⟩
  · rintro ⟨n, ⟨i', hd, h⟩, h2⟩
    by_cases hr : Rc f (-1) k
    · rcases h2 with h2 | h2
      · exact (h2 hr).elim
      · by_cases e : n = k
        · subst e
          rcases h with h | h | h
          · exact (h rfl).elim
          · exact ⟨n, i', hd, .inr (.inl ⟨rfl, h⟩)⟩
          · exact (h hr).elim
        · exact ⟨n, i', hd, .inr (.inr ⟨e, h2⟩)⟩
    · exact ⟨n, i', hd, .inl hr⟩
theorem l16r6_ok {f : FU} {v : Int} {k i n : Nat} {s : List Bool} (hk : k < s.length) (hs : ∀ j, Tr s j ↔ Rc f (-1) j) {l : List IN} (hl : l.length ≤ maxLen) {s7 : List BK} {s8 s9 : Int} {k1 : Int → Int → Int → List Bool → Int → Bool → List BK → Int → Int → FU → Prop} {h0 : Bool}
    (h : ∀ b : Bool, (b = true ↔ h0 = true ∨ ∃ j x, l[j]? = some x ∧ x.1 = v ∧ (n ≠ k ∨ j < i ∨ ¬ Rc f (-1) k)) → k1 v (k : Int) (i : Int) s (n : Int) b s7 s8 s9 f) :
    l16r6 k1 v (k : Int) (i : Int) s (n : Int) h0 s7 s8 s9 l (l.length : Int) 0 f := by
  have hm := hml
  constructor
  intro I hI
  have key := upInd (N := l.length) (M := fun a => ∀ b : Bool, (b = true ↔ h0 = true ∨ ∃ j x, j < a ∧ l[j]? = some x ∧ x.1 = v ∧ (n ≠ k ∨ j < i ∨ ¬ Rc f (-1) k)) → I v (k : Int) (i : Int) s (n : Int) b s7 s8 s9 l (l.length : Int) (a : Int) f)
    (fun b hb => hI _ _ _ _ _ _ _ _ _ _ _ _ _ (brDn (by omega) (h b (hb.trans (or_congr Iff.rfl ⟨fun ⟨j, x, _, q⟩ => ⟨j, x, q⟩, fun ⟨j, x, q⟩ => ⟨j, x, (List.getElem?_eq_some_iff.1 q.1).1, q⟩⟩)))))
    (fun a ha ih b hb => by
      apply hI
      have hga := List.getElem?_eq_getElem ha
      have old : ∀ {x : Prop}, (b = true → x) → (h0 = true ∨ ∃ j x, j < a ∧ l[j]? = some x ∧ x.1 = v ∧ (n ≠ k ∨ j < i ∨ ¬ Rc f (-1) k)) → x := fun q w => q (hb.2 w)
      have up : (h0 = true ∨ ∃ j x, j < a ∧ l[j]? = some x ∧ x.1 = v ∧ (n ≠ k ∨ j < i ∨ ¬ Rc f (-1) k)) → (h0 = true ∨ ∃ j x, j < a + 1 ∧ l[j]? = some x ∧ x.1 = v ∧ (n ≠ k ∨ j < i ∨ ¬ Rc f (-1) k)) := Or.imp id fun ⟨j, x, q, w⟩ => ⟨j, x, by omega, w⟩
      have yes : (l[a].1 = v ∧ (n ≠ k ∨ a < i ∨ ¬ Rc f (-1) k)) → I v (k : Int) (i : Int) s (n : Int) true s7 s8 s9 l (l.length : Int) ((a + 1 : Nat) : Int) f := fun q => ih true ⟨fun _ => .inr ⟨a, _, by omega, hga, q⟩, fun _ => rfl⟩
      have no : b = false → ¬ (l[a].1 = v ∧ (n ≠ k ∨ a < i ∨ ¬ Rc f (-1) k)) → I v (k : Int) (i : Int) s (n : Int) false s7 s8 s9 l (l.length : Int) ((a + 1 : Nat) : Int) f := fun hb0 q => ih false ⟨fun w => (by cases w), fun w => by
        rcases w with w | ⟨j, x, q1, q2, q3⟩
        · rw [hb.2 (.inl w)] at hb0; cases hb0
        · by_cases e : j = a
          · subst e
            rw [hga] at q2
            obtain rfl := Option.some.inj q2
            exact (q q3).elim
          · rw [hb.2 (.inr ⟨j, x, by omega, q2, q3⟩)] at hb0; cases hb0⟩
      have hT : Tr s k ↔ s[k] = true := tr_get hk
      rw [wrapS (n := a) (by omega)]
      refine brD (by omega) (needAt ha (brB (fun q => ih true ⟨fun _ => up (hb.1 q), fun _ => rfl⟩) fun q => brE (fun e => brN (fun e2 => yes ⟨e, .inl (by omega)⟩) fun e2 => brP (fun e3 => yes ⟨e, .inr (.inl (by omega))⟩) fun e3 => needAt hk ?_) fun e => no q fun w => e w.1))
      cases hv : s[k] with
      | true =>
        refine no q ?_
        have hr := (hs k).1 (hT.2 hv)
        rintro ⟨_, w | w | w⟩
        · omega
        · omega
        · exact w hr
      | false => exact yes ⟨e, .inr (.inr fun w => by rw [hT.1 ((hs k).2 w)] at hv; cases hv)⟩)
    0 (Nat.zero_le _)
  exact key h0 ⟨fun w => .inl w, fun w => w.elim id fun ⟨j, _, q, _⟩ => absurd q (by omega)⟩
theorem l16r2_ok {f : FU} {m : MP} (hf : FOk f m) (hz : Szu f) {v : Int} {k i : Nat} (hk : k < f.2.1.length) {s : List Bool} (hsl : s.length = f.2.1.length) (hs : ∀ j, Tr s j ↔ Rc f (-1) j) {k1 : Bool → Prop} {k2 : Prop}
    (h1 : Us f v k i → k1 true) (h2 : ¬ Us f v k i → k1 false) (h3 : ¬ Us f v k i → k2) : l16r2 k1 k2 v (k : Int) (i : Int) s f.2.1 (f.2.1.length : Int) 0 f := by
  have hn := hf.le
  constructor
  intro I hI
  refine allInd (N := f.2.1.length) (p := fun n => ¬ Hr f v k i n) (M := fun n => I v (k : Int) (i : Int) s f.2.1 (f.2.1.length : Int) (n : Int) f) (fun hall => hI _ _ _ _ _ _ _ _ (brDn (by omega) (h3 fun w => ?_))) fun n hnl hlt ih => hI _ _ _ _ _ _ _ _ ?_
  · obtain ⟨n, hr, _⟩ := us_iff.1 w
    obtain ⟨i', ⟨b, hb, _⟩, _⟩ := id hr
    exact hall n (List.getElem?_eq_some_iff.1 hb).1 hr
  · have hb := List.getElem_mem hnl
    have hg := List.getElem?_eq_getElem hnl
    have hiff : ∀ b : Bool, (b = true ↔ (decide (v ∈ f.2.1[n].1) = true ∨ ∃ j x, f.2.1[n].2.1[j]? = some x ∧ x.1 = v ∧ (n ≠ k ∨ j < i ∨ ¬ Rc f (-1) k))) → (b = true ↔ Hr f v k i n) := fun b hb => by
      rw [hb, decide_eq_true_eq]
      constructor
      · rintro (w | ⟨j, x, w1, w2, w3⟩)
        · exact ⟨0, ⟨_, hg, .inl ⟨rfl, w⟩⟩, .inr (.inl (Nat.zero_le _))⟩
        · exact ⟨j + 1, ⟨_, hg, .inr ⟨j, x, rfl, w1, w2⟩⟩, w3.imp id (Or.imp id id)⟩
      · rintro ⟨i', ⟨b', w1, w2⟩, w3⟩
        rw [hg] at w1
        obtain rfl := Option.some.inj w1
        rcases w2 with ⟨_, w2⟩ | ⟨j, x, rfl, w4, w5⟩
        · exact .inl w2
        · exact .inr ⟨j, x, w4, w5, w3.imp id (Or.imp id id)⟩
    have go : ∀ h0 : Bool, h0 = decide (v ∈ f.2.1[n].1) → l16r6 (fun z11 z12 z13 z14 z15 z16 z17 z18 z19 z20 => br z16 (need False (at? z14 z12) fun y21 => br (!y21) (k1 true) (c29 z20 z15 z12 fun z => k1 z)) (I z11 z12 z13 z14 z17 z18 (IntKind.wrap .i64 (z19 + 1)) z20))
        v (k : Int) (i : Int) s (n : Int) h0 f.2.1 (f.2.1.length : Int) (n : Int) f.2.1[n].2.1 ((f.2.1[n].2.1.length : Nat) : Int) 0 f := fun h0 e0 => by
      refine l16r6_ok (by omega) hs (hz.ins _ hb) fun b hb => ?_
      rw [e0] at hb
      have hH := hiff b hb
      cases b with
      | false =>
        refine brF rfl ?_
        show I v (k : Int) (i : Int) s f.2.1 (f.2.1.length : Int) (IntKind.wrap .i64 ((n : Int) + 1)) f
        rw [wrapS (n := n) (by omega)]
        exact ih fun w => by cases hH.2 w
      | true =>
        have hHn := hH.1 rfl
        have hT : Tr s k ↔ s[k]'(by omega) = true := tr_get (by omega)
        refine brT rfl (needAt (by omega) ?_)
        cases hv : s[k]'(by omega) with
        | false => exact brT rfl (h1 (us_iff.2 ⟨n, hHn, .inl fun w => by rw [hT.1 ((hs k).2 w)] at hv; cases hv⟩))
        | true =>
          have hr := (hs k).1 (hT.2 hv)
          refine brF rfl (c29_ok hf hz hk (fun w => h1 (us_iff.2 ⟨n, hHn, .inr w⟩)) fun w => h2 fun w2 => ?_)
          obtain ⟨n', ⟨i2, d2, _⟩, q⟩ := us_iff.1 w2
          obtain ⟨i1, d1, _⟩ := hHn
          obtain ⟨rfl, _⟩ := hf.uniq d1 d2
          exact q.elim (fun q => q hr) fun q => q w
    refine brD (by omega) (needAt hnl (c24_ok (hz.par _ hb) (fun q => go true (decide_eq_true q).symm) fun q => go false (decide_eq_false q).symm))
theorem c16_ok {f : FU} {m : MP} (hf : FOk f m) (hz : Szu f) {v : Int} {k i : Nat} (hk : k < f.2.1.length) {s : List Bool} (hsl : s.length = f.2.1.length) (hs : ∀ j, Tr s j ↔ Rc f (-1) j) {kk : Bool → Prop}
    (h1 : Us f v k i → kk true) (h2 : ¬ Us f v k i → kk false) : c16 f v (k : Int) (i : Int) s kk := ⟨l16r2_ok hf hz hk hsl hs h1 h2 h2⟩
theorem l17r5_ok {l : List ED} {acc : List Int} {k : List Int → Prop} (hl : l.length ≤ 257) (ha : ∀ e ∈ l, e.2.1.length ≤ 4096) (h0 : acc.length ≤ 1) (h : k (acc ++ l.flatMap fun e => e.2.1)) : l17r5 k l (l.length : Int) 0 acc := by
  constructor
  intro I hI
  have key := dropInd (l := l) (M := fun i r => ∀ acc : List Int, acc.length ≤ 1 + i * 4096 → k (acc ++ r.flatMap fun e => e.2.1) → I l (l.length : Int) (i : Int) acc)
    (fun acc _ h => hI _ _ _ _ (brDn (by omega) (by simpa using h)))
    (fun i hi ih acc hacc h => by
      apply hI
      have hx := ha _ (List.getElem_mem hi)
      rw [List.flatMap_cons, ← List.append_assoc] at h
      rw [wrapS (n := i) (by omega)]
      refine brD (by omega) (needAt hi (brB (fun q => ?_) fun q => brT (roomS (by omega)) ?_))
      · rw [List.isEmpty_iff.1 q, List.append_nil] at h
        have hb : acc.length ≤ 1 + (i + 1) * 4096 := Nat.le_trans hacc (Nat.add_le_add_left (Nat.mul_le_mul_right _ (Nat.le_succ i)) 1)
        exact ih acc hb h
      · exact ih _ (by rw [List.length_append]; omega) h)
  exact key acc (by omega) h
theorem c17_ok {t : TM} {k : List Int → Prop} (hl : t.2.2.2.2.1.length ≤ 257) (ha : ∀ e ∈ t.2.2.2.2.1, e.2.1.length ≤ 4096) (h : k (opr t)) : c17 t k := by
  unfold opr at h
  have go : (t.1 = 0 ∨ t.1 = 2 ∨ t.1 = 3) → l17r5 (fun z => k z) t.2.2.2.2.1 ((t.2.2.2.2.1.length : Nat) : Int) 0 [t.2.1] := fun e => l17r5_ok hl ha (Nat.le_refl _) (by rw [if_pos e] at h; exact h)
  constructor
  refine brE (fun e => brT rfl (go (.inl e))) fun e => brE (fun e2 => brT rfl (go (.inr (.inl e2)))) fun e2 => brE (fun e3 => brT rfl (go (.inr (.inr e3)))) fun e3 => l17r5_ok hl ha (Nat.zero_le _) ?_
  rw [if_neg (by omega)] at h
  exact h
theorem l7r24_ok {f : FU} {m : MP} (hf : FOk f m) (hz : Szu f) {k i : Nat} (hk : k < f.2.1.length) {s : List Bool} (hsl : s.length = f.2.1.length) (hs : ∀ j, Tr s j ↔ Rc f (-1) j) {l : List Int} (hl : l.length ≤ maxLen) {s3 : List BK} {s4 s5 s7 s8 : Int} {s6 : List IN} {b : BK} {k1 : Int → Prop} {k2 : Int → List BK → Int → Int → List IN → Int → Int → FU → List Bool → BK → Prop}
    (h1 : (∀ v ∈ l, Us f v k i) → k2 (k : Int) s3 s4 s5 s6 s7 s8 f s b) (h2 : (¬ ∀ v ∈ l, Us f v k i) → k1 6) : l7r24 k1 k2 (k : Int) (i : Int) s3 s4 s5 s6 s7 s8 l (l.length : Int) 0 f s b := by
  have hm := hml
  constructor
  intro I hI
  refine allInd (N := l.length) (p := fun j => ∀ h : j < l.length, Us f l[j] k i) (M := fun j => I (k : Int) (i : Int) s3 s4 s5 s6 s7 s8 l (l.length : Int) (j : Int) f s b) (fun h => hI _ _ _ _ _ _ _ _ _ _ _ _ _ _ (brDn (by omega) (h1 fun v hv => ?_))) fun j hj hlt ih => hI _ _ _ _ _ _ _ _ _ _ _ _ _ _ ?_
  · obtain ⟨j, hj, rfl⟩ := List.mem_iff_getElem.1 hv
    exact h j hj hj
  · rw [wrapS (n := j) (by omega)]
    refine brD (by omega) (needAt hj (c16_ok hf hz hk hsl hs (fun q => brF rfl (ih fun _ => q)) fun q => brT rfl (h2 fun w => q (w _ (List.getElem_mem hj)))))
theorem l7r21_ok {f : FU} {m : MP} (hf : FOk f m) (hz : Szu f) {k : Nat} (hk : k < f.2.1.length) {s : List Bool} (hsl : s.length = f.2.1.length) (hs : ∀ j, Tr s j ↔ Rc f (-1) j) {l : List IN} (hl : l.length ≤ maxLen) (ha : ∀ x ∈ l, x.2.2.2.1.length ≤ maxLen) {s2 : List BK} {s3 s4 : Int} {b : BK} {k1 : Int → Prop} {k2 : Int → List BK → Int → Int → FU → List Bool → BK → Prop}
    (h1 : (∀ j x, l[j]? = some x → ∀ v ∈ x.2.2.2.1, Us f v k j) → k2 (k : Int) s2 s3 s4 f s b) (h2 : (¬ ∀ j x, l[j]? = some x → ∀ v ∈ x.2.2.2.1, Us f v k j) → k1 6) : l7r21 k1 k2 (k : Int) s2 s3 s4 l (l.length : Int) 0 f s b := by
  have hm := hml
  constructor
  intro I hI
  refine allInd (N := l.length) (p := fun j => ∀ h : j < l.length, ∀ v ∈ l[j].2.2.2.1, Us f v k j) (M := fun j => I (k : Int) s2 s3 s4 l (l.length : Int) (j : Int) f s b) (fun h => hI _ _ _ _ _ _ _ _ _ _ (brDn (by omega) (h1 fun j x hj => ?_))) fun j hj hlt ih => hI _ _ _ _ _ _ _ _ _ _ ?_
  · obtain ⟨w, rfl⟩ := List.getElem?_eq_some_iff.1 hj
    exact h j w w
  · refine brD (by omega) (needAt hj (l7r24_ok hf hz hk hsl hs (ha _ (List.getElem_mem hj)) (fun q => ?_) fun q => h2 fun w => q (w j _ (List.getElem?_eq_getElem hj))))
    show I (k : Int) s2 s3 s4 l (l.length : Int) (IntKind.wrap .i64 ((j : Int) + 1)) f s b
    rw [wrapS (n := j) (by omega)]
    exact ih fun _ => q
theorem l7r31_ok {f : FU} {m : MP} (hf : FOk f m) (hz : Szu f) {k : Nat} (hk : k < f.2.1.length) {s : List Bool} (hsl : s.length = f.2.1.length) (hs : ∀ j, Tr s j ↔ Rc f (-1) j) {l : List Int} (hl : l.length ≤ maxLen) {s2 : List BK} {s3 s4 : Int} {b : BK} {k1 : Int → Prop} {k2 : List BK → Int → Int → FU → List Bool → Prop}
    (h1 : (∀ v ∈ l, Us f v k b.2.1.length) → k2 s2 s3 s4 f s) (h2 : (¬ ∀ v ∈ l, Us f v k b.2.1.length) → k1 6) : l7r31 k1 k2 (k : Int) s2 s3 s4 (l.length : Int) 0 f s b l := by
  have hm := hml
  constructor
  intro I hI
  refine allInd (N := l.length) (p := fun j => ∀ h : j < l.length, Us f l[j] k b.2.1.length) (M := fun j => I (k : Int) s2 s3 s4 (l.length : Int) (j : Int) f s b l) (fun h => hI _ _ _ _ _ _ _ _ _ _ (brDn (by omega) (h1 fun v hv => ?_))) fun j hj hlt ih => hI _ _ _ _ _ _ _ _ _ _ ?_
  · obtain ⟨j, hj, rfl⟩ := List.mem_iff_getElem.1 hv
    exact h j hj hj
  · rw [wrapS (n := j) (by omega), Int.toNat_natCast]
    refine brD (by omega) (brD (by omega) (needNth hj (c16_ok hf hz hk hsl hs (fun q => brF rfl (ih fun _ => q)) fun q => brT rfl (h2 fun w => q (w _ (List.getElem_mem hj))))))
theorem edg_len {f : FU} {m : MP} (hf : FOk f m) {b : BK} (hb : b ∈ f.2.1) {e : ED} (he : e ∈ b.2.2.1.2.2.2.2.1) : e.2.1.length ≤ 4096 := by
  obtain ⟨h1, h2, h3⟩ := hf.edg b hb e he
  have hl : e.1.toNat < f.2.1.length := by omega
  rw [h3, parN_at hl]
  exact hf.pl _ (List.getElem_mem hl)
theorem opr_len {f : FU} {m : MP} (hf : FOk f m) {b : BK} (hb : b ∈ f.2.1) : (opr b.2.2.1).length ≤ 2000000 := by
  have h : ∀ l : List ED, (∀ e ∈ l, e.2.1.length ≤ 4096) → (l.flatMap fun e => e.2.1).length ≤ l.length * 4096 := by
    intro l
    induction l with
    | nil => intro _; simp
    | cons e r ih =>
      intro h
      rw [List.flatMap_cons, List.length_append, List.length_cons, Nat.add_mul]
      have h1 := h e List.mem_cons_self
      have h2 := ih fun e he => h e (List.mem_cons_of_mem _ he)
      omega
  have h1 := h b.2.2.1.2.2.2.2.1 fun e he => edg_len hf hb he
  have h2 := hf.tl b hb
  have h3 : b.2.2.1.2.2.2.2.1.length * 4096 ≤ 257 * 4096 := Nat.mul_le_mul_right _ h2
  unfold opr
  rw [List.length_append]
  split
  · rw [List.length_singleton]; omega
  · rw [List.length_nil]; omega
theorem l7r18_ok {f : FU} {m : MP} (hf : FOk f m) (hz : Szu f) {s : List Bool} (hsl : s.length = f.2.1.length) (hs : ∀ j, Tr s j ↔ Rc f (-1) j) {k1 : Int → Prop} {k2 : Prop} (h1 : AllU f → k2) (h2 : ¬ AllU f → k1 6) : l7r18 k1 k2 f.2.1 (f.2.1.length : Int) 0 f s := by
  have hn := hf.le
  have hm := hml
  constructor
  intro I hI
  refine allInd (N := f.2.1.length) (p := fun k => ∀ h : k < f.2.1.length, UOk f k f.2.1[k]) (M := fun k => I f.2.1 (f.2.1.length : Int) (k : Int) f s) (fun h => hI _ _ _ _ _ (brDn (by omega) (h1 fun k b hb => ?_))) fun k hk hlt ih => hI _ _ _ _ _ ?_
  · obtain ⟨w, rfl⟩ := List.getElem?_eq_some_iff.1 hb
    exact h k w w
  · have hb := List.getElem_mem hk
    have hg := List.getElem?_eq_getElem hk
    have hol := opr_len hf hb
    refine brD (by omega) (needAt hk (l7r21_ok hf hz hk hsl hs (hz.ins _ hb) (hz.args _ hb) (fun q => ?_) fun q => h2 fun w => q (w k _ hg).1))
    refine c17_ok (hf.tl _ hb) (fun e he => edg_len hf hb he) (l7r31_ok hf hz hk hsl hs (by omega) (fun q2 => ?_) fun q2 => h2 fun w => q2 (w k _ hg).2)
    show I f.2.1 (f.2.1.length : Int) (IntKind.wrap .i64 ((k : Int) + 1)) f s
    rw [wrapS (n := k) (by omega)]
    exact ih fun _ => ⟨q, q2⟩
theorem c7_ok {f : FU} (hz : Szu f) {k : Int → Prop} (h : k (fErr f)) : c7 f k := by
  constructor
  refine l7r3_ok hz.bl (brE (fun e => ?_) fun e => brP (fun e1 => ?_) fun e1 => brP (fun e2 => ?_) fun e2 => needAt (i := 0) (by omega) (brP (fun e3 => ?_) fun e3 => c13_if (fun e4 => brF rfl ?_) fun e4 => brT rfl ?_))
  · rw [fErr, if_pos (by omega)] at h; exact h
  · rw [fErr, if_neg (by omega), if_pos (by omega)] at h; exact h
  · rw [fErr, if_neg (by omega), if_neg (by omega), if_pos (by omega)] at h; exact h
  · rw [fErr, if_neg (by omega), if_neg (by omega), if_neg (by omega), if_pos (by rw [parN_at (by omega)]; omega)] at h; exact h
  · rw [fErr, if_neg (by omega), if_neg (by omega), if_neg (by omega), if_neg (by rw [parN_at (by omega)]; omega), if_neg (fun w => w e4)] at h
    refine c14_ok hz (by omega) (brN (fun q => ?_) fun q => ?_)
    · rw [if_pos q] at h; exact h
    · rw [if_neg (fun w => w q)] at h
      have hf := fok_of (by omega) (by omega) q
      refine c15_ok hf hz fun s hsl hs => l7r18_ok hf hz hsl hs (fun w => ?_) fun w => ?_
      · rw [if_pos w] at h; exact h
      · rw [if_neg w] at h; exact h
  · rw [fErr, if_neg (by omega), if_neg (by omega), if_neg (by omega), if_neg (by rw [parN_at (by omega)]; omega), if_pos e4] at h; exact h
theorem fErr_ok {f : FU} (h : fErr f = 0) : ∃ m, FOk f m ∧ AllU f := by
  unfold fErr at h
  by_cases e0 : f.2.1.length = 0
  · rw [if_pos e0] at h; cases h
  rw [if_neg e0] at h
  by_cases e1 : 128 < f.2.1.length
  · rw [if_pos e1] at h; cases h
  rw [if_neg e1] at h
  by_cases e2 : 1024 < manyI 0 f.2.1
  · rw [if_pos e2] at h; cases h
  rw [if_neg e2] at h
  by_cases e3 : 6 < parN f.2.1 0
  · rw [if_pos e3] at h; cases h
  rw [if_neg e3] at h
  by_cases e4 : -1 ≤ f.1 ∧ f.1 ≤ 1048575
  · rw [if_neg (fun w => w e4)] at h
    by_cases e5 : (shpE f 0 f.2.1 []).1 = 0
    · rw [if_neg (fun w => w e5)] at h
      by_cases e6 : AllU f
      · exact ⟨_, fok_of (by omega) (by omega) e5, e6⟩
      · rw [if_neg e6] at h; cases h
    · rw [if_pos e5] at h; exact (e5 h).elim
  · rw [if_pos e4] at h; cases h
def scn (v : Int) : List IN → Nat
  | [] => 0
  | x :: r => if v ∈ x.2.2.2.1 then 1 else if x.1 = v then 2 else scn v r
def parL (f : FU) (j : Nat) : List Int := match f.2.1[j]? with | some b => b.1 | none => []
theorem parL_at {f : FU} {j : Nat} (h : j < f.2.1.length) : parL f j = f.2.1[j].1 := by unfold parL; rw [List.getElem?_eq_getElem h]
def Hit (f : FU) (v : Int) (k i : Nat) : Prop := ∃ b, f.2.1[k]? = some b ∧ (scn v (b.2.1.drop i) = 1 ∨ (scn v (b.2.1.drop i) = 0 ∧ v ∈ opr b.2.2.1))
def Nx (f : FU) (v : Int) (k i j : Nat) : Prop := ∃ b, f.2.1[k]? = some b ∧ scn v (b.2.1.drop i) = 0 ∧ ∃ e ∈ tos b, e.1 = (j : Int) ∧ v ∉ parL f j
inductive Lv (f : FU) (v : Int) : Nat → Nat → Prop
  | hit {k i : Nat} : Hit f v k i → Lv f v k i
  | nx {k i j : Nat} : Nx f v k i j → Lv f v j 0 → Lv f v k i
abbrev SP := Int × Int × Unit
def It (i a : Nat) : SP := ((i : Int), (a : Int), ())
theorem It_inj {i a j b : Nat} (h : It i a = It j b) : i = j ∧ a = b := by
  unfold It at h
  simp only [Prod.mk.injEq] at h
  omega
def Pd (f : FU) (v : Int) (seen : List Bool) (i a : Nat) : Prop := ¬ Hit f v i a ∧ ∀ j, Nx f v i a j → Tr seen j
structure Sx (f : FU) (v : Int) (i0 a0 : Nat) (E : Nat → Nat → Prop) (seen : List Bool) (T : List SP) : Prop where
  len : seen.length = f.2.1.length
  ok : ∀ p ∈ T, ∃ i a : Nat, p = It i a ∧ i < f.2.1.length
  snd : ∀ i a : Nat, It i a ∈ T → Lv f v i a → Lv f v i0 a0
  cmp : ∀ j, Tr seen j → It j 0 ∈ T ∨ E j 0 ∨ Pd f v seen j 0
  st : It i0 a0 ∈ T ∨ E i0 a0 ∨ Pd f v seen i0 a0
abbrev Se (f : FU) (v : Int) (i0 a0 : Nat) := Sx f v i0 a0 (fun _ _ => False)
theorem Sx.fin {f : FU} {v : Int} {i0 a0 : Nat} {seen : List Bool} (h : Se f v i0 a0 seen []) : ¬ Lv f v i0 a0 := by
  have key : ∀ i a, Lv f v i a → ¬ Pd f v seen i a := by
    intro i a hl
    induction hl with
    | hit hh => exact fun q => q.1 hh
    | @nx k i j hn _ ih =>
      intro q
      rcases h.cmp j (q.2 j hn) with e | e | e
      · cases e
      · exact e
      · exact ih e
  rcases h.st with e | e | e
  · cases e
  · exact e.elim
  · exact fun q => key _ _ q e
theorem Sx.pop {f : FU} {v : Int} {i0 a0 i a : Nat} {seen : List Bool} {T : List SP} (h : Se f v i0 a0 seen (T ++ [It i a])) :
    Sx f v i0 a0 (fun j b => j = i ∧ b = a) seen T ∧ i < f.2.1.length ∧ (Lv f v i a → Lv f v i0 a0) := by
  refine ⟨⟨h.len, fun p hp => h.ok p (by simp [hp]), fun j b hp => h.snd j b (List.mem_append_left _ hp), fun j hj => ?_, ?_⟩, ?_, ?_⟩
  · rcases h.cmp j hj with e | e | e
    · rcases List.mem_append.1 e with e | e
      · exact .inl e
      · exact .inr (.inl (It_inj (List.mem_singleton.1 e)))
    · exact e.elim
    · exact .inr (.inr e)
  · rcases h.st with e | e | e
    · rcases List.mem_append.1 e with e | e
      · exact .inl e
      · exact .inr (.inl (It_inj (List.mem_singleton.1 e)))
    · exact e.elim
    · exact .inr (.inr e)
  · obtain ⟨i', a', e, h1⟩ := h.ok (It i a) (by simp)
    obtain ⟨rfl, rfl⟩ := It_inj e
    exact h1
  · exact h.snd i a (by simp)
theorem Sx.done {f : FU} {v : Int} {i0 a0 i a : Nat} {seen : List Bool} {T : List SP} (h : Sx f v i0 a0 (fun j b => j = i ∧ b = a) seen T) (hn : Pd f v seen i a) : Se f v i0 a0 seen T := by
  refine ⟨h.len, h.ok, h.snd, fun j hj => ?_, ?_⟩
  · rcases h.cmp j hj with e | ⟨rfl, e⟩ | e
    · exact .inl e
    · rw [e]; exact .inr (.inr hn)
    · exact .inr (.inr e)
  · rcases h.st with e | ⟨e1, e2⟩ | e
    · exact .inl e
    · rw [e1, e2]; exact .inr (.inr hn)
    · exact .inr (.inr e)
theorem Pd.mono {f : FU} {v : Int} {s s' : List Bool} {i a : Nat} (h : Pd f v s i a) (hs : ∀ j, Tr s j → Tr s' j) : Pd f v s' i a := ⟨h.1, fun j q => hs j (h.2 j q)⟩
theorem Sx.push {f : FU} {v : Int} {i0 a0 t : Nat} {E : Nat → Nat → Prop} {seen : List Bool} {T : List SP} (h : Sx f v i0 a0 E seen T) (ht : t < f.2.1.length) (hX : Lv f v t 0 → Lv f v i0 a0) : Sx f v i0 a0 E (seen.set t true) (T ++ [It t 0]) := by
  have hl : t < seen.length := by rw [h.len]; exact ht
  have hm : ∀ j, Tr seen j → Tr (seen.set t true) j := fun j q => (tr_set hl).2 (by
    by_cases e : j = t
    · exact .inl ⟨e, rfl⟩
    · exact .inr ⟨e, q⟩)
  refine ⟨by simp [h.len], fun p hp => ?_, fun i a hp => ?_, fun j hj => ?_, ?_⟩
  · rcases List.mem_append.1 hp with e | e
    · exact h.ok p e
    · exact ⟨t, 0, List.mem_singleton.1 e, ht⟩
  · rcases List.mem_append.1 hp with e | e
    · exact h.snd i a e
    · obtain ⟨rfl, rfl⟩ := It_inj (List.mem_singleton.1 e)
      exact hX
  · rcases (tr_set hl).1 hj with ⟨rfl, _⟩ | ⟨_, hj⟩
    · exact .inl (by simp)
    · rcases h.cmp j hj with e | e | e
      · exact .inl (List.mem_append_left _ e)
      · exact .inr (.inl e)
      · exact .inr (.inr (e.mono hm))
  · rcases h.st with e | e | e
    · exact .inl (List.mem_append_left _ e)
    · exact .inr (.inl e)
    · exact .inr (.inr (e.mono hm))
theorem scn_drop {v : Int} {l : List IN} {i : Nat} (h : i < l.length) : scn v (l.drop i) = if v ∈ l[i].2.2.2.1 then 1 else if l[i].1 = v then 2 else scn v (l.drop (i + 1)) := by
  rw [drop_cons h]; rfl
theorem l10r9_ok {f : FU} {v : Int} {b : BK} {i : Nat} (hl : b.2.1.length ≤ maxLen) (ha : ∀ x ∈ b.2.1, x.2.2.2.1.length ≤ maxLen) {s2 s3 s4 : Nat} {s8 : List Bool} {s9 : List SP} {k1 : Bool → Prop} {k2 : Int → Nat → Nat → Nat → Bool → FU → List Bool → List SP → BK → Prop}
    (h1 : scn v (b.2.1.drop i) = 1 → k1 true) (h2 : scn v (b.2.1.drop i) = 2 → k2 v s2 s3 s4 true f s8 s9 b) (h0 : scn v (b.2.1.drop i) = 0 → k2 v s2 s3 s4 false f s8 s9 b) : l10r9 k1 k2 v s2 s3 s4 false (i : Int) f s8 s9 b := by
  have hm := hml
  constructor
  intro I hI
  have key : ∀ d i, i + d = b.2.1.length ∨ (d = 0 ∧ b.2.1.length ≤ i) → (scn v (b.2.1.drop i) = 1 → k1 true) → (scn v (b.2.1.drop i) = 2 → k2 v s2 s3 s4 true f s8 s9 b) → (scn v (b.2.1.drop i) = 0 → k2 v s2 s3 s4 false f s8 s9 b) → I v s2 s3 s4 false (i : Int) f s8 s9 b := by
    intro d
    induction d with
    | zero =>
      intro i hd h1 h2 h0
      have : b.2.1.length ≤ i := by omega
      exact hI _ _ _ _ _ _ _ _ _ _ (brDn (by omega) (h0 (by rw [List.drop_eq_nil_of_le this]; rfl)))
    | succ d ih =>
      intro i hd h1 h2 h0
      have hil : i < b.2.1.length := by omega
      rw [scn_drop hil] at h1 h2 h0
      apply hI
      rw [wrapS (by omega)]
      refine brD (by omega) (brT rfl (needAt hil (c24_ok (ha _ (List.getElem_mem hil)) (fun q => brT rfl (h1 (by rw [if_pos q]))) fun q => brF rfl (needAt hil ?_))))
      rw [if_neg q] at h1 h2 h0
      refine beq_if (k := fun z => I v s2 s3 s4 z ((i + 1 : Nat) : Int) f s8 s9 b) (fun e => ?_) fun e => ?_
      · apply hI
        rw [if_pos e] at h2
        exact brP (fun _ => brF rfl (h2 rfl)) fun _ => h2 rfl
      · rw [if_neg e] at h1 h2 h0
        exact ih (i + 1) (by omega) h1 h2 h0
  by_cases e : i ≤ b.2.1.length
  · exact key (b.2.1.length - i) i (by omega) h1 h2 h0
  · exact key 0 i (by omega) h1 h2 h0
theorem brN' {b : Bool} {x y : Prop} (h1 : b = false → x) (h2 : b = true → y) : br (!b) x y := by cases b; exact h1 rfl; exact h2 rfl
theorem cntf_set {l : List Bool} {m : Nat} (hm : m < l.length) (h : l[m] = false) : (l.set m true).count false + 1 = l.count false := by
  have := List.count_pos_iff.2 (List.mem_iff_getElem.2 ⟨m, hm, h⟩)
  rw [List.count_set hm, h]; simp; omega
structure Ee (f : FU) (v : Int) (i0 a0 ip ap : Nat) (N : Nat) (seen : List Bool) (T : List SP) : Prop where
  sx : Sx f v i0 a0 (fun j b => j = ip ∧ b = ap) seen T
  ms : T.length + seen.count false ≤ N
theorem Ee.push {f : FU} {v : Int} {i0 a0 ip ap N : Nat} {seen : List Bool} {T : List SP} (h : Ee f v i0 a0 ip ap N seen T) {t : Nat} (ht : t < f.2.1.length) (hs : seen[t]'(by rw [h.sx.len]; exact ht) = false) (hn : Nx f v ip ap t) (hX : Lv f v ip ap → Lv f v i0 a0) :
    Ee f v i0 a0 ip ap N (seen.set t true) (T ++ [It t 0]) := by
  refine ⟨h.sx.push ht fun q => hX (.nx hn q), ?_⟩
  have := cntf_set (by rw [h.sx.len]; exact ht) hs
  have := h.ms
  rw [List.length_append, List.length_singleton]
  omega
theorem l10r18_ok {f : FU} {m : MP} (hf : FOk f m) (hz : Szu f) {v : Int} {i0 a0 ip ap N : Nat} (hN : N ≤ 1000) {b : BK} (hb : f.2.1[ip]? = some b) (h0 : scn v (b.2.1.drop ap) = 0) (hX : Lv f v ip ap → Lv f v i0 a0)
    {k1 : Int → Nat → Nat → Nat → FU → List Bool → List SP → Prop} {k2 : Int → FU → List Bool → List SP → Prop}
    (hk1 : ∀ seen len (l : List SP), len ≤ l.length → Ee f v i0 a0 ip ap N seen (l.take len) → (∀ e ∈ tos b, v ∉ parL f e.1.toNat → Tr seen e.1.toNat) → k1 v 0 len l.length f seen l)
    (hk2 : ∀ seen l, Ee f v i0 a0 ip ap N seen l → (∀ e ∈ tos b, v ∉ parL f e.1.toNat → Tr seen e.1.toNat) → k2 v f seen l)
    {seen : List Bool} {len : Nat} {l : List SP} (hlen : len ≤ l.length) (h : Ee f v i0 a0 ip ap N seen (l.take len)) : l10r18 k1 k2 v 0 len l.length (tos b) ((tos b).length : Int) 0 f seen l := by
  have hm := hml
  have hn := hf.le
  have hbm := List.mem_of_getElem? hb
  have hl : (tos b).length ≤ maxLen := hz.to _ hbm
  -- an edge
  have edge : ∀ i, (hi : i < (tos b).length) → ∃ t : Nat, (tos b)[i].1 = (t : Int) ∧ t < f.2.1.length ∧ (v ∉ parL f t → Nx f v ip ap t) := fun i hi => by
    have hx : (tos b)[i] ∈ tos b := List.getElem_mem hi
    obtain ⟨q1, q2, _⟩ := hf.edg b hbm _ hx
    obtain ⟨t, ht⟩ := Int.eq_ofNat_of_zero_le (show 0 ≤ ((tos b)[i]).1 by omega)
    exact ⟨t, ht, by omega, fun hv => ⟨b, hb, h0, _, hx, ht, hv⟩⟩
  have mono : ∀ {s : List Bool} {t : Nat}, t < s.length → ∀ j, Tr s j → Tr (s.set t true) j := fun {s t} hl j q => (tr_set hl).2 (by
    by_cases e : j = t
    · exact .inl ⟨e, rfl⟩
    · exact .inr ⟨e, q⟩)
  -- what was done before, and one more
  have more : ∀ {i : Nat} {s s' : List Bool} (hi : i < (tos b).length), (∀ j, Tr s j → Tr s' j) → (∀ j (hj : j < (tos b).length), j < i → v ∉ parL f (tos b)[j].1.toNat → Tr s (tos b)[j].1.toNat) → (v ∉ parL f (tos b)[i].1.toNat → Tr s' (tos b)[i].1.toNat) →
      ∀ j (hj : j < (tos b).length), j < i + 1 → v ∉ parL f (tos b)[j].1.toNat → Tr s' (tos b)[j].1.toNat := fun {i s s'} hi hs hp hq j hj hji hv => by
    by_cases e : j = i
    · subst e; exact hq hv
    · exact hs _ (hp j hj (by omega) hv)
  have all : ∀ {s : List Bool}, (∀ j (hj : j < (tos b).length), j < (tos b).length → v ∉ parL f (tos b)[j].1.toNat → Tr s (tos b)[j].1.toNat) → ∀ e ∈ tos b, v ∉ parL f e.1.toNat → Tr s e.1.toNat := fun {s} hp e he hv => by
    obtain ⟨j, hj, rfl⟩ := List.mem_iff_getElem.1 he
    exact hp j hj hj hv
  constructor
  intro I1 I2 hI1 hI2
  have key2 := upInd (N := (tos b).length) (M := fun i => ∀ seen l, Ee f v i0 a0 ip ap N seen l → (∀ j (hj : j < (tos b).length), j < i → v ∉ parL f (tos b)[j].1.toNat → Tr seen (tos b)[j].1.toNat) → I2 v (tos b) ((tos b).length : Int) (i : Int) f seen l)
    (fun seen l h hp => hI2 _ _ _ _ _ _ _ (brDn (by omega) (hk2 seen l h (all hp))))
    (fun i hi ih seen l h hp => by
      apply hI2
      obtain ⟨t, ht, htl, hnx⟩ := edge i hi
      have hsl := h.sx.len
      have hms := h.ms
      have hTs : Tr seen t ↔ seen[t]'(by omega) = true := tr_get (by omega)
      rw [wrapS (n := i) (by omega)]
      refine brD (by omega) (needAt hi ?_)
      have hit : (((tos b)[i].1, (0 : Int), ()) : SP) = It t 0 := by rw [ht]; rfl
      have hpl := parL_at htl
      have ht2 : (tos b)[i].1.toNat = t := by rw [ht]; rfl
      rw [hit, ht, Int.toNat_natCast]
      refine brD (by omega) (needNth (by omega) (brN' (fun q => ?_) fun q => ?_))
      · refine needAt htl (c24_ok (hz.par _ (List.getElem_mem htl)) (fun hv => brF rfl ?_) fun hv => brT rfl (brD (by omega) (needNth (by omega) (brT (roomS (by omega)) ?_))))
        · exact ih seen l h (more hi (fun _ q => q) hp fun w => (w (by rw [ht2, hpl]; exact hv)).elim)
        · refine ih _ _ (h.push htl q (hnx (by rw [hpl]; exact hv)) hX) (more hi (mono (by omega)) hp fun _ => ?_)
          rw [ht2]; exact (tr_set (by omega)).2 (.inl ⟨rfl, rfl⟩)
      · exact ih seen l h (more hi (fun _ q => q) hp fun _ => by rw [ht2]; exact hTs.2 q))
  have key1 := upInd (N := (tos b).length) (M := fun i => ∀ seen len (l : List SP), len ≤ l.length → Ee f v i0 a0 ip ap N seen (l.take len) → (∀ j (hj : j < (tos b).length), j < i → v ∉ parL f (tos b)[j].1.toNat → Tr seen (tos b)[j].1.toNat) → I1 v 0 len l.length (tos b) ((tos b).length : Int) (i : Int) f seen l)
    (fun seen len l hlen h hp => hI1 _ _ _ _ _ _ _ _ _ _ (brDn (by omega) (hk1 seen len l hlen h (all hp))))
    (fun i hi ih seen len l hlen h hp => by
      apply hI1
      obtain ⟨t, ht, htl, hnx⟩ := edge i hi
      have hsl := h.sx.len
      have hms := h.ms
      have htk : (l.take len).length = len := by rw [List.length_take]; omega
      have hTs : Tr seen t ↔ seen[t]'(by omega) = true := tr_get (by omega)
      rw [wrapS (n := i) (by omega)]
      refine brD (by omega) (needAt hi ?_)
      have hit : (((tos b)[i].1, (0 : Int), ()) : SP) = It t 0 := by rw [ht]; rfl
      have hpl := parL_at htl
      have ht2 : (tos b)[i].1.toNat = t := by rw [ht]; rfl
      rw [hit, ht, Int.toNat_natCast, Nat.zero_add]
      refine brD (by omega) (needNth (by omega) (brN' (fun q => ?_) fun q => ?_))
      · refine needAt htl (c24_ok (hz.par _ (List.getElem_mem htl)) (fun hv => brF rfl ?_) fun hv => brT rfl (brD (by omega) (needNth (by omega) ?_)))
        · exact ih seen len l hlen h (more hi (fun _ q => q) hp fun w => (w (by rw [ht2, hpl]; exact hv)).elim)
        · have hE := h.push htl q (hnx (by rw [hpl]; exact hv)) hX
          have hp2 := more hi (mono (s := seen) (t := t) (by omega)) hp fun _ => by rw [ht2]; exact (tr_set (by omega)).2 (.inl ⟨rfl, rfl⟩)
          refine brP (fun hc => ?_) fun hc => brT (roomS (by omega)) (brD rfl (key2 (i + 1) hi _ _ hE hp2))
          have hl2 : (l.take len ++ [It t 0] ++ l.drop (len + 1)).length = l.length := by simp; omega
          have ht3 : (l.take len ++ [It t 0] ++ l.drop (len + 1)).take (len + 1) = l.take len ++ [It t 0] := by
            rw [List.take_append_of_le_length (by simp; omega), List.take_of_length_le (by simp; omega)]
          have := ih (seen.set t true) (len + 1) (l.take len ++ [It t 0] ++ l.drop (len + 1)) (by omega) (by rw [ht3]; exact hE) hp2
          rw [hl2] at this
          exact this
      · exact ih seen len l hlen h (more hi (fun _ q => q) hp fun _ => by rw [ht2]; exact hTs.2 q))
    0 (Nat.zero_le _)
  exact key1 seen len l hlen h fun j _ q => absurd q (by omega)
theorem l10r3_ok {f : FU} {m : MP} (hf : FOk f m) (hz : Szu f) {v : Int} {i0 a0 : Nat} {k1 : Bool → Prop} {k2 : Prop} (h1 : Lv f v i0 a0 → k1 true) (h2 : ¬ Lv f v i0 a0 → k2)
    {seen : List Bool} {l : List SP} (h : Se f v i0 a0 seen l) (hN : l.length + seen.count false ≤ 1000) : l10r3 k1 k2 v f seen l := by
  have hm := hml
  constructor
  intro I1 I2 hI1 hI2
  have key : ∀ N, N ≤ 1000 → (∀ seen l, Se f v i0 a0 seen l → l.length + seen.count false ≤ N → I1 v f seen l) ∧ (∀ seen len (l : List SP), len ≤ l.length → Se f v i0 a0 seen (l.take len) → len + seen.count false ≤ N → I2 v 0 len l.length f seen l) := by
    intro N
    induction N with
    | zero =>
      intro _
      refine ⟨fun seen l h hl => ?_, fun seen len l hlen h hl => ?_⟩
      · have : l = [] := List.eq_nil_of_length_eq_zero (by omega)
        subst this
        exact hI1 _ _ _ _ (brDn (by simp) (h2 h.fin))
      · have : len = 0 := by omega
        subst this
        exact hI2 _ _ _ _ _ _ _ (brDn (by omega) (h2 h.fin))
    | succ N ih =>
      intro hN
      obtain ⟨ih1, ih2⟩ := ih (by omega)
      -- the work on one place
      have one : ∀ (seen : List Bool) (T l : List SP) (ip ap : Nat), T.length ≤ l.length → l.take T.length = T → Se f v i0 a0 seen (T ++ [It ip ap]) → T.length + seen.count false ≤ N → ∀ hip : ip < f.2.1.length,
          l10r9 (fun z => k1 z) (fun z8 z9 z10 z11 z12 z13 z14 z15 z16 => br z12 (I2 z8 z9 z10 z11 z13 z14 z15) (c17 z16.2.2.1 fun z17 => c24 z17 z8 fun z18 => br z18 (k1 true)
            (l10r18 (fun z19 z20 z21 z22 z23 z24 z25 => I2 z19 z20 z21 z22 z23 z24 z25) (fun z26 z27 z28 z29 => I1 z26 z27 z28 z29) z8 z9 z10 z11 z16.2.2.1.2.2.2.2.1 ((z16.2.2.1.2.2.2.2.1.length : Nat) : Int) 0 z13 z14 z15)))
            v 0 T.length l.length false (ap : Int) f seen l f.2.1[ip] := by
        intro seen T l ip ap hTl hT hS hms hip
        obtain ⟨hx, _, hX⟩ := hS.pop
        have hg := List.getElem?_eq_getElem hip
        have hb := List.getElem_mem hip
        have hol := opr_len hf hb
        refine l10r9_ok (hz.ins _ hb) (hz.args _ hb) (fun q => h1 (hX (.hit ⟨_, hg, .inl q⟩))) (fun q => brT rfl ?_) fun q => brF rfl ?_
        · have hp : Pd f v seen ip ap := by
            refine ⟨fun ⟨b, hb2, w⟩ => ?_, fun j ⟨b, hb2, w, _⟩ => ?_⟩
            · rw [hg] at hb2
              obtain rfl := Option.some.inj hb2
              rcases w with w | w
              · omega
              · have := w.1; omega
            · rw [hg] at hb2
              obtain rfl := Option.some.inj hb2
              omega
          exact ih2 seen T.length l hTl (by rw [hT]; exact hx.done hp) hms
        · refine c17_ok (hf.tl _ hb) (fun e he => edg_len hf hb he) (c24_ok (by omega) (fun w => brT rfl (h1 (hX (.hit ⟨_, hg, .inr ⟨q, w⟩⟩)))) fun w => brF rfl ?_)
          have fin : ∀ {seen : List Bool} {T : List SP}, Ee f v i0 a0 ip ap N seen T → (∀ e ∈ tos f.2.1[ip], v ∉ parL f e.1.toNat → Tr seen e.1.toNat) → Se f v i0 a0 seen T := fun {seen T} hE hd => by
            refine hE.sx.done ⟨fun ⟨b, hb2, w2⟩ => ?_, fun j ⟨b, hb2, w2, e, he, ej, hv⟩ => ?_⟩
            · rw [hg] at hb2
              obtain rfl := Option.some.inj hb2
              rcases w2 with w2 | w2
              · omega
              · exact w w2.2
            · rw [hg] at hb2
              obtain rfl := Option.some.inj hb2
              have := hd e he (by rw [ej]; exact hv)
              rw [ej] at this
              exact this
          refine l10r18_ok (b := f.2.1[ip]) (ip := ip) (ap := ap) (i0 := i0) (a0 := a0) (N := N) hf hz (by omega) hg q hX (fun seen len l hlen hE hd => ?_) (fun seen l hE hd => ?_) hTl ⟨by rw [hT]; exact hx, by rw [hT]; exact hms⟩
          · have := hE.ms
            rw [List.length_take] at this
            exact ih2 seen len l hlen (fin hE hd) (by omega)
          · exact ih1 seen l (fin hE hd) hE.ms
      -- the last item
      have last : ∀ {T : List SP} {n : Nat}, (∀ p ∈ T, ∃ i a : Nat, p = It i a ∧ i < f.2.1.length) → T.length = n + 1 → ∃ ip ap : Nat, T[n]? = some (It ip ap) ∧ ip < f.2.1.length ∧ T = T.take n ++ [It ip ap] := fun {T n} hok hn => by
        have hi : n < T.length := by omega
        obtain ⟨ip, ap, e, hip⟩ := hok _ (List.getElem_mem hi)
        refine ⟨ip, ap, by rw [List.getElem?_eq_getElem hi, e], hip, ?_⟩
        rw [← e, take_snoc hi, List.take_of_length_le (by omega)]
      refine ⟨fun seen l h hl => ?_, fun seen len l hlen h hl => ?_⟩
      · cases hll : l.length with
        | zero =>
          have : l = [] := List.eq_nil_of_length_eq_zero hll
          subst this
          exact hI1 _ _ _ _ (brDn (by simp) (h2 h.fin))
        | succ n =>
          obtain ⟨ip, ap, e1, hip, e2⟩ := last h.ok hll
          have htk : (l.take n).length = n := by rw [List.length_take]; omega
          have hw : IntKind.wrap .i64 (((l.length : Nat) : Int) - 1) = ((n : Nat) : Int) := by rw [wrap64 (by omega) (by omega)]; omega
          have := one seen (l.take n) l ip ap (by omega) (by rw [htk]) (by rw [← e2]; exact h) (by omega) hip
          rw [htk] at this
          apply hI1
          rw [hw, Int.toNat_natCast, Int.sub_zero, Int.sub_zero, Int.toNat_natCast, Int.toNat_natCast]
          refine brD (by omega) (brD (by omega) (needS e1 (brD (by omega) (needAt (i := ip) hip ?_))))
          exact this
      · cases len with
        | zero => exact hI2 _ _ _ _ _ _ _ (brDn (by omega) (h2 h.fin))
        | succ n =>
          have hTl : (l.take (n + 1)).length = n + 1 := by rw [List.length_take]; omega
          obtain ⟨ip, ap, e1, hip, e2⟩ := last h.ok hTl
          have htt : (l.take (n + 1)).take n = l.take n := by rw [List.take_take]; congr 1; omega
          rw [htt] at e2
          have htk : (l.take n).length = n := by rw [List.length_take]; omega
          have hgl : l[n]? = some (It ip ap) := by rw [List.getElem?_take] at e1; simpa using e1
          have hnl : n < 1000 := by omega
          have hw : IntKind.wrap .i64 ((((n + 1 : Nat) : Nat) : Int) - 1) = ((n : Nat) : Int) := by rw [wrap64 (by omega) (by omega)]; omega
          have := one seen (l.take n) l ip ap (by omega) (by rw [htk]) (by rw [← e2]; exact h) (by omega) hip
          rw [htk] at this
          apply hI2
          rw [hw, Int.toNat_natCast, Int.sub_zero, Int.sub_zero, Int.toNat_natCast, Int.toNat_natCast]
          refine brD (by omega) (brD (by omega) (needS (by rw [Nat.zero_add]; exact hgl) (brD (by omega) (needAt (i := ip) hip ?_))))
          exact this
  exact (key _ hN).1 seen l h (Nat.le_refl _)
theorem c10_ok {f : FU} {m : MP} (hf : FOk f m) (hz : Szu f) {v : Int} {i0 a0 : Nat} (hi : i0 < f.2.1.length) {k : Bool → Prop} (h1 : Lv f v i0 a0 → k true) (h2 : ¬ Lv f v i0 a0 → k false) : c10 f v (i0 : Int) (a0 : Int) k := by
  have hn := hf.le
  have hrl : (List.replicate (Int.toNat ((f.2.1.length : Nat) : Int)) false).length = f.2.1.length := by simp
  constructor
  refine brD (by omega) (l10r3_ok (i0 := i0) (a0 := a0) (l := [It i0 a0]) hf hz h1 h2 ⟨hrl, fun p hp => ⟨i0, a0, List.mem_singleton.1 hp, hi⟩, fun i a hp => ?_, fun j hj => ?_, .inl (List.mem_singleton.2 rfl)⟩ ?_)
  · obtain ⟨rfl, rfl⟩ := It_inj (List.mem_singleton.1 hp)
    exact id
  · unfold Tr at hj
    rw [List.getElem?_replicate] at hj
    split at hj <;> cases hj
  · have := List.count_le_length (a := false) (l := List.replicate (Int.toNat ((f.2.1.length : Nat) : Int)) false)
    rw [List.length_singleton]
    omega
def fr1 (a v : Int) : Int := maxI a (IntKind.wrap .i64 (v + 1))
def frI : Int → List IN → Int
  | a, [] => a
  | a, x :: r => frI (fr1 a x.1) r
def frV : Int → List Int → Int
  | a, [] => a
  | a, v :: r => frV (fr1 a v) r
def frB : Int → List BK → Int
  | a, [] => a
  | a, b :: r => frB (frI (frV a b.1) b.2.1) r
def frsh (f : FU) : Int := frB 0 f.2.1
theorem l6r6_ok {b : BK} {l : List Int} {s2 : List BK} {s3 s4 a : Int} {k : Int → List BK → Int → Int → BK → Prop} (hl : l.length ≤ maxLen) (h : k (frV a l) s2 s3 s4 b) : l6r6 k a s2 s3 s4 l (l.length : Int) 0 b := by
  have hm := hml
  constructor
  intro I hI
  exact dropInd (l := l) (M := fun i r => ∀ a, k (frV a r) s2 s3 s4 b → I a s2 s3 s4 l (l.length : Int) (i : Int) b)
    (fun a h => hI _ _ _ _ _ _ _ _ (brDn (by omega) h))
    (fun i hi ih a h => hI _ _ _ _ _ _ _ _ (brD (by omega) (needAt hi (by rw [wrapS (n := i) (by omega)]; exact ih _ h)))) a h
theorem l6r11_ok {l : List IN} {s2 : List BK} {s3 s4 a : Int} {k : Int → List BK → Int → Int → Prop} (hl : l.length ≤ maxLen) (h : k (frI a l) s2 s3 s4) : l6r11 k a s2 s3 s4 l (l.length : Int) 0 := by
  have hm := hml
  constructor
  intro I hI
  exact dropInd (l := l) (M := fun i r => ∀ a, k (frI a r) s2 s3 s4 → I a s2 s3 s4 l (l.length : Int) (i : Int))
    (fun a h => hI _ _ _ _ _ _ _ (brDn (by omega) h))
    (fun i hi ih a h => hI _ _ _ _ _ _ _ (brD (by omega) (needAt hi (by rw [wrapS (n := i) (by omega)]; exact ih _ h)))) a h
theorem c6_ok {f : FU} {k : Int → Prop} (hz : Szu f) (h : k (frsh f)) : c6 f k := by
  have hm := hml
  have hbl := hz.bl
  constructor
  constructor
  intro I hI
  exact dropInd (l := f.2.1) (M := fun i r => (∀ b ∈ r, b ∈ f.2.1) → ∀ a, k (frB a r) → I a f.2.1 (f.2.1.length : Int) (i : Int))
    (fun _ a h => hI _ _ _ _ (brDn (by omega) h))
    (fun i hi ih hr a h => hI _ _ _ _ (by
      have hb := List.getElem_mem hi
      refine brD (by omega) (needAt hi (l6r6_ok (hz.par _ hb) (l6r11_ok (hz.ins _ hb) ?_)))
      rw [wrapS (n := i) (by omega)]
      exact ih (fun b hb => hr b (List.mem_cons_of_mem _ hb)) _ h)) (fun _ h => h) 0 h
theorem l41r5_ok {b : BK} {l : List Int} {s1 : List BK} {s2 s3 a : Int} {k : List BK → Int → Int → Int → BK → Prop} (hl : l.length ≤ maxLen) (h : k s1 s2 s3 (frV a l) b) : l41r5 k s1 s2 s3 l (l.length : Int) 0 a b := by
  have hm := hml
  constructor
  intro I hI
  exact dropInd (l := l) (M := fun i r => ∀ a, k s1 s2 s3 (frV a r) b → I s1 s2 s3 l (l.length : Int) (i : Int) a b)
    (fun a h => hI _ _ _ _ _ _ _ _ (brDn (by omega) h))
    (fun i hi ih a h => hI _ _ _ _ _ _ _ _ (brD (by omega) (needAt hi ⟨by rw [wrapS (n := i) (by omega)]; exact ih _ h⟩))) a h
theorem l41r10_ok {l : List IN} {s1 : List BK} {s2 s3 a : Int} {k : List BK → Int → Int → Int → Prop} (hl : l.length ≤ maxLen) (h : k s1 s2 s3 (frI a l)) : l41r10 k s1 s2 s3 l (l.length : Int) 0 a := by
  have hm := hml
  constructor
  intro I hI
  exact dropInd (l := l) (M := fun i r => ∀ a, k s1 s2 s3 (frI a r) → I s1 s2 s3 l (l.length : Int) (i : Int) a)
    (fun a h => hI _ _ _ _ _ _ _ (brDn (by omega) h))
    (fun i hi ih a h => hI _ _ _ _ _ _ _ (brD (by omega) (needAt hi ⟨by rw [wrapS (n := i) (by omega)]; exact ih _ h⟩))) a h
theorem c31_ok {f : FU} {k : Int → Prop} (hz : Szu f) (h : k (frsh f)) : c31 f k := by
  have hm := hml
  have hbl := hz.bl
  constructor
  constructor
  constructor
  intro I hI
  exact dropInd (l := f.2.1) (M := fun i r => ∀ a, k (frB a r) → I f.2.1 (f.2.1.length : Int) (i : Int) a)
    (fun a h => hI _ _ _ _ (brDn (by omega) h))
    (fun i hi ih a h => hI _ _ _ _ (by
      have hb := List.getElem_mem hi
      refine brD (by omega) (needAt hi (l41r5_ok (hz.par _ hb) (l41r10_ok (hz.ins _ hb) ?_)))
      rw [wrapS (n := i) (by omega)]
      exact ih _ h)) 0 h
theorem fr1_ge {a v : Int} (h : 0 ≤ v ∧ v ≤ 4095) (ha : 0 ≤ a ∧ a ≤ 4096) : a ≤ fr1 a v ∧ v < fr1 a v ∧ fr1 a v ≤ 4096 := by
  unfold fr1 maxI
  rw [wrap64 (by omega) (by omega)]
  split <;> omega
theorem frV_ge : ∀ {l : List Int} {a : Int}, (∀ v ∈ l, 0 ≤ v ∧ v ≤ 4095) → 0 ≤ a ∧ a ≤ 4096 → a ≤ frV a l ∧ frV a l ≤ 4096 ∧ ∀ v ∈ l, v < frV a l
  | [], a, _, h2 => ⟨Int.le_refl _, h2.2, fun v hv => by cases hv⟩
  | x :: r, a, h1, h2 => by
    have h3 := fr1_ge (h1 x List.mem_cons_self) h2
    obtain ⟨h4, h5, h6⟩ := frV_ge (l := r) (a := fr1 a x) (fun v hv => h1 v (List.mem_cons_of_mem _ hv)) ⟨by omega, h3.2.2⟩
    refine ⟨by unfold frV; omega, h5, fun v hv => ?_⟩
    unfold frV
    rcases List.mem_cons.1 hv with rfl | hv
    · omega
    · exact h6 v hv
theorem frI_ge : ∀ {l : List IN} {a : Int}, (∀ x ∈ l, 0 ≤ x.1 ∧ x.1 ≤ 4095) → 0 ≤ a ∧ a ≤ 4096 → a ≤ frI a l ∧ frI a l ≤ 4096 ∧ ∀ x ∈ l, x.1 < frI a l
  | [], a, _, h2 => ⟨Int.le_refl _, h2.2, fun v hv => by cases hv⟩
  | x :: r, a, h1, h2 => by
    have h3 := fr1_ge (h1 x List.mem_cons_self) h2
    obtain ⟨h4, h5, h6⟩ := frI_ge (l := r) (a := fr1 a x.1) (fun v hv => h1 v (List.mem_cons_of_mem _ hv)) ⟨by omega, h3.2.2⟩
    refine ⟨by unfold frI; omega, h5, fun v hv => ?_⟩
    unfold frI
    rcases List.mem_cons.1 hv with rfl | hv
    · omega
    · exact h6 v hv
theorem frB_ge : ∀ {l : List BK} {a : Int}, (∀ b ∈ l, (∀ v ∈ b.1, 0 ≤ v ∧ v ≤ 4095) ∧ ∀ x ∈ b.2.1, 0 ≤ x.1 ∧ x.1 ≤ 4095) → 0 ≤ a ∧ a ≤ 4096 → a ≤ frB a l ∧ frB a l ≤ 4096 ∧ ∀ b ∈ l, (∀ v ∈ b.1, v < frB a l) ∧ ∀ x ∈ b.2.1, x.1 < frB a l
  | [], a, _, h2 => ⟨Int.le_refl _, h2.2, fun v hv => by cases hv⟩
  | b :: r, a, h1, h2 => by
    obtain ⟨p1, p2⟩ := h1 b List.mem_cons_self
    obtain ⟨g1, g2, g3⟩ := frV_ge p1 h2
    obtain ⟨g4, g5, g6⟩ := frI_ge (a := frV a b.1) p2 ⟨by omega, g2⟩
    obtain ⟨h4, h5, h6⟩ := frB_ge (l := r) (a := frI (frV a b.1) b.2.1) (fun v hv => h1 v (List.mem_cons_of_mem _ hv)) ⟨by omega, g5⟩
    refine ⟨by unfold frB; omega, h5, fun c hc => ?_⟩
    unfold frB
    rcases List.mem_cons.1 hc with rfl | hc
    · exact ⟨fun v hv => by have := g3 v hv; omega, fun x hx => by have := g6 x hx; omega⟩
    · exact h6 c hc
theorem df_rng {f : FU} {m : MP} (hf : FOk f m) {v : Int} {k i : Nat} (h : Df f v k i) : 0 ≤ v ∧ v ≤ 4095 := by
  have := (hf.df v _).2 ⟨k, i, rfl, h⟩
  refine hf.kd.rg v (mhas_iff.1 ?_)
  unfold mhas; rw [this]; rfl
theorem frsh_ok {f : FU} {m : MP} (hf : FOk f m) : 0 ≤ frsh f ∧ frsh f ≤ 4096 ∧ ∀ v k i, Df f v k i → 0 ≤ v ∧ v < frsh f := by
  have hv : ∀ b ∈ f.2.1, (∀ v ∈ b.1, 0 ≤ v ∧ v ≤ 4095) ∧ ∀ x ∈ b.2.1, 0 ≤ x.1 ∧ x.1 ≤ 4095 := fun b hb => by
    obtain ⟨k, hk⟩ := List.mem_iff_getElem?.1 hb
    refine ⟨fun v hv => df_rng hf ⟨b, hk, .inl ⟨rfl, hv⟩⟩, fun x hx => ?_⟩
    obtain ⟨j, hj⟩ := List.mem_iff_getElem?.1 hx
    exact df_rng hf ⟨b, hk, .inr ⟨j, x, rfl, hj, rfl⟩⟩
  obtain ⟨h1, h2, h3⟩ := frB_ge (a := 0) hv ⟨Int.le_refl _, by omega⟩
  refine ⟨h1, h2, fun v k i hd => ⟨(df_rng hf hd).1, ?_⟩⟩
  obtain ⟨b, hb, h⟩ := hd
  obtain ⟨h4, h5⟩ := h3 b (List.mem_of_getElem? hb)
  rcases h with ⟨_, h⟩ | ⟨j, x, _, hj, rfl⟩
  · exact h4 v h
  · exact h5 x (List.mem_of_getElem? hj)
abbrev BB := List (List Bool)
def At (B : BB) (i r : Nat) : Prop := ∃ y, B[i]? = some y ∧ Tr y r
theorem set_self {α : Type} {l : List α} {i : Nat} {y : α} (h : l[i]? = some y) : l.set i y = l := by
  obtain ⟨h1, h2⟩ := List.getElem?_eq_some_iff.1 h
  rw [← h2, List.set_getElem_self]
def InV (n : Nat) (l : List Int) : Prop := ∀ a ∈ l, 0 ≤ a ∧ a < (n : Int)
theorem l19r12v3_ok {n : Nat} {u : Unit} {s2 s7 : Int} {f : FU} {s8 : BB} {b : BK} {l : List Int} {k : Unit → Int → FU → Int → BB → BK → List Bool → Prop} (hl : l.length ≤ maxLen) (hr : InV n l) {s : List Bool} (hs : s.length = n)
    (h : ∀ s' : List Bool, s'.length = n → (∀ v : Nat, Tr s' v ↔ Tr s v ∨ (v : Int) ∈ l) → k u s2 f s7 s8 b s') : l19r12v3 k u s2 l (l.length : Int) 0 f s7 s8 b s := by
  have hm := hml
  constructor
  intro I hI
  have key := dropInd (l := l) (M := fun i r => (∀ a ∈ r, a ∈ l) → ∀ s : List Bool, s.length = n → (∀ s' : List Bool, s'.length = n → (∀ v : Nat, Tr s' v ↔ Tr s v ∨ (v : Int) ∈ r) → k u s2 f s7 s8 b s') → I u s2 l (l.length : Int) (i : Int) f s7 s8 b s)
    (fun _ s hs h => hI _ _ _ _ _ _ _ _ _ _ (brDn (by omega) (h s hs fun v => by simp)))
    (fun i hi ih hsub s hs h => by
      apply hI
      obtain ⟨a1, a2⟩ := hr _ (List.getElem_mem hi)
      obtain ⟨a, ha⟩ := Int.eq_ofNat_of_zero_le a1
      rw [wrapS (n := i) (by omega)]
      refine brD (by omega) (needAt hi ?_)
      rw [ha, Int.toNat_natCast]
      refine brD (by omega) (needNth (by omega) (ih (fun a h => hsub a (List.mem_cons_of_mem _ h)) _ (by simp [hs]) fun s' h1 h2 => h s' h1 fun v => ?_))
      rw [h2, tr_set (by omega), List.mem_cons]
      constructor
      · rintro ((⟨rfl, _⟩ | ⟨_, w⟩) | w)
        · exact .inr (.inl ha.symm)
        · exact .inl w
        · exact .inr (.inr w)
      · rintro (w | w | w)
        · by_cases e : v = a
          · exact .inl (.inl ⟨e, rfl⟩)
          · exact .inl (.inr ⟨e, w⟩)
        · exact .inl (.inl ⟨by omega, rfl⟩)
        · exact .inr w)
  exact key (fun _ h => h) s hs h
theorem l32r19v2_ok {n : Nat} {s1 : List ED} {s2 s3 s8 : Int} {f : FU} {s9 s10 : BB} {l : List Int} {k : List ED → Int → Int → FU → Int → BB → BB → List Bool → Prop} (hl : l.length ≤ maxLen) (hr : InV n l) {s : List Bool} (hs : s.length = n)
    (h : ∀ s' : List Bool, s'.length = n → (∀ v : Nat, Tr s' v ↔ Tr s v ∨ (v : Int) ∈ l) → k s1 s2 s3 f s8 s9 s10 s') : l32r19v2 k s1 s2 s3 l (l.length : Int) 0 f s8 s9 s10 s := by
  have hm := hml
  constructor
  intro I hI
  have key := dropInd (l := l) (M := fun i r => (∀ a ∈ r, a ∈ l) → ∀ s : List Bool, s.length = n → (∀ s' : List Bool, s'.length = n → (∀ v : Nat, Tr s' v ↔ Tr s v ∨ (v : Int) ∈ r) → k s1 s2 s3 f s8 s9 s10 s') → I s1 s2 s3 l (l.length : Int) (i : Int) f s8 s9 s10 s)
    (fun _ s hs h => hI _ _ _ _ _ _ _ _ _ _ _ (brDn (by omega) (h s hs fun v => by simp)))
    (fun i hi ih hsub s hs h => by
      apply hI
      obtain ⟨a1, a2⟩ := hr _ (List.getElem_mem hi)
      obtain ⟨a, ha⟩ := Int.eq_ofNat_of_zero_le a1
      rw [wrapS (n := i) (by omega)]
      refine brD (by omega) (needAt hi ?_)
      rw [ha, Int.toNat_natCast]
      refine brD (by omega) (needNth (by omega) (ih (fun a h => hsub a (List.mem_cons_of_mem _ h)) _ (by simp [hs]) fun s' h1 h2 => h s' h1 fun v => ?_))
      rw [h2, tr_set (by omega), List.mem_cons]
      constructor
      · rintro ((⟨rfl, _⟩ | ⟨_, w⟩) | w)
        · exact .inr (.inl ha.symm)
        · exact .inl w
        · exact .inr (.inr w)
      · rintro (w | w | w)
        · by_cases e : v = a
          · exact .inl (.inl ⟨e, rfl⟩)
          · exact .inl (.inr ⟨e, w⟩)
        · exact .inl (.inl ⟨by omega, rfl⟩)
        · exact .inr w)
  exact key (fun _ h => h) s hs h
theorem l32r16v2_ok {n : Nat} {s5 : Int} {f : FU} {s6 s7 : BB} {l : List ED} {k : FU → Int → BB → BB → List Bool → Prop} (hl : l.length ≤ maxLen) (ha : ∀ e ∈ l, e.2.1.length ≤ maxLen) (hr : ∀ e ∈ l, InV n e.2.1) {s : List Bool} (hs : s.length = n)
    (h : ∀ s' : List Bool, s'.length = n → (∀ v : Nat, Tr s' v ↔ Tr s v ∨ ∃ e ∈ l, (v : Int) ∈ e.2.1) → k f s5 s6 s7 s') : l32r16v2 k l (l.length : Int) 0 f s5 s6 s7 s := by
  have hm := hml
  constructor
  intro I hI
  have key := dropInd (l := l) (M := fun i r => ∀ s : List Bool, s.length = n → (∀ s' : List Bool, s'.length = n → (∀ v : Nat, Tr s' v ↔ Tr s v ∨ ∃ e ∈ r, (v : Int) ∈ e.2.1) → k f s5 s6 s7 s') → I l (l.length : Int) (i : Int) f s5 s6 s7 s)
    (fun s hs h => hI _ _ _ _ _ _ _ _ (brDn (by omega) (h s hs fun v => by simp)))
    (fun i hi ih s hs h => by
      apply hI
      have hx := List.getElem_mem hi
      refine brD (by omega) (needAt hi (l32r19v2_ok (ha _ hx) (hr _ hx) hs fun s1 h1 h2 => ?_))
      show I l (l.length : Int) (IntKind.wrap .i64 ((i : Int) + 1)) f s5 s6 s7 s1
      rw [wrapS (n := i) (by omega)]
      refine ih s1 h1 fun s' h3 h4 => h s' h3 fun v => ?_
      rw [h4, h2]
      constructor
      · rintro ((w | w) | ⟨e, he, w⟩)
        · exact .inl w
        · exact .inr ⟨_, List.mem_cons_self, w⟩
        · exact .inr ⟨e, List.mem_cons_of_mem _ he, w⟩
      · rintro (w | ⟨e, he, w⟩)
        · exact .inl (.inl w)
        · rcases List.mem_cons.1 he with rfl | he
          · exact .inl (.inr w)
          · exact .inr ⟨e, he, w⟩)
  exact key s hs h
theorem l32r7v2_ok {n : Nat} {f : FU} {m : MP} (hf : FOk f m) (hz : Szu f) {s1 : List ED} {s2 s3 s7 : Int} {s8 F : BB} {t : TM} {y : ED} {j : Nat} (hn : n ≤ 100000) (hj : y.1 = (j : Int)) (hjl : j < f.2.1.length) {row : List Bool} (hrow : F[j]? = some row) (hrl : row.length ≤ n) {k : List ED → Int → Int → FU → Int → BB → BB → TM → List Bool → Prop} {s : List Bool} (hs : s.length = n)
    (h : ∀ s' : List Bool, s'.length = n → (∀ v : Nat, Tr s' v ↔ Tr s v ∨ (Tr row v ∧ (v : Int) ∉ parL f j)) → k s1 s2 s3 f s7 s8 F t s') : l32r7v2 k s1 s2 s3 (row.length : Int) 0 f s7 s8 F j row t s y := by
  have hpl := parL_at hjl
  constructor
  intro I hI
  have key := upInd (N := row.length) (M := fun a => ∀ s : List Bool, s.length = n → (∀ s' : List Bool, s'.length = n → (∀ v : Nat, Tr s' v ↔ Tr s v ∨ (a ≤ v ∧ Tr row v ∧ (v : Int) ∉ parL f j)) → k s1 s2 s3 f s7 s8 F t s') → I s1 s2 s3 (row.length : Int) (a : Int) f s7 s8 F j row t s y)
    (fun s hs h => hI _ _ _ _ _ _ _ _ _ _ _ _ _ _ (brDn (by omega) (by
      rw [set_self hrow]
      exact h s hs fun v => ⟨.inl, fun w => w.elim id fun ⟨w1, w2, _⟩ => by have := tr_lt w2; omega⟩)))
    (fun a ha ih s hs h => by
      apply hI
      have hT : Tr row a ↔ row[a] = true := tr_get ha
      have skip : ¬ (Tr row a ∧ (a : Int) ∉ parL f j) → I s1 s2 s3 (row.length : Int) ((a + 1 : Nat) : Int) f s7 s8 F j row t s y := fun w => ih s hs fun s' h1 h2 => h s' h1 fun v => by
        rw [h2]
        refine or_congr Iff.rfl ⟨fun ⟨q1, q2⟩ => ⟨by omega, q2⟩, fun ⟨q1, q2⟩ => ⟨?_, q2⟩⟩
        by_cases e : v = a
        · subst e; exact (w q2).elim
        · omega
      rw [wrapS (n := a) (by omega), Int.toNat_natCast, hj]
      refine brD (by omega) (brD (by omega) (needNth ha (brB (fun q => needAt hjl (brT (eqT_self (.int .i64) _) (c43_ok (hz.par _ (List.getElem_mem hjl)) (fun w => brF rfl (skip fun q2 => q2.2 (by rw [hpl]; exact w))) fun w => brT rfl (brD (by omega) (needNth (by omega) ?_))))) fun q => skip fun q2 => by rw [hT.1 q2.1] at q; cases q)))
      refine ih _ (by simp [hs]) fun s' h1 h2 => h s' h1 fun v => ?_
      rw [h2, tr_set (by omega)]
      constructor
      · rintro ((⟨rfl, _⟩ | ⟨_, q1⟩) | ⟨q1, q2⟩)
        · exact .inr ⟨Nat.le_refl _, hT.2 q, by rw [hpl]; exact w⟩
        · exact .inl q1
        · exact .inr ⟨by omega, q2⟩
      · rintro (q1 | ⟨q1, q2⟩)
        · by_cases e : v = a
          · exact .inl (.inl ⟨e, rfl⟩)
          · exact .inl (.inr ⟨e, q1⟩)
        · by_cases e : v = a
          · exact .inl (.inl ⟨e, rfl⟩)
          · exact .inr ⟨by omega, q2⟩)
    0 (Nat.zero_le _)
  exact key s hs fun s' h1 h2 => h s' h1 fun v => by rw [h2]; exact or_congr Iff.rfl ⟨And.right, fun w => ⟨Nat.zero_le _, w⟩⟩
def Rw (n : Nat) (B : BB) : Prop := ∀ y ∈ B, y.length = 0 ∨ y.length = n
theorem l32r4v2_ok {n : Nat} {f : FU} {m : MP} (hf : FOk f m) (hz : Szu f) {s5 : Int} {s6 F : BB} {t : TM} (hn : n ≤ 100000) (hF : F.length = f.2.1.length) (hR : Rw n F) {l : List ED} (hl : l.length ≤ maxLen) (he : ∀ e ∈ l, 1 ≤ e.1 ∧ e.1 < (f.2.1.length : Int)) {k : FU → Int → BB → BB → TM → List Bool → Prop} {s : List Bool} (hs : s.length = n)
    (h : ∀ s' : List Bool, s'.length = n → (∀ v : Nat, Tr s' v ↔ Tr s v ∨ ∃ e ∈ l, At F e.1.toNat v ∧ (v : Int) ∉ parL f e.1.toNat) → k f s5 s6 F t s') : l32r4v2 k l (l.length : Int) 0 f s5 s6 F t s := by
  have hm := hml
  constructor
  intro I hI
  have key := dropInd (l := l) (M := fun i r => ∀ s : List Bool, s.length = n → (∀ s' : List Bool, s'.length = n → (∀ v : Nat, Tr s' v ↔ Tr s v ∨ ∃ e ∈ r, At F e.1.toNat v ∧ (v : Int) ∉ parL f e.1.toNat) → k f s5 s6 F t s') → I l (l.length : Int) (i : Int) f s5 s6 F t s)
    (fun s hs h => hI _ _ _ _ _ _ _ _ _ (brDn (by omega) (h s hs fun v => by simp)))
    (fun i hi ih s hs h => by
      apply hI
      obtain ⟨a1, a2⟩ := he _ (List.getElem_mem hi)
      obtain ⟨j, hj⟩ := Int.eq_ofNat_of_zero_le (show 0 ≤ l[i].1 by omega)
      have hjF : j < F.length := by omega
      have hjl : j < f.2.1.length := by omega
      have hg := List.getElem?_eq_getElem hjF
      have hrl : F[j].length ≤ n := by rcases hR _ (List.getElem_mem hjF) with w | w <;> omega
      have hj2 : l[i].1.toNat = j := by rw [hj]; rfl
      refine brD (by omega) (needAt hi ?_)
      rw [hj, Int.toNat_natCast]
      refine brD (by omega) (needNth hjF (needNth hjF (l32r7v2_ok hf hz hn hj hjl hg hrl hs fun s1 h1 h2 => ?_)))
      show I l (l.length : Int) (IntKind.wrap .i64 ((i : Int) + 1)) f s5 s6 F t s1
      rw [wrapS (n := i) (by omega)]
      refine ih s1 h1 fun s' h3 h4 => h s' h3 fun v => ?_
      have hA : At F j v ↔ Tr F[j] v := ⟨fun ⟨y, w1, w2⟩ => by rw [hg] at w1; obtain rfl := Option.some.inj w1; exact w2, fun w => ⟨_, hg, w⟩⟩
      rw [h4, h2]
      constructor
      · rintro ((w | w) | ⟨e, he, w⟩)
        · exact .inl w
        · exact .inr ⟨_, List.mem_cons_self, by rw [hj2, hA]; exact w⟩
        · exact .inr ⟨e, List.mem_cons_of_mem _ he, w⟩
      · rintro (w | ⟨e, he, w⟩)
        · exact .inl (.inl w)
        · rcases List.mem_cons.1 he with rfl | he
          · rw [hj2, hA] at w; exact .inl (.inr w)
          · exact .inr ⟨e, he, w⟩)
  exact key s hs h
def Le (f : FU) (F : BB) (b : BK) (v : Nat) : Prop := (v : Int) ∈ opr b.2.2.1 ∨ ∃ e ∈ tos b, At F e.1.toNat v ∧ (v : Int) ∉ parL f e.1.toNat
theorem rep_tr {n v : Nat} : ¬ Tr (List.replicate n false) v := fun q => by
  unfold Tr at q
  rw [List.getElem?_replicate] at q
  split at q <;> cases q
theorem c32v2_ok {n : Nat} {f : FU} {m : MP} (hf : FOk f m) (hz : Szu f) {s6 F : BB} (hn : n ≤ 100000) (hF : F.length = f.2.1.length) (hR : Rw n F) {kb : Nat} (hk : kb < f.2.1.length) (ho : InV n (opr f.2.1[kb].2.2.1)) {k : FU → Int → BB → BB → List Bool → Prop}
    (h : ∀ s' : List Bool, s'.length = n → (∀ v : Nat, Tr s' v ↔ Le f F f.2.1[kb] v) → k f (n : Int) s6 F s') : c32v2 (kb : Int) f (n : Int) s6 F k := by
  have hb := List.getElem_mem hk
  have hto := hz.to _ hb
  have hed := hz.edg _ hb
  have hk2 := shp_kind (hf.shp _ hb)
  constructor
  refine needAt hk (brD (by omega) (l32r4v2_ok hf hz hn hF hR hto (fun e he => ⟨(hf.edg _ hb e he).1, (hf.edg _ hb e he).2.1⟩) (s := List.replicate (Int.toNat (n : Int)) false) (by simp) fun s1 h1 h2 => ?_))
  have args : ∀ s2 : List Bool, s2.length = n → (∀ v : Nat, Tr s2 v ↔ Tr s1 v ∨ ((f.2.1[kb].2.2.1.1 = 0 ∨ f.2.1[kb].2.2.1.1 = 2 ∨ f.2.1[kb].2.2.1.1 = 3) ∧ (v : Int) = f.2.1[kb].2.2.1.2.1)) → l32r16v2 (fun z14 z15 z16 z17 z18 => k z14 z15 z16 z17 z18) f.2.1[kb].2.2.1.2.2.2.2.1 ((f.2.1[kb].2.2.1.2.2.2.2.1.length : Nat) : Int) 0 f (n : Int) s6 F s2 := fun s2 g1 g2 =>
    l32r16v2_ok hto hed (fun e he a ha => ho a (mem_opr.2 (.inr ⟨e, he, ha⟩))) g1 fun s' g3 g4 => h s' g3 fun v => by
      rw [g4, g2, h2]
      unfold Le
      rw [mem_opr]
      constructor
      · rintro (((w | w) | w) | w)
        · exact (rep_tr w).elim
        · exact .inr w
        · exact .inl (.inl w)
        · exact .inl (.inr w)
      · rintro ((w | w) | w)
        · exact .inl (.inr w)
        · exact .inr w
        · exact .inl (.inl (.inr w))
  refine brN (fun e1 => brN (fun e2 => ?_) fun e2 => args s1 h1 fun v => ⟨.inl, fun w => w.elim id fun w => by omega⟩) fun e1 => args s1 h1 fun v => ⟨.inl, fun w => w.elim id fun w => by omega⟩
  have hkd := hk2.1 ⟨e1, e2⟩
  obtain ⟨a1, a2⟩ := ho _ (mem_opr.2 (.inl ⟨hkd, rfl⟩))
  obtain ⟨a, ha⟩ := Int.eq_ofNat_of_zero_le a1
  rw [ha, Int.toNat_natCast]
  refine brD (by omega) (needNth (by omega) (args _ (by simp [h1]) fun v => ?_))
  rw [tr_set (by omega), ha]
  constructor
  · rintro (⟨rfl, _⟩ | ⟨_, w⟩)
    · exact .inr ⟨hkd, rfl⟩
    · exact .inl w
  · rintro (w | ⟨_, w⟩)
    · by_cases e : v = a
      · exact .inl ⟨e, rfl⟩
      · exact .inr ⟨e, w⟩
    · exact .inl ⟨by omega, rfl⟩
theorem c34_ok {s : List Bool} {k : List Bool → Prop} (hl : s.length ≤ 100000) (h : k s) : c34 s k := by
  have hr : br (roomB (0 + s.length) 1) (k ([] ++ s)) False := brT (roomS (by omega)) h
  constructor
  refine brB (fun e => ⟨?_, ?_⟩) fun e => brF e hr
  · rw [List.isEmpty_iff.1 e] at h; exact h
  · refine brT e ?_
    rw [List.isEmpty_iff.1 e] at h; exact h
theorem c33_ok {a b : List Bool} {k : Bool → Prop} (hl : a.length ≤ 100000) (h1 : a = b → k true) (h2 : a ≠ b → k false) : c33 a b k := by
  constructor
  refine brN (fun e => h2 fun w => e (by rw [w])) fun e => ?_
  have e : a.length = b.length := by omega
  constructor
  intro I hI
  refine allInd (N := a.length) (p := fun i => ∀ h : i < a.length, a[i] = b[i]'(by omega)) (M := fun i => I a b (a.length : Int) (i : Int)) (fun h => hI _ _ _ _ (brDn (by omega) (h1 (List.ext_getElem e fun i hi _ => h i hi hi)))) fun i hi hlt ih => hI _ _ _ _ ?_
  rw [wrapS (n := i) (by omega)]
  refine brD (by omega) (needAt hi (needAt (by omega) ?_))
  by_cases q : a[i] = b[i]'(by omega)
  · exact brF (by rw [q]; simp) (ih fun _ => q)
  · exact brT (by simpa using q) (h2 fun w => q (by simp [w]))
def Bk (b : BK) (B : List Bool) (j : Nat) (v : Nat) : Prop := scn (v : Int) (b.2.1.drop j) = 1 ∨ (scn (v : Int) (b.2.1.drop j) = 0 ∧ Tr B v)
theorem bk_end {b : BK} {B : List Bool} {v : Nat} : Bk b B b.2.1.length v ↔ Tr B v := by
  unfold Bk
  rw [List.drop_length]
  simp [scn]
theorem bk_step {b : BK} {B : List Bool} {j v : Nat} (h : j < b.2.1.length) : Bk b B j v ↔ ((v : Int) ≠ b.2.1[j].1 ∧ Bk b B (j + 1) v) ∨ (v : Int) ∈ b.2.1[j].2.2.2.1 := by
  unfold Bk
  rw [scn_drop h]
  by_cases e : (v : Int) ∈ b.2.1[j].2.2.2.1
  · simp [e]
  · rw [if_neg e]
    by_cases e2 : b.2.1[j].1 = (v : Int)
    · rw [if_pos e2]; simp [e, e2]
    · rw [if_neg e2]
      have e3 : (v : Int) ≠ b.2.1[j].1 := fun w => e2 w.symm
      simp [e, e3]
theorem l19r5v3_ok {n : Nat} {u : Unit} {f : FU} {s4 : Int} {s5 : BB} {b : BK} (hn : n ≤ 100000) (hl : b.2.1.length ≤ maxLen) (ha : ∀ x ∈ b.2.1, x.2.2.2.1.length ≤ maxLen) (hr : ∀ x ∈ b.2.1, InV n x.2.2.2.1 ∧ 0 ≤ x.1 ∧ x.1 < (n : Int)) {B : List Bool} (hB : B.length = n) {k : FU → Int → BB → List Bool → Prop}
    (h : ∀ s' : List Bool, s'.length = n → (∀ v : Nat, Tr s' v ↔ Bk b B 0 v) → k f s4 s5 s') : l19r5v3 k u (b.2.1.length : Int) f s4 s5 b B := by
  have hm := hml
  constructor
  intro I hI
  have key : ∀ j, j ≤ b.2.1.length → ∀ s : List Bool, s.length = n → (∀ v : Nat, Tr s v ↔ Bk b B j v) → I u (j : Int) f s4 s5 b s := by
    intro j
    induction j with
    | zero => exact fun _ s hs hv => hI _ _ _ _ _ _ _ (brE (fun _ => h s hs hv) fun e => (e rfl).elim)
    | succ j ih =>
      intro hj s hs hv
      apply hI
      have hjl : j < b.2.1.length := by omega
      have hx := List.getElem_mem hjl
      obtain ⟨r1, r2, r3⟩ := hr _ hx
      obtain ⟨a, hta⟩ := Int.eq_ofNat_of_zero_le r2
      have hw : IntKind.wrap .i64 (((j + 1 : Nat) : Int) - 1) = ((j : Nat) : Int) := by rw [wrap64 (by omega) (by omega)]; omega
      rw [hw]
      refine brE (fun e => absurd e (by omega)) fun _ => needAt hjl ?_
      rw [hta, Int.toNat_natCast]
      refine brD (by omega) (needNth (by omega) (l19r12v3_ok (ha _ hx) r1 (by simp [hs]) fun s' h1 h2 => ?_))
      show I u (IntKind.wrap .i64 (((j + 1 : Nat) : Int) - 1)) f s4 s5 b s'
      rw [hw]
      refine ih (by omega) s' h1 fun v => ?_
      rw [h2, tr_set (by omega), hv, bk_step hjl, hta]
      refine or_congr ⟨?_, ?_⟩ Iff.rfl
      · rintro (⟨_, w⟩ | ⟨w1, w2⟩)
        · cases w
        · exact ⟨by omega, w2⟩
      · exact fun ⟨w1, w2⟩ => .inr ⟨by omega, w2⟩
  exact key _ (Nat.le_refl _) B hB fun v => bk_end.symm
theorem c19v3_ok {n : Nat} {u : Unit} {f : FU} (hz : Szu f) {s4 : Int} {s5 : BB} {kb : Nat} (hk : kb < f.2.1.length) (hn : n ≤ 100000) (hr : ∀ x ∈ f.2.1[kb].2.1, InV n x.2.2.2.1 ∧ 0 ≤ x.1 ∧ x.1 < (n : Int)) {B : List Bool} (hg : s5[kb]? = some B) (hB : B.length = n) {k : FU → Int → BB → List Bool → Prop}
    (h : ∀ s' : List Bool, s'.length = n → (∀ v : Nat, Tr s' v ↔ Bk f.2.1[kb] B 0 v) → k f s4 s5 s') : c19v3 (kb : Int) u f s4 s5 k := by
  have hb := List.getElem_mem hk
  obtain ⟨hkl, _⟩ := List.getElem?_eq_some_iff.1 hg
  constructor
  refine needAt hk (brD (by omega) ?_)
  rw [Int.toNat_natCast]
  refine needS hg (needS hg (c34_ok (by omega) ?_))
  rw [set_self hg]
  exact l19r5v3_ok hn (hz.ins _ hb) (hz.args _ hb) hr hB h
theorem at_here {B : BB} {i v : Nat} {y : List Bool} (h : B[i]? = some y) : At B i v ↔ Tr y v := ⟨fun ⟨z, h1, h2⟩ => by rw [h] at h1; obtain rfl := Option.some.inj h1; exact h2, fun w => ⟨y, h, w⟩⟩
theorem at_set {B : BB} {i : Nat} {y : List Bool} (hi : i < B.length) {j v : Nat} : At (B.set i y) j v ↔ (j = i ∧ Tr y v) ∨ (j ≠ i ∧ At B j v) := by
  unfold At
  by_cases e : j = i
  · subst e; rw [List.getElem?_set_self hi]; simp
  · rw [List.getElem?_set_ne (fun h => e h.symm)]; simp [e]
structure Vn (f : FU) (n : Nat) : Prop where
  pos : 1 ≤ n
  le : n ≤ 5000
  opr : ∀ b ∈ f.2.1, InV n (opr b.2.2.1)
  ins : ∀ b ∈ f.2.1, ∀ x ∈ b.2.1, InV n x.2.2.2.1 ∧ 0 ≤ x.1 ∧ x.1 < (n : Int)
theorem vn_of {f : FU} {m : MP} (hf : FOk f m) (hU : AllU f) : Vn f (frsh f + 1).toNat := by
  obtain ⟨h1, h2, h3⟩ := frsh_ok hf
  have us : ∀ {v : Int} {k i : Nat}, Us f v k i → 0 ≤ v ∧ v < ((frsh f + 1).toNat : Int) := fun {v k i} ⟨k', i', hd, _⟩ => by
    have := h3 v k' i' hd
    omega
  refine ⟨by omega, by omega, fun b hb a ha => ?_, fun b hb x hx => ⟨fun a ha => ?_, ?_⟩⟩
  · obtain ⟨k, hk⟩ := List.mem_iff_getElem?.1 hb
    exact us ((hU k b hk).2 a ha)
  · obtain ⟨k, hk⟩ := List.mem_iff_getElem?.1 hb
    obtain ⟨j, hj⟩ := List.mem_iff_getElem?.1 hx
    exact us ((hU k b hk).1 j x hj a ha)
  · obtain ⟨k, hk⟩ := List.mem_iff_getElem?.1 hb
    obtain ⟨j, hj⟩ := List.mem_iff_getElem?.1 hx
    have := h3 x.1 k (j + 1) ⟨b, hk, .inr ⟨j, x, rfl, hj, rfl⟩⟩
    omega
structure Bs (f : FU) (n : Nat) (B F : BB) : Prop where
  lb : B.length = f.2.1.length
  lf : F.length = f.2.1.length
  rb : Rw n B
  rf : Rw n F
  rel : ∀ k b y, f.2.1[k]? = some b → B[k]? = some y → (y.length = 0 → ∀ v, ¬ At F k v) ∧ (y.length = n → ∃ z, F[k]? = some z ∧ z.length = n ∧ ∀ v, Tr z v ↔ Bk b y 0 v)
  sndB : ∀ k b v, f.2.1[k]? = some b → At B k v → Lv f (v : Int) k b.2.1.length
  sndF : ∀ k v, At F k v → Lv f (v : Int) k 0
  mon : ∀ k b v, f.2.1[k]? = some b → At B k v → Le f F b v
theorem Le.mono {f : FU} {F F' : BB} (h : ∀ k v, At F k v → At F' k v) {b : BK} {v : Nat} (q : Le f F b v) : Le f F' b v := q.imp id fun ⟨e, he, w1, w2⟩ => ⟨e, he, h _ _ w1, w2⟩
theorem Bk.mono {b : BK} {B B' : List Bool} (h : ∀ v, Tr B v → Tr B' v) {j v : Nat} (q : Bk b B j v) : Bk b B' j v := q.imp id fun ⟨w1, w2⟩ => ⟨w1, h _ w2⟩
theorem le_lv {f : FU} {m : MP} (hf : FOk f m) {F : BB} (hF : ∀ k v, At F k v → Lv f (v : Int) k 0) {k : Nat} {b : BK} (hb : f.2.1[k]? = some b) {i v : Nat} (h0 : scn (v : Int) (b.2.1.drop i) = 0) (h : Le f F b v) : Lv f (v : Int) k i := by
  rcases h with h | ⟨e, he, h1, h2⟩
  · exact .hit ⟨b, hb, .inr ⟨h0, h⟩⟩
  · obtain ⟨q1, q2, _⟩ := hf.edg b (List.mem_of_getElem? hb) e he
    exact .nx (j := e.1.toNat) ⟨b, hb, h0, e, he, by omega, h2⟩ (hF _ _ h1)
theorem Bs.upd {f : FU} {m : MP} (hf : FOk f m) {n : Nat} {B F : BB} (h : Bs f n B F) (hn : 1 ≤ n) {k : Nat} {b : BK} (hb : f.2.1[k]? = some b) {nl z : List Bool} (h1 : nl.length = n) (h2 : ∀ v, Tr nl v ↔ Le f F b v) (h3 : z.length = n) (h4 : ∀ v, Tr z v ↔ Bk b nl 0 v) : Bs f n (B.set k nl) (F.set k z) := by
  have hk := (List.getElem?_eq_some_iff.1 hb).1
  have hkB : k < B.length := by rw [h.lb]; exact hk
  have hkF : k < F.length := by rw [h.lf]; exact hk
  have hyB := List.getElem?_eq_getElem hkB
  have hup : ∀ k' v, At F k' v → At (F.set k z) k' v := fun k' v q => by
    rw [at_set hkF]
    by_cases e : k' = k
    · subst e
      refine .inl ⟨rfl, (h4 v).2 ?_⟩
      obtain ⟨r1, r2⟩ := h.rel k' b _ hb hyB
      rcases h.rb _ (List.getElem_mem hkB) with w | w
      · exact (r1 w v q).elim
      · obtain ⟨z0, g1, _, g3⟩ := r2 w
        have := (g3 v).1 ((at_here g1).1 q)
        exact this.mono fun v w2 => (h2 v).2 (h.mon k' b v hb ((at_here hyB).2 w2))
    · exact .inr ⟨e, q⟩
  refine ⟨by rw [List.length_set, h.lb], by rw [List.length_set, h.lf], fun y hy => ?_, fun y hy => ?_, fun k' b' y hb' hy => ?_, fun k' b' v hb' q => ?_, fun k' v q => ?_, fun k' b' v hb' q => ?_⟩
  · rcases List.mem_or_eq_of_mem_set hy with w | rfl
    · exact h.rb y w
    · exact .inr h1
  · rcases List.mem_or_eq_of_mem_set hy with w | rfl
    · exact h.rf y w
    · exact .inr h3
  · by_cases e : k' = k
    · subst e
      rw [hb] at hb'
      obtain rfl := Option.some.inj hb'
      rw [List.getElem?_set_self hkB] at hy
      obtain rfl := Option.some.inj hy
      exact ⟨fun w => by omega, fun _ => ⟨z, List.getElem?_set_self hkF, h3, h4⟩⟩
    · rw [List.getElem?_set_ne (fun w => e w.symm)] at hy
      obtain ⟨r1, r2⟩ := h.rel k' b' y hb' hy
      refine ⟨fun w v q => ?_, fun w => ?_⟩
      · rcases (at_set hkF).1 q with ⟨q1, _⟩ | ⟨_, q⟩
        · exact e q1
        · exact r1 w v q
      · rw [List.getElem?_set_ne (fun w => e w.symm)]; exact r2 w
  · rcases (at_set hkB).1 q with ⟨rfl, q3⟩ | ⟨_, q⟩
    · rw [hb] at hb'
      obtain rfl := Option.some.inj hb'
      exact le_lv hf h.sndF hb (by rw [List.drop_length]; rfl) ((h2 v).1 q3)
    · exact h.sndB k' b' v hb' q
  · rcases (at_set hkF).1 q with ⟨rfl, q3⟩ | ⟨_, q⟩
    · rcases (h4 v).1 q3 with w | ⟨w1, w2⟩
      · exact .hit ⟨b, hb, .inl w⟩
      · exact le_lv hf h.sndF hb w1 ((h2 v).1 w2)
    · exact h.sndF k' v q
  · rcases (at_set hkB).1 q with ⟨rfl, q3⟩ | ⟨_, q⟩
    · rw [hb] at hb'
      obtain rfl := Option.some.inj hb'
      exact ((h2 v).1 q3).mono hup
    · exact (h.mon k' b' v hb' q).mono hup
def wt (n : Nat) (y : List Bool) : Nat := if y.length = 0 then n + 1 else n - y.count true
def wtB (n : Nat) (B : BB) (k : Nat) : Nat := match B[k]? with | some y => wt n y | none => 0
def mb (n : Nat) (B : BB) : Nat := smf (wtB n B) B.length
theorem mb_upd {n : Nat} {B : BB} {k : Nat} {nl y : List Bool} (hy : B[k]? = some y) (h1 : nl.length = n) (hn : 1 ≤ n) (hr : y.length = 0 ∨ (y.length = n ∧ (∀ v, Tr y v → Tr nl v) ∧ nl ≠ y)) : mb n (B.set k nl) < mb n B := by
  have hk := (List.getElem?_eq_some_iff.1 hy).1
  have hw : wtB n (B.set k nl) k < wtB n B k := by
    unfold wtB
    rw [List.getElem?_set_self hk, hy]
    show wt n nl < wt n y
    unfold wt
    rw [if_neg (by omega)]
    rcases hr with w | ⟨w1, w2, w3⟩
    · rw [if_pos w]; omega
    · rw [if_neg (by omega)]
      obtain ⟨c1, c2⟩ := cnt_eq (s := y) (s' := nl) (by omega) w2
      have := List.count_le_length (a := true) (l := nl)
      have : ¬ nl.count true ≤ y.count true := fun w => w3 (c2 w)
      omega
  unfold mb
  rw [List.length_set]
  refine smf_lt (fun i hi => ?_) hk hw
  by_cases e : i = k
  · subst e; omega
  · unfold wtB
    rw [List.getElem?_set_ne (fun w => e w.symm)]
    exact Nat.le_refl _
def Dk (f : FU) (n : Nat) (B F : BB) (k : Nat) : Prop := ∃ b y, f.2.1[k]? = some b ∧ B[k]? = some y ∧ y.length = n ∧ ∀ v, Tr y v ↔ Le f F b v
def Pb (f : FU) (n : Nat) (B0 F0 : BB) (P : Nat → Prop) (again : Bool) (B F : BB) : Prop :=
  Bs f n B F ∧ ((again = false ∧ B = B0 ∧ F = F0 ∧ ∀ k, P k → Dk f n B0 F0 k) ∨ (again = true ∧ mb n B < mb n B0))
theorem l18r10v2_ok {f : FU} {m : MP} (hf : FOk f m) (hz : Szu f) {n : Nat} (hV : Vn f n) {B0 F0 : BB} (h0 : Bs f n B0 F0) {s3 : FU} {k1 : Bool → FU → FU → Int → BB → BB → Prop}
    (hk1 : (∀ k, k < f.2.1.length → Dk f n B0 F0 k) → k1 false s3 f (n : Int) B0 F0) (hk2 : ∀ B F, Bs f n B F → mb n B < mb n B0 → k1 true s3 f (n : Int) B F) :
    l18r10v2 k1 false (IntKind.wrap .i64 ((f.2.1.length : Int) - 1)) s3 f (n : Int) B0 F0 := by
  have hn := hf.le
  have hle := hV.le
  have hpos := hV.pos
  constructor
  intro I hI
  have key : ∀ i, i ≤ f.2.1.length → ∀ a B F, Pb f n B0 F0 (fun k => i ≤ k ∧ k < f.2.1.length) a B F → I a ((i : Int) - 1) s3 f (n : Int) B F := by
    intro i
    induction i with
    | zero =>
      intro _ a B F h
      apply hI
      refine brDn (by omega) ?_
      rcases h.2 with ⟨rfl, rfl, rfl, h4⟩ | ⟨rfl, h4⟩
      · exact hk1 fun k hk => h4 k ⟨Nat.zero_le _, hk⟩
      · exact hk2 _ _ h.1 h4
    | succ k ih =>
      intro hk' a B F h
      have hk : k < f.2.1.length := by omega
      have hb := List.getElem_mem hk
      have hg := List.getElem?_eq_getElem hk
      obtain ⟨hBs, hP⟩ := h
      have hkB : k < B.length := by rw [hBs.lb]; exact hk
      have hkF : k < F.length := by rw [hBs.lf]; exact hk
      have hy := List.getElem?_eq_getElem hkB
      apply hI
      rw [show (((k + 1 : Nat) : Int) - 1) = (k : Int) by omega, wrap64 (a := (k : Int) - 1) (by omega) (by omega)]
      refine brD (by omega) (c32v2_ok hf hz (by omega) hBs.lf hBs.rf hk (hV.opr _ hb) fun nl h1 h2 => ?_)
      -- the new row
      have up : (B[k].length = 0 ∨ (B[k].length = n ∧ (∀ v, Tr B[k] v → Tr nl v) ∧ nl ≠ B[k])) → c19v3 (k : Int) () f (n : Int) (B.set k nl) (fun z16 z17 z18 z19 => br (decide ((0 : Int) ≤ (k : Int) ∧ (k : Int) < ((F.length : Nat) : Int))) (need False F[k]? fun y20 => I true ((k : Int) - 1) s3 z16 z17 z18 (F.set k z19)) False) := fun hr => by
        refine c19v3_ok hz hk (by omega) (hV.ins _ hb) (List.getElem?_set_self hkB) h1 fun z h3 h4 => ?_
        refine brD (by omega) (needNth hkF (ih (by omega) true _ _ ⟨hBs.upd hf hpos hg h1 h2 h3 h4, .inr ⟨rfl, ?_⟩⟩))
        have := mb_upd hy h1 hpos hr
        rcases hP with ⟨_, rfl, _⟩ | ⟨_, w⟩
        · exact this
        · omega
      have same : nl = B[k] → I a ((k : Int) - 1) s3 f (n : Int) B F := fun e => ih (by omega) a B F ⟨hBs, hP.imp (fun ⟨w1, w2, w3, w4⟩ => ⟨w1, w2, w3, fun j hj => by
        by_cases q : j = k
        · subst q
          refine ⟨_, nl, hg, ?_, h1, ?_⟩
          · rw [← w2, hy, e]
          · rw [← w3]; exact h2
        · exact w4 j ⟨by omega, hj.2⟩⟩) id⟩
      have hsub : B[k].length = n → ∀ v, Tr B[k] v → Tr nl v := fun _ v q => (h2 v).2 (hBs.mon k _ v hg ((at_here hy).2 q))
      rw [Int.toNat_natCast]
      refine brD (by omega) (needS hy (needS hy ?_))
      rw [set_self hy]
      have cmp : (B[k].length = 0 ∨ B[k].length = n) → c33 nl B[k] (fun z22 => br z22 (I a ((k : Int) - 1) s3 f (n : Int) B F) (br (decide ((0 : Int) ≤ (k : Int) ∧ (k : Int) < ((B.length : Nat) : Int))) (need False B[k]? fun y23 => c19v3 (k : Int) () f (n : Int) (B.set k nl)
          (fun z16 z17 z18 z19 => br (decide ((0 : Int) ≤ (k : Int) ∧ (k : Int) < ((F.length : Nat) : Int))) (need False F[k]? fun y20 => I true ((k : Int) - 1) s3 z16 z17 z18 (F.set k z19)) False)) False)) := fun hl =>
        c33_ok (by omega) (fun e => brT rfl (same e)) fun e => brF rfl (brD (by omega) (needS hy (up (hl.imp id fun w => ⟨w, hsub w, e⟩))))
      refine brB (fun e => ⟨brD (by omega) (needS hy (up (.inl (by rw [List.isEmpty_iff.1 e]; rfl)))), brD (by omega) (needS hy (brD rfl (cmp (.inl (by rw [List.isEmpty_iff.1 e]; rfl)))))⟩) fun e => brD (by omega) (needS hy (brD rfl (cmp (hBs.rb _ (List.getElem_mem hkB)))))
  have hp := hf.pos
  rw [wrap64 (by omega) (by omega)]
  exact key _ (Nat.le_refl _) false B0 F0 ⟨h0, .inl ⟨rfl, rfl, rfl, fun k hk => absurd hk.1 (by omega)⟩⟩
structure Lb (f : FU) (n : Nat) (B F : BB) : Prop where
  lb : B.length = f.2.1.length
  lf : F.length = f.2.1.length
  rb : ∀ y ∈ B, y.length = n
  rf : ∀ y ∈ F, y.length = n
  behind : ∀ k b v, f.2.1[k]? = some b → (At B k v ↔ Lv f (v : Int) k b.2.1.length)
  first : ∀ k v, k < f.2.1.length → (At F k v ↔ Lv f (v : Int) k 0)
theorem lb_of {f : FU} {m : MP} (hf : FOk f m) {n : Nat} (hn : 1 ≤ n) {B F : BB} (h : Bs f n B F) (hd : ∀ k, k < f.2.1.length → Dk f n B F k) : Lb f n B F := by
  have hrow : ∀ k (hk : k < f.2.1.length), ∃ y z, B[k]? = some y ∧ F[k]? = some z ∧ y.length = n ∧ z.length = n ∧ (∀ v, Tr y v ↔ Le f F f.2.1[k] v) ∧ ∀ v, Tr z v ↔ Bk f.2.1[k] y 0 v := fun k hk => by
    obtain ⟨b, y, h1, h2, h3, h4⟩ := hd k hk
    have hg := List.getElem?_eq_getElem hk
    rw [hg] at h1
    obtain rfl := Option.some.inj h1
    obtain ⟨z, g1, g2, g3⟩ := (h.rel k _ y hg h2).2 h3
    exact ⟨y, z, h2, g1, h3, g2, h4, g3⟩
  -- whatever is live is in the rows
  have key : ∀ (v : Nat) (k i : Nat), Lv f (v : Int) k i → ∀ (hk : k < f.2.1.length) (y : List Bool), B[k]? = some y → Bk f.2.1[k] y i v := by
    intro v k i hl
    induction hl with
    | @hit k i hh =>
      intro hk y hy
      obtain ⟨b, hb, q⟩ := hh
      rw [List.getElem?_eq_getElem hk] at hb
      obtain rfl := Option.some.inj hb
      rcases q with q | ⟨q1, q2⟩
      · exact .inl q
      · obtain ⟨y', z, g1, g2, g3, g4, g5, g6⟩ := hrow k hk
        rw [hy] at g1
        obtain rfl := Option.some.inj g1
        exact .inr ⟨q1, (g5 v).2 (.inl q2)⟩
    | @nx k i j hn _ ih =>
      intro hk y hy
      obtain ⟨b, hb, q1, e, he, ej, hv⟩ := hn
      rw [List.getElem?_eq_getElem hk] at hb
      obtain rfl := Option.some.inj hb
      obtain ⟨w1, w2, _⟩ := hf.edg _ (List.getElem_mem hk) e he
      have hj : j < f.2.1.length := by omega
      obtain ⟨yj, zj, p1, p2, p3, p4, p5, p6⟩ := hrow j hj
      have hjv := ih hj yj p1
      obtain ⟨y', z, g1, g2, g3, g4, g5, g6⟩ := hrow k hk
      rw [hy] at g1
      obtain rfl := Option.some.inj g1
      have ej2 : e.1.toNat = j := by omega
      exact .inr ⟨q1, (g5 v).2 (.inr ⟨e, he, by rw [ej2]; exact (at_here p2).2 ((p6 v).2 hjv), by rw [ej2]; exact hv⟩)⟩
  refine ⟨h.lb, h.lf, fun y hy => ?_, fun y hy => ?_, fun k b v hb => ⟨h.sndB k b v hb, fun hl => ?_⟩, fun k v hk => ⟨h.sndF k v, fun hl => ?_⟩⟩
  · obtain ⟨k, hk⟩ := List.mem_iff_getElem?.1 hy
    have hkl := (List.getElem?_eq_some_iff.1 hk).1
    obtain ⟨y', z, g1, _, g3, _⟩ := hrow k (by rw [← h.lb]; exact hkl)
    rw [hk] at g1
    obtain rfl := Option.some.inj g1
    exact g3
  · obtain ⟨k, hk⟩ := List.mem_iff_getElem?.1 hy
    have hkl := (List.getElem?_eq_some_iff.1 hk).1
    obtain ⟨y', z, _, g1, _, g3, _⟩ := hrow k (by rw [← h.lf]; exact hkl)
    rw [hk] at g1
    obtain rfl := Option.some.inj g1
    exact g3
  · have hk := (List.getElem?_eq_some_iff.1 hb).1
    obtain ⟨y, z, g1, _, g3, _⟩ := hrow k hk
    have := key v k _ hl hk y g1
    rw [List.getElem?_eq_getElem hk] at hb
    obtain rfl := Option.some.inj hb
    exact (at_here g1).2 (bk_end.1 this)
  · obtain ⟨y, z, g1, g2, _, _, _, g6⟩ := hrow k hk
    exact (at_here g2).2 ((g6 v).2 (key v k 0 hl hk y g1))
theorem l18r7v2_ok {f : FU} {m : MP} (hf : FOk f m) (hz : Szu f) {n : Nat} (hV : Vn f n) {k1 : FU → Int → BB → BB → Prop} (hk : ∀ B F, Lb f n B F → k1 f (n : Int) B F) {B F : BB} (h : Bs f n B F) : l18r7v2 k1 true f f (n : Int) B F := by
  constructor
  intro I hI
  have key : ∀ N B F, Bs f n B F → mb n B ≤ N → I true f f (n : Int) B F := by
    intro N
    induction N with
    | zero =>
      intro B F h hN
      exact hI _ _ _ _ _ _ (brT rfl (l18r10v2_ok hf hz hV h (fun hd => hI _ _ _ _ _ _ (brF rfl (hk B F (lb_of hf hV.pos h hd)))) fun B' F' _ w => absurd w (by omega)))
    | succ N ih =>
      intro B F h hN
      exact hI _ _ _ _ _ _ (brT rfl (l18r10v2_ok hf hz hV h (fun hd => hI _ _ _ _ _ _ (brF rfl (hk B F (lb_of hf hV.pos h hd)))) fun B' F' h' w => ih B' F' h' (by omega)))
  exact key _ B F h (Nat.le_refl _)
theorem bs_first {f : FU} {n : Nat} (hn : 1 ≤ n) : Bs f n (List.replicate f.2.1.length []) (List.replicate f.2.1.length []) := by
  have no : ∀ k v, ¬ At (List.replicate f.2.1.length ([] : List Bool)) k v := fun k v ⟨y, h1, h2⟩ => by
    rw [List.getElem?_replicate] at h1
    split at h1
    · obtain rfl := Option.some.inj h1
      unfold Tr at h2; cases h2
    · cases h1
  refine ⟨by simp, by simp, fun y hy => .inl (by rw [List.eq_of_mem_replicate hy]; rfl), fun y hy => .inl (by rw [List.eq_of_mem_replicate hy]; rfl), fun k b y hb hy => ?_, fun k b v _ q => (no k v q).elim, fun k v q => (no k v q).elim, fun k b v _ q => (no k v q).elim⟩
  have hk := (List.getElem?_eq_some_iff.1 hb).1
  rw [List.getElem?_replicate, if_pos hk] at hy
  obtain rfl := Option.some.inj hy
  exact ⟨fun _ v => no k v, fun w => by rw [List.length_nil] at w; omega⟩
theorem c18v2_ok {f : FU} (hz : Szu f) {k1 : Unit → Int → BB → Prop} {k2 : Int → FU → Int → BB → BB → Prop} (h1 : fErr f ≠ 0 → k1 () (fErr f) []) (h2 : fErr f = 0 → ∀ m, FOk f m → AllU f → ∀ B F, Lb f (frsh f + 1).toNat B F → k2 0 f (((frsh f + 1).toNat : Nat) : Int) B F) : c18v2 f k1 k2 := by
  constructor
  refine c30_ok hz (brN (fun e => h1 e) fun e => ?_)
  obtain ⟨m, hf, hU⟩ := fErr_ok e
  have hV := vn_of hf hU
  obtain ⟨g1, g2, _⟩ := frsh_ok hf
  have hn := hf.le
  have hw : IntKind.wrap .i64 (frsh f + 1) = (((frsh f + 1).toNat : Nat) : Int) := by rw [wrap64 (by omega) (by omega)]; omega
  have hl : l18r7v2 (fun z4 z5 z6 z7 => k2 0 z4 z5 z6 z7) true f f (IntKind.wrap .i64 (frsh f + 1)) (List.replicate (Int.toNat ((f.2.1.length : Nat) : Int)) []) (List.replicate (Int.toNat ((f.2.1.length : Nat) : Int)) []) := by
    rw [hw, Int.toNat_natCast]
    exact l18r7v2_ok hf hz hV (h2 e m hf hU) (bs_first hV.pos)
  refine ⟨c31_ok hz ?_, ?_⟩
  · repeat' (first | exact hl | refine And.intro ?_ ?_ | refine brT rfl ?_ | refine brT (eqT_self _ _) ?_ | (refine brD ?_ ?_; focus omega) | (refine brD ?_ ?_; focus rfl))
  · refine brD rfl (brD (by omega) (brT (eqT_self _ _) (brT (eqT_self _ _) (c31_ok hz ?_))))
    repeat' (first | exact hl | refine And.intro ?_ ?_ | refine brT rfl ?_ | refine brT (eqT_self _ _) ?_ | (refine brD ?_ ?_; focus omega) | (refine brD ?_ ?_; focus rfl))
open Classical in
noncomputable def fl (P : Nat → Prop) (n : Nat) : List Int := ((List.range n).filter fun v => decide (P v)).map fun v : Nat => (v : Int)
open Classical in
theorem fl_succ {P : Nat → Prop} {n : Nat} : fl P (n + 1) = fl P n ++ (if P n then [(n : Int)] else []) := by
  unfold fl
  rw [List.range_succ, List.filter_append, List.map_append]
  by_cases h : P n
  · simp [h]
  · simp [h]
theorem fl_yes {P : Nat → Prop} {n : Nat} (h : P n) : fl P (n + 1) = fl P n ++ [(n : Int)] := by rw [fl_succ, if_pos h]
theorem fl_no {P : Nat → Prop} {n : Nat} (h : ¬ P n) : fl P (n + 1) = fl P n := by rw [fl_succ, if_neg h, List.append_nil]
theorem fl_len {P : Nat → Prop} {n : Nat} : (fl P n).length ≤ n := by
  unfold fl
  rw [List.length_map]
  exact Nat.le_trans (List.length_filter_le _ _) (by simp)
theorem fl_zero {P : Nat → Prop} : fl P 0 = [] := by unfold fl; simp
theorem c21_ok {s : List Bool} {P : Nat → Prop} {k : List Int → Prop} (hl : s.length ≤ 100000) (hP : ∀ v, Tr s v ↔ P v) (h : k (fl P s.length)) : c21 s k := by
  constructor
  constructor
  intro I hI
  have key := upInd (N := s.length) (M := fun i => I s (s.length : Int) (i : Int) (fl P i)) (hI _ _ _ _ (brDn (by omega) h)) (fun i hi ih => by
    apply hI
    have hT : Tr s i ↔ s[i] = true := tr_get hi
    have := fl_len (P := P) (n := i)
    rw [wrapS (n := i) (by omega)]
    refine brD (by omega) (needAt hi (brB (fun e => brT (roomS (by omega)) ?_) fun e => ?_))
    · rw [fl_yes ((hP i).1 (hT.2 e))] at ih; exact ih
    · rw [fl_no fun w => by rw [hT.1 ((hP i).2 w)] at e; cases e] at ih; exact ih) 0 (Nat.zero_le _)
  rw [fl_zero] at key
  exact key
theorem c25_ok {a b : List Int} {k : Bool → Prop} (hl : a.length ≤ 100000) (h : a = b) (hk : k true) : c25 a b k := by
  subst h
  constructor
  refine brN (fun e => (e rfl).elim) fun _ => ?_
  constructor
  intro I hI
  exact upInd (N := a.length) (M := fun i => I a a (a.length : Int) (i : Int)) (hI _ _ _ _ (brDn (by omega) hk)) (fun i hi ih => hI _ _ _ _ (by
    rw [wrapS (n := i) (by omega)]
    exact brD (by omega) (needAt hi (needAt hi (brN (fun e => (e rfl).elim) fun _ => ih))))) 0 (Nat.zero_le _)
def insN (f : FU) (k : Nat) : Nat := match f.2.1[k]? with | some b => b.2.1.length | none => 0
theorem insN_at {f : FU} {k : Nat} (h : k < f.2.1.length) : insN f k = f.2.1[k].2.1.length := by unfold insN; rw [List.getElem?_eq_getElem h]
abbrev LRg := Int × Int × Int × Int × Unit
def Sg (W : Nat → Prop) (v k : Int) (l : List LRg) : Prop := (l = [] ∧ ∀ j, ¬ W j) ∨ ∃ a b : Nat, W a ∧ W b ∧ (∀ j, W j → a ≤ j ∧ j ≤ b) ∧ l = [(v, k, (a : Int), (b : Int), ())]
theorem Sg.uniq {W : Nat → Prop} {v k : Int} {l l' : List LRg} (h : Sg W v k l) (h' : Sg W v k l') : l = l' := by
  rcases h with ⟨rfl, h⟩ | ⟨a, b, h1, h2, h3, rfl⟩ <;> rcases h' with ⟨rfl, g⟩ | ⟨c, d, g1, g2, g3, rfl⟩
  · rfl
  · exact (h _ g1).elim
  · exact (g _ h1).elim
  · have e1 := h3 _ g1
    have e2 := h3 _ g2
    have e3 := g3 _ h1
    have e4 := g3 _ h2
    obtain rfl : a = c := by omega
    obtain rfl : b = d := by omega
    rfl
theorem Sg.congr {W W' : Nat → Prop} {v k : Int} {l : List LRg} (hw : ∀ j, W j ↔ W' j) (h : Sg W v k l) : Sg W' v k l := by
  have : W = W' := funext fun j => propext (hw j)
  rw [← this]; exact h
theorem Sg.len {W : Nat → Prop} {v k : Int} {l : List LRg} (h : Sg W v k l) : l.length ≤ 1 := by
  rcases h with ⟨rfl, _⟩ | ⟨a, b, _, _, _, rfl⟩
  · exact Nat.zero_le _
  · exact Nat.le_refl _
theorem Sg.blk {W : Nat → Prop} {v k : Int} {l : List LRg} (h : Sg W v k l) : ∀ x ∈ l, x.2.1 = k := by
  rcases h with ⟨rfl, _⟩ | ⟨a, b, _, _, _, rfl⟩
  · intro x hx; cases hx
  · intro x hx; obtain rfl := List.mem_singleton.1 hx; rfl
theorem sg_ex {P : Nat → Prop} {v k : Int} : ∀ n, ∃ l, Sg (fun j => j < n ∧ P j) v k l
  | 0 => ⟨[], .inl ⟨rfl, fun j h => absurd h.1 (by omega)⟩⟩
  | n + 1 => by
    obtain ⟨l, h⟩ := sg_ex (P := P) (v := v) (k := k) n
    by_cases q : P n
    · rcases h with ⟨rfl, h⟩ | ⟨a, b, h1, h2, h3, rfl⟩
      · exact ⟨_, .inr ⟨n, n, ⟨by omega, q⟩, ⟨by omega, q⟩, fun j hj => by
          by_cases e : j = n
          · omega
          · exact (h j ⟨by omega, hj.2⟩).elim, rfl⟩⟩
      · exact ⟨_, .inr ⟨a, n, ⟨by omega, h1.2⟩, ⟨by omega, q⟩, fun j hj => by
          by_cases e : j = n
          · omega
          · have := h3 j ⟨by omega, hj.2⟩; omega, rfl⟩⟩
    · exact ⟨l, h.congr fun j => ⟨fun ⟨w1, w2⟩ => ⟨by omega, w2⟩, fun ⟨w1, w2⟩ => ⟨by
        by_cases e : j = n
        · subst e; exact (q w2).elim
        · omega, w2⟩⟩⟩
open Classical in
noncomputable def rg (f : FU) (v k : Nat) : List LRg := if h : ∃ l, Sg (fun j => j ≤ insN f k ∧ Lv f (v : Int) k j) (v : Int) (k : Int) l then h.choose else []
theorem rg_ok {f : FU} {v k : Nat} : Sg (fun j => j ≤ insN f k ∧ Lv f (v : Int) k j) (v : Int) (k : Int) (rg f v k) := by
  have h : ∃ l, Sg (fun j => j ≤ insN f k ∧ Lv f (v : Int) k j) (v : Int) (k : Int) l := by
    obtain ⟨l, h⟩ := sg_ex (P := fun j => Lv f (v : Int) k j) (v := (v : Int)) (k := (k : Int)) (insN f k + 1)
    exact ⟨l, h.congr fun j => and_congr (by omega) Iff.rfl⟩
  unfold rg
  rw [dif_pos h]
  exact h.choose_spec
noncomputable def pv (f : FU) (v : Nat) : Nat → List LRg
  | 0 => []
  | k + 1 => pv f v k ++ rg f v k
theorem pv_len {f : FU} {v : Nat} : ∀ k, (pv f v k).length ≤ k
  | 0 => Nat.le_refl _
  | k + 1 => by
    have := pv_len (f := f) (v := v) k
    have := (rg_ok (f := f) (v := v) (k := k)).len
    rw [pv, List.length_append]; omega
theorem pv_blk {f : FU} {v : Nat} : ∀ k, ∀ x ∈ pv f v k, x.2.1 < (k : Int)
  | 0 => fun x hx => by cases hx
  | k + 1 => fun x hx => by
    rw [pv, List.mem_append] at hx
    rcases hx with hx | hx
    · have := pv_blk k x hx; omega
    · have := (rg_ok (f := f) (v := v) (k := k)).blk x hx; omega
def upr (v k p : Int) (y : List LRg) : List LRg := match y[y.length - 1]? with
  | some x => if x.2.1 = k then y.set (y.length - 1) (x.1, x.2.1, p, x.2.2.2) else y ++ [(v, k, p, p, ())]
  | none => y ++ [(v, k, p, p, ())]
theorem upr_len {v k p : Int} {y : List LRg} : (upr v k p y).length ≤ y.length + 1 := by
  unfold upr
  split
  · split
    · rw [List.length_set]; omega
    · rw [List.length_append]; exact Nat.le_refl _
  · rw [List.length_append]; exact Nat.le_refl _
theorem upr_sg {W : Nat → Prop} {v k : Int} {p : Nat} {y c : List LRg} (hy : ∀ x ∈ y, x.2.1 < k) (hc : Sg W v k c) (hp : ∀ j, W j → p < j) : ∃ c', upr v k (p : Int) (y ++ c) = y ++ c' ∧ Sg (fun j => j = p ∨ W j) v k c' := by
  rcases hc with ⟨rfl, h⟩ | ⟨a, b, h1, h2, h3, rfl⟩
  · refine ⟨[(v, k, (p : Int), (p : Int), ())], ?_, .inr ⟨p, p, .inl rfl, .inl rfl, fun j hj => hj.elim (by omega) fun q => (h j q).elim, rfl⟩⟩
    rw [List.append_nil]
    unfold upr
    split
    · rename_i x hx
      rw [if_neg]
      have := hy x (List.mem_of_getElem? hx)
      omega
    · rfl
  · refine ⟨[(v, k, (p : Int), (b : Int), ())], ?_, .inr ⟨p, b, .inl rfl, .inr h2, fun j hj => ?_, rfl⟩⟩
    · unfold upr
      have e : (y ++ [(v, k, (a : Int), (b : Int), ())]).length - 1 = y.length := by rw [List.length_append]; rfl
      rw [e, List.getElem?_append_right (Nat.le_refl _), Nat.sub_self]
      show (if k = k then _ else _) = _
      rw [if_pos rfl, List.set_append_right _ _ (Nat.le_refl _), Nat.sub_self]
      rfl
    · have := hp _ h2
      rcases hj with rfl | q
      · exact ⟨Nat.le_refl _, by omega⟩
      · have := h3 j q; have := hp _ q; omega
theorem l20r1_ok {n : Nat} (hn : n ≤ 100000) {p kk : Int} {l : List Int} (hll : l.length ≤ 100000) (hr : InV n l) (hnd : l.Nodup) {K : List (List LRg) → Int → Prop} {X : List (List LRg)} (hX : X.length = n) (hx : ∀ (v : Nat) (y : List LRg), X[v]? = some y → y.length ≤ 100000)
    (h : ∀ X' : List (List LRg), X'.length = n → (∀ (v : Nat) (y : List LRg), X[v]? = some y → ((v : Int) ∈ l → X'[v]? = some (upr (v : Int) kk p y)) ∧ ((v : Int) ∉ l → X'[v]? = some y)) → K X' kk) : l20r1 K p (l.length : Int) 0 X kk l := by
  constructor
  intro I hI
  have key := dropInd (l := l) (M := fun i r => (∀ a ∈ r, a ∈ l) → r.Nodup → ∀ X : List (List LRg), X.length = n → (∀ (v : Nat) (y : List LRg), (v : Int) ∈ r → X[v]? = some y → y.length ≤ 100000) → (∀ X' : List (List LRg), X'.length = n → (∀ (v : Nat) (y : List LRg), X[v]? = some y → ((v : Int) ∈ r → X'[v]? = some (upr (v : Int) kk p y)) ∧ ((v : Int) ∉ r → X'[v]? = some y)) → K X' kk) → I p (l.length : Int) (i : Int) X kk l)
    (fun _ _ X hX _ h => hI _ _ _ _ _ _ (brDn (by omega) (h X hX fun v y hy => ⟨fun q => (by cases q), fun _ => hy⟩)))
    (fun i hi ih hsub hnd X hX hx h => by
      apply hI
      obtain ⟨a1, a2⟩ := hr _ (List.getElem_mem hi)
      obtain ⟨a, ha⟩ := Int.eq_ofNat_of_zero_le a1
      rw [List.nodup_cons] at hnd
      have ha2 : a < X.length := by omega
      have hy := List.getElem?_eq_getElem ha2
      have hyl := hx a _ (by rw [← ha]; exact List.mem_cons_self ..) hy
      generalize X[a] = y at hy hyl
      have next : I p (l.length : Int) ((i + 1 : Nat) : Int) (X.set a (upr (a : Int) kk p y)) kk l := ih (fun b hb => hsub b (List.mem_cons_of_mem _ hb)) hnd.2 _ (by simp [hX]) (fun v z hv hz => by
          have hva : v ≠ a := fun e => hnd.1 (by rw [ha, ← e]; exact hv)
          rw [List.getElem?_set_ne (Ne.symm hva)] at hz
          exact hx v z (List.mem_cons_of_mem _ hv) hz) fun X' h1 h2 => h X' h1 fun v z hz => by
        by_cases e : v = a
        · subst e
          rw [hy] at hz
          obtain rfl := Option.some.inj hz
          have hno : (v : Int) ∉ l.drop (i + 1) := by rw [← ha]; exact hnd.1
          exact ⟨fun _ => (h2 v _ (List.getElem?_set_self ha2)).2 hno, fun q => (q (by rw [ha]; exact List.mem_cons_self ..)).elim⟩
        · have hz' : (X.set a (upr (a : Int) kk p y))[v]? = some z := by rw [List.getElem?_set_ne (Ne.symm e)]; exact hz
          have hm : (v : Int) ∈ l[i] :: l.drop (i + 1) ↔ (v : Int) ∈ l.drop (i + 1) := by
            rw [List.mem_cons, ha]
            exact ⟨fun q => q.elim (fun q => (e (by omega)).elim) id, .inr⟩
          rw [hm]
          exact h2 v z hz'
      rw [wrapS (n := i) (by omega)]
      refine brD (by omega) (brD (by omega) ?_)
      rw [Int.toNat_natCast]
      refine needNth hi ?_
      rw [ha, Int.toNat_natCast]
      refine brD (by omega) (needS hy (needS hy ?_))
      rw [set_self hy]
      have room : roomB (y.length + 1) 32 = true := roomS (by omega)
      have put : y ++ [((a : Int), kk, p, p, ())] = upr (a : Int) kk p y → I p (l.length : Int) ((i + 1 : Nat) : Int) (X.set a (y ++ [((a : Int), kk, p, p, ())])) kk l := fun e => by rw [e]; exact next
      refine brP (fun hpos => ?_) fun hz => ?_
      · have hw : IntKind.wrap .i64 ((y.length : Int) - 1) = ((y.length - 1 : Nat) : Int) := by rw [wrap64 (by omega) (by omega)]; omega
        have hyi : y.length - 1 < y.length := by omega
        have hxe := List.getElem?_eq_getElem hyi
        rw [hw]
        refine brD (by omega) (needS hy (needS hy (brT (eqT_self _ _) (brT (eqT_self _ _) (brD (by omega) ?_)))))
        rw [Int.toNat_natCast]
        refine needS hxe (brT (eqT_self _ _) ?_)
        rw [set_self hy]
        refine brE (fun e => ?_) fun e => ?_
        · refine brD (by omega) (needS hy (needS hy (brD (by omega) (needS hxe ?_))))
          have e2 : upr (a : Int) kk p y = y.set (y.length - 1) (y[y.length - 1].1, y[y.length - 1].2.1, p, y[y.length - 1].2.2.2) := by
            unfold upr; rw [hxe]; exact if_pos e
          rw [← e2]; exact next
        · have e2 : y ++ [((a : Int), kk, p, p, ())] = upr (a : Int) kk p y := by
            unfold upr; rw [hxe]; exact (if_neg e).symm
          refine brD (by omega) ⟨?_, ?_⟩
          · refine needS hy (needS hy (brT (eqT_self _ _) (brT (eqT_self _ _) (brT (eqT_self _ _) (brT (eqT_self _ _) (brT (eqT_self _ _) (brT (eqT_self _ _) (brT (eqT_self _ _) (brT room (brT (eqT_self _ _) (brD (by omega) (needS hy (brD rfl ?_)))))))))))))
            exact put e2
          · refine brT (eqT_self _ _) (brT (eqT_self _ _) (brD (by omega) (brT (by simp) (needS hy (needS hy (brT (eqT_self _ _) (brT room (brT (eqT_self _ _) (brD (by omega) (needS hy (brD rfl ?_)))))))))))
            exact put e2
      · have e2 : y ++ [((a : Int), kk, p, p, ())] = upr (a : Int) kk p y := by
          obtain rfl : y = [] := List.eq_nil_of_length_eq_zero (by omega)
          rfl
        refine brD (by omega) ⟨?_, ?_⟩
        · refine needS hy (needS hy (brT (eqT_self _ _) (brT (eqT_self _ _) (brT (eqT_self _ _) (brT (eqT_self _ _) (brT (eqT_self _ _) (brT (eqT_self _ _) (brT (eqT_self _ _) (brT room (brT (eqT_self _ _) (brD (by omega) (needS hy (brD rfl ?_)))))))))))))
          exact put e2
        · refine brT (eqT_self _ _) (brT (eqT_self _ _) (brD (by omega) (brT (by simp) (needS hy (needS hy (brT (eqT_self _ _) (brT room (brT (eqT_self _ _) (brD (by omega) (needS hy (brD rfl ?_)))))))))))
          exact put e2)
  exact key (fun _ h => h) hnd X hX (fun v y _ => hx v y) h
theorem bk_lv {f : FU} {n : Nat} {B F : BB} (h : Lb f n B F) {k : Nat} {b : BK} (hb : f.2.1[k]? = some b) {y : List Bool} (hy : B[k]? = some y) {j v : Nat} : Bk b y j v ↔ Lv f (v : Int) k j := by
  have hd : scn (v : Int) (b.2.1.drop b.2.1.length) = 0 := by rw [List.drop_length]; rfl
  have he : Tr y v ↔ Lv f (v : Int) k b.2.1.length := by rw [← at_here hy]; exact h.behind k b v hb
  constructor
  · rintro (w | ⟨w1, w2⟩)
    · exact .hit ⟨b, hb, .inl w⟩
    · have := he.1 w2
      cases this with
      | hit q =>
        obtain ⟨b', hb', q⟩ := q
        rw [hb] at hb'
        obtain rfl := Option.some.inj hb'
        rcases q with q | q
        · omega
        · exact .hit ⟨b, hb, .inr ⟨w1, q.2⟩⟩
      | nx q r =>
        obtain ⟨b', hb', _, q⟩ := q
        rw [hb] at hb'
        obtain rfl := Option.some.inj hb'
        exact .nx ⟨b, hb, w1, q⟩ r
  · intro q
    cases q with
    | hit q =>
      obtain ⟨b', hb', q⟩ := q
      rw [hb] at hb'
      obtain rfl := Option.some.inj hb'
      rcases q with q | ⟨q1, q2⟩
      · exact .inl q
      · exact .inr ⟨q1, he.2 (.hit ⟨b, hb, .inr ⟨hd, q2⟩⟩)⟩
    | nx q r =>
      obtain ⟨b', hb', q1, q⟩ := q
      rw [hb] at hb'
      obtain rfl := Option.some.inj hb'
      exact .inr ⟨q1, he.2 (.nx ⟨b, hb, hd, q⟩ r)⟩
open Classical in
theorem fl_mem {P : Nat → Prop} : ∀ {n a : Nat}, (a : Int) ∈ fl P n ↔ a < n ∧ P a := by
  intro n a
  unfold fl
  rw [List.mem_map]
  constructor
  · rintro ⟨v, hv, e⟩
    rw [List.mem_filter, List.mem_range, decide_eq_true_eq] at hv
    obtain rfl : v = a := by omega
    exact hv
  · intro h
    exact ⟨a, by rw [List.mem_filter, List.mem_range, decide_eq_true_eq]; exact h, rfl⟩
theorem fl_inv {P : Nat → Prop} {n : Nat} : InV n (fl P n) := by
  intro a h
  have h2 := h
  unfold fl at h2
  obtain ⟨v, hv, rfl⟩ := List.mem_map.1 h2
  have := (fl_mem (P := P) (n := n) (a := v)).1 h
  exact ⟨by omega, by omega⟩
theorem fl_nodup {P : Nat → Prop} : ∀ n, (fl P n).Nodup
  | 0 => by rw [fl_zero]; exact List.nodup_nil
  | n + 1 => by
    by_cases h : P n
    · rw [fl_yes h, List.nodup_append]
      refine ⟨fl_nodup n, List.pairwise_singleton _ _, fun a ha b hb e => ?_⟩
      rw [List.mem_singleton] at hb
      have := (fl_inv (P := P) (n := n)) a ha
      omega
    · rw [fl_no h]; exact fl_nodup n
theorem c20_ok {n : Nat} (hn : n ≤ 100000) {p kk : Int} {s : List Bool} (hs : s.length = n) {P : Nat → Prop} (hP : ∀ v, Tr s v ↔ P v) {K : List (List LRg) → Int → Prop} {X : List (List LRg)} (hX : X.length = n) (hx : ∀ (v : Nat) (y : List LRg), X[v]? = some y → y.length ≤ 100000)
    (h : ∀ X' : List (List LRg), X'.length = n → (∀ (v : Nat) (y : List LRg), X[v]? = some y → (P v → X'[v]? = some (upr (v : Int) kk p y)) ∧ (¬ P v → X'[v]? = some y)) → K X' kk) : c20 p s X kk K := by
  constructor
  refine c21_ok (by omega) hP ?_
  rw [hs]
  have := fl_len (P := P) (n := n)
  refine l20r1_ok hn (by omega) fl_inv (fl_nodup n) hX hx fun X' h1 h2 => h X' h1 fun v y hy => ?_
  have hv : v < n := by have := (List.getElem?_eq_some_iff.1 hy).1; omega
  have := h2 v y hy
  rw [fl_mem] at this
  exact ⟨fun q => this.1 ⟨hv, q⟩, fun q => this.2 fun w => q w.2⟩
def Pq (f : FU) (n kb : Nat) (W : Nat → Nat → Prop) (X : List (List LRg)) : Prop := X.length = n ∧ ∀ v, v < n → ∃ c, X[v]? = some (pv f v kb ++ c) ∧ Sg (fun j => W j v) (v : Int) (kb : Int) c
theorem Pq.len {f : FU} {n kb : Nat} {W : Nat → Nat → Prop} {X : List (List LRg)} (h : Pq f n kb W X) : ∀ (v : Nat) (y : List LRg), X[v]? = some y → y.length ≤ kb + 1 := by
  intro v y hy
  have hv : v < n := by have := (List.getElem?_eq_some_iff.1 hy).1; rw [h.1] at this; exact this
  obtain ⟨c, h1, h2⟩ := h.2 v hv
  rw [hy] at h1
  obtain rfl := Option.some.inj h1
  have := h2.len
  have := pv_len (f := f) (v := v) kb
  rw [List.length_append]; omega
theorem Pq.congr {f : FU} {n kb : Nat} {W W' : Nat → Nat → Prop} {X : List (List LRg)} (h : Pq f n kb W X) (hw : ∀ j v, W j v ↔ W' j v) : Pq f n kb W' X :=
  ⟨h.1, fun v hv => by
    obtain ⟨c, h1, h2⟩ := h.2 v hv
    exact ⟨c, h1, h2.congr fun j => hw j v⟩⟩
theorem Pq.step {f : FU} {n kb p : Nat} {W : Nat → Nat → Prop} {X X' : List (List LRg)} (h : Pq f n kb W X) {P : Nat → Prop} (hp : ∀ j v, W j v → p < j) (h1 : X'.length = n) (h2 : ∀ (v : Nat) (y : List LRg), X[v]? = some y → (P v → X'[v]? = some (upr (v : Int) (kb : Int) (p : Int) y)) ∧ (¬ P v → X'[v]? = some y)) : Pq f n kb (fun j v => (j = p ∧ P v) ∨ W j v) X' :=
  ⟨h1, fun v hv => by
    obtain ⟨c, g1, g2⟩ := h.2 v hv
    by_cases q : P v
    · obtain ⟨c', e1, e2⟩ := upr_sg (p := p) (pv_blk kb) g2 fun j hj => hp j v hj
      refine ⟨c', ?_, e2.congr fun j => or_congr ⟨fun e => ⟨e, q⟩, fun e => e.1⟩ Iff.rfl⟩
      rw [(h2 v _ g1).1 q, e1]
    · exact ⟨c, (h2 v _ g1).2 q, g2.congr fun j => ⟨.inr, fun w => w.elim (fun w => (q w.2).elim) id⟩⟩⟩
theorem l19r12v4_ok {n : Nat} {s1 s6 s9 : Int} {f : FU} {s7 : BB} {a8 : List (List LRg)} {b : BK} {l : List Int} {k : Int → FU → Int → BB → List (List LRg) → Int → BK → List Bool → Prop} (hl : l.length ≤ maxLen) (hr : InV n l) {s : List Bool} (hs : s.length = n)
    (h : ∀ s' : List Bool, s'.length = n → (∀ v : Nat, Tr s' v ↔ Tr s v ∨ (v : Int) ∈ l) → k s1 f s6 s7 a8 s9 b s') : l19r12v4 k s1 l (l.length : Int) 0 f s6 s7 a8 s9 b s := by
  have hm := hml
  constructor
  intro I hI
  have key := dropInd (l := l) (M := fun i r => (∀ a ∈ r, a ∈ l) → ∀ s : List Bool, s.length = n → (∀ s' : List Bool, s'.length = n → (∀ v : Nat, Tr s' v ↔ Tr s v ∨ (v : Int) ∈ r) → k s1 f s6 s7 a8 s9 b s') → I s1 l (l.length : Int) (i : Int) f s6 s7 a8 s9 b s)
    (fun _ s hs h => hI _ _ _ _ _ _ _ _ _ _ _ (brDn (by omega) (h s hs fun v => by simp)))
    (fun i hi ih hsub s hs h => by
      apply hI
      obtain ⟨a1, a2⟩ := hr _ (List.getElem_mem hi)
      obtain ⟨a, ha⟩ := Int.eq_ofNat_of_zero_le a1
      rw [wrapS (n := i) (by omega)]
      refine brD (by omega) (needAt hi ?_)
      rw [ha, Int.toNat_natCast]
      refine brD (by omega) (needNth (by omega) (ih (fun a h => hsub a (List.mem_cons_of_mem _ h)) _ (by simp [hs]) fun s' h1 h2 => h s' h1 fun v => ?_))
      rw [h2, tr_set (by omega), List.mem_cons]
      constructor
      · rintro ((⟨rfl, _⟩ | ⟨_, w⟩) | w)
        · exact .inr (.inl ha.symm)
        · exact .inl w
        · exact .inr (.inr w)
      · rintro (w | w | w)
        · by_cases e : v = a
          · exact .inl (.inl ⟨e, rfl⟩)
          · exact .inl (.inr ⟨e, w⟩)
        · exact .inl (.inl ⟨by omega, rfl⟩)
        · exact .inr w)
  exact key (fun _ h => h) s hs h
theorem l19r5v4_ok {n : Nat} {f : FU} {s3 : Int} {s4 : BB} {b : BK} (hn : n ≤ 100000) (hl : b.2.1.length ≤ maxLen) (ha : ∀ x ∈ b.2.1, x.2.2.2.1.length ≤ maxLen) (hr : ∀ x ∈ b.2.1, InV n x.2.2.2.1 ∧ 0 ≤ x.1 ∧ x.1 < (n : Int)) {B : List Bool} (hB : B.length = n) {kb : Nat} (hkb : kb ≤ 5000) {X : List (List LRg)} (hX : Pq f n kb (fun _ _ => False) X) {k : FU → Int → BB → List (List LRg) → Int → List Bool → Prop}
    (h : ∀ (X' : List (List LRg)) (s' : List Bool), Pq f n kb (fun j v => j ≤ b.2.1.length ∧ Bk b B j v) X' → k f s3 s4 X' (kb : Int) s') : l19r5v4 k (b.2.1.length : Int) f s3 s4 X (kb : Int) b B := by
  have hm := hml
  constructor
  intro I hI
  have key : ∀ j, j ≤ b.2.1.length → ∀ (X : List (List LRg)) (s : List Bool), s.length = n → (∀ v : Nat, Tr s v ↔ Bk b B j v) → Pq f n kb (fun i v => j < i ∧ i ≤ b.2.1.length ∧ Bk b B i v) X → I (j : Int) f s3 s4 X (kb : Int) b s := by
    intro j
    induction j with
    | zero =>
      intro _ X s hs hv2 hz
      refine hI _ _ _ _ _ _ _ _ (c20_ok hn hs hv2 hz.1 (fun v y hy => by have := hz.len v y hy; omega) fun X' h1 h2 => brE (fun _ => h X' s ((hz.step (p := 0) (fun j v hj => hj.1) h1 h2).congr fun j v => ?_)) fun e => (e rfl).elim)
      constructor
      · rintro (⟨rfl, q⟩ | ⟨q1, q2, q3⟩)
        · exact ⟨Nat.zero_le _, q⟩
        · exact ⟨q2, q3⟩
      · rintro ⟨q1, q2⟩
        by_cases e : j = 0
        · subst e; exact .inl ⟨rfl, q2⟩
        · exact .inr ⟨by omega, q1, q2⟩
    | succ j ih =>
      intro hj X s hs hv2 hz
      have hjl : j < b.2.1.length := by omega
      have hx := List.getElem_mem hjl
      obtain ⟨r1, r2, r3⟩ := hr _ hx
      obtain ⟨a, hta⟩ := Int.eq_ofNat_of_zero_le r2
      have hw2 : IntKind.wrap .i64 (((j + 1 : Nat) : Int) - 1) = ((j : Nat) : Int) := by rw [wrap64 (by omega) (by omega)]; omega
      refine hI _ _ _ _ _ _ _ _ (c20_ok hn hs hv2 hz.1 (fun v y hy => by have := hz.len v y hy; omega) fun X' h1 h2 => brE (fun e => absurd e (by omega)) fun _ => ?_)
      have hz2 := hz.step (p := j + 1) (fun j v hj => hj.1) h1 h2
      rw [hw2]
      refine needAt hjl ?_
      rw [hta, Int.toNat_natCast]
      refine brD (by omega) (needNth (by omega) (l19r12v4_ok (ha _ hx) r1 (by simp [hs]) fun s' h1 h2 => ?_))
      show I (IntKind.wrap .i64 (((j + 1 : Nat) : Int) - 1)) f s3 s4 X' _ b s'
      rw [hw2]
      refine ih (by omega) X' s' h1 (fun v => ?_) (hz2.congr fun i v => ?_)
      · rw [h2, tr_set (by omega), hv2, bk_step hjl, hta]
        refine or_congr ⟨?_, ?_⟩ Iff.rfl
        · rintro (⟨_, w⟩ | ⟨w1, w2⟩)
          · cases w
          · exact ⟨by omega, w2⟩
        · exact fun ⟨w1, w2⟩ => .inr ⟨by omega, w2⟩
      · constructor
        · rintro (⟨rfl, q⟩ | ⟨q1, q2, q3⟩)
          · exact ⟨by omega, hj, q⟩
          · exact ⟨by omega, q2, q3⟩
        · rintro ⟨q1, q2, q3⟩
          by_cases e : i = j + 1
          · subst e; exact .inl ⟨rfl, q3⟩
          · exact .inr ⟨by omega, q2, q3⟩
  exact key _ (Nat.le_refl _) X B hB (fun v => bk_end.symm) (hX.congr fun j v => ⟨False.elim, fun q => absurd q.1 (by omega)⟩)
theorem c34_ok' {s : List Bool} {k : List Bool → Prop} (hl : s.length ≤ 100000) (h : k s) : c34 s k := c34_ok hl h
theorem l8r6v2_ok {f : FU} {m : MP} (hf : FOk f m) (hz : Szu f) {n : Nat} (hV : Vn f n) {B F : BB} (hL : Lb f n B F) {k : List (List LRg) → Prop} (h : k ((List.range n).map fun v => pv f v f.2.1.length)) :
    l8r6v2 k (f.2.1.length : Int) 0 f (n : Int) B (List.replicate n ([] : List LRg)) := by
  have hn := hf.le
  have hle := hV.le
  constructor
  intro I hI
  have key := upInd (N := f.2.1.length) (M := fun i => ∀ X, Pq f n i (fun _ _ => False) X → I (f.2.1.length : Int) (i : Int) f (n : Int) B X)
    (fun X hX => hI _ _ _ _ _ _ (brDn (by omega) (by
      have e : X = (List.range n).map fun v => pv f v f.2.1.length := by
        refine List.ext_getElem? fun v => ?_
        by_cases hv : v < n
        · obtain ⟨c, h1, h2⟩ := hX.2 v hv
          have : c = [] := by
            rcases h2 with ⟨rfl, _⟩ | ⟨a, _, q, _⟩
            · rfl
            · exact q.elim
          rw [h1, this, List.append_nil, List.getElem?_map, List.getElem?_range hv]; rfl
        · rw [List.getElem?_eq_none (by rw [hX.1]; omega), List.getElem?_eq_none (by simp; omega)]
      rw [e]; exact h)))
    (fun i hi ih X hX => by
      apply hI
      have hb := List.getElem_mem hi
      have hg := List.getElem?_eq_getElem hi
      have hiB : i < B.length := by rw [hL.lb]; exact hi
      have hy := List.getElem?_eq_getElem hiB
      have rB := hL.rb _ (List.getElem_mem hiB)
      refine brD (by omega) ⟨needAt hi (brD (by omega) ?_)⟩
      rw [Int.toNat_natCast]
      refine needS hy (needS hy (c34_ok (by omega) ?_))
      rw [set_self hy]
      refine l19r5v4_ok (by omega) (hz.ins _ hb) (hz.args _ hb) (hV.ins _ hb) rB (by omega) hX fun X' s' hX' => ?_
      show I _ (IntKind.wrap .i64 ((i : Int) + 1)) _ _ _ X'
      rw [wrapS (n := i) (by omega)]
      refine ih X' ⟨hX'.1, fun v hv => ?_⟩
      obtain ⟨c, h1, h2⟩ := hX'.2 v hv
      have : c = rg f v i := Sg.uniq (h2.congr fun j => by rw [insN_at hi]; exact and_congr Iff.rfl (bk_lv hL hg hy)) rg_ok
      exact ⟨[], by rw [h1, this, List.append_nil]; rfl, .inl ⟨rfl, fun _ q => q⟩⟩)
    0 (Nat.zero_le _)
  exact key _ ⟨by simp, fun v hv => ⟨[], by rw [List.getElem?_replicate, if_pos hv]; rfl, .inl ⟨rfl, fun _ q => q⟩⟩⟩
theorem ft_succ {α : Type} {X : List (List α)} {i : Nat} (h : i < X.length) : (X.take (i + 1)).flatten = (X.take i).flatten ++ X[i] := by
  rw [List.take_succ_eq_append_getElem h, List.flatten_append, List.flatten_singleton]
theorem ft_all {α : Type} {X : List (List α)} (i : Nat) : X.flatten = (X.take i).flatten ++ (X.drop i).flatten := by
  rw [← List.flatten_append, List.take_append_drop]
theorem ft_le {α : Type} {X : List (List α)} (i : Nat) : (X.take i).flatten.length ≤ X.flatten.length := by
  rw [ft_all (X := X) i, List.length_append]; exact Nat.le_add_right _ _
theorem fl_bound {α : Type} {M : Nat} : ∀ {X : List (List α)}, (∀ y ∈ X, y.length ≤ M) → X.flatten.length ≤ X.length * M
  | [], _ => Nat.zero_le _
  | y :: X, h => by
    have h1 := fl_bound (X := X) fun z hz => h z (List.mem_cons_of_mem _ hz)
    have h2 := h y (List.mem_cons_self ..)
    rw [List.flatten_cons, List.length_append, List.length_cons, Nat.succ_mul]
    omega
theorem l22r3_ok {X : List (List LRg)} (hX : X.length ≤ 100000) (hL : X.flatten.length ≤ 100000000) {k : Int → List (List LRg) → Prop} (h : k (X.flatten.length : Int) X) : l22r3 k 0 (X.length : Int) 0 X := by
  constructor
  intro I hI
  have key := upInd (N := X.length) (M := fun i => I ((X.take i).flatten.length : Int) (X.length : Int) (i : Int) X) (hI _ _ _ _ (brDn (by omega) (by rw [List.take_length]; exact h))) (fun i hi ih => by
    apply hI
    have h1 := ft_le (X := X) (i + 1)
    rw [ft_succ hi, List.length_append] at h1 ih
    have hy := List.getElem?_eq_getElem hi
    rw [wrapS (n := i) (by omega)]
    refine brD (by omega) (brD (by omega) ?_)
    rw [Int.toNat_natCast]
    refine needS hy (needS hy ?_)
    rw [wrap64 (by omega) (by omega), set_self hy]
    refine brDn (by omega) ?_
    rw [Int.natCast_add] at ih
    exact ih) 0 (Nat.zero_le _)
  exact key
theorem c35_ok {N : Nat} (hN : N ≤ 100000000) {k1 : Nat → Nat → Nat → List LRg → Prop} {k2 : List LRg → Prop} (h1 : 0 < N → k1 0 0 N (List.replicate N ((0, 0, 0, 0, ()) : LRg))) (h2 : N = 0 → k2 []) : c35 (N : Int) k1 k2 := by
  constructor
  have hw : IntKind.wrap .i64 ((N : Int) - 0) = (N : Int) := by rw [wrap64 (by omega) (by omega)]; omega
  rw [hw, Int.toNat_natCast, List.length_replicate]
  refine brDn (by omega) (brP (fun q => brD (by omega) (brD (by omega) ?_)) fun q => h2 (by omega))
  have e : Int.toNat ((N : Int) - 0) = N := by omega
  rw [e]
  exact h1 (by omega)
theorem l22r11_ok {X : List (List LRg)} (hX : X.length ≤ 100000) (hL : X.flatten.length ≤ 100000000) {k1 : Nat → Nat → Nat → List (List LRg) → List LRg → Prop} {k2 : List (List LRg) → List LRg → Prop} {Y : List LRg} (hY : Y.length = X.flatten.length) (h : k1 0 X.flatten.length X.flatten.length X X.flatten) :
    l22r11 k1 k2 0 0 X.flatten.length (X.length : Int) 0 X Y := by
  constructor
  intro I1 I2 hI _
  have key := upInd (N := X.length) (M := fun i => ∀ Y : List LRg, Y.length = X.flatten.length → Y.take (X.take i).flatten.length = (X.take i).flatten → I1 0 (X.take i).flatten.length X.flatten.length (X.length : Int) (i : Int) X Y)
    (fun Y hY hT => hI _ _ _ _ _ _ _ (brDn (by omega) (by
      rw [List.take_length] at hT ⊢
      rw [← hY, List.take_length] at hT
      rw [hT]; exact h)))
    (fun i hi ih Y hY hT => by
      apply hI
      have h1 := ft_le (X := X) (i + 1)
      rw [ft_succ hi] at ih
      rw [ft_succ hi, List.length_append] at h1
      have hy := List.getElem?_eq_getElem hi
      rw [wrapS (n := i) (by omega)]
      refine brD (by omega) (brD (by omega) ?_)
      rw [Int.toNat_natCast]
      refine needS hy (needS hy (brD (by omega) ?_))
      rw [set_self hy, Nat.zero_add, hT]
      rw [List.length_append] at ih
      refine ih _ ?_ ?_
      · rw [List.length_append, List.length_append, List.length_drop]; omega
      · rw [← List.length_append, List.take_left])
    0 (Nat.zero_le _)
  exact key Y hY (by rfl)
theorem l22r11v2_ok {X : List (List LRg)} (hX : X.length ≤ 100000) (hL : X.flatten = []) {k : List (List LRg) → List LRg → Prop} (h : k X []) : l22r11v2 k (X.length : Int) 0 X [] := by
  constructor
  intro I hI
  exact upInd (N := X.length) (M := fun i => I (X.length : Int) (i : Int) X []) (hI _ _ _ _ (brDn (by omega) h)) (fun i hi ih => by
    apply hI
    have hy := List.getElem?_eq_getElem hi
    have he : X[i] = [] := List.flatten_eq_nil_iff.1 hL _ (List.getElem_mem hi)
    rw [wrapS (n := i) (by omega)]
    refine brD (by omega) (brD (by omega) ?_)
    rw [Int.toNat_natCast]
    refine needS hy (needS hy (brT (by rw [he]; rfl) ?_))
    rw [set_self hy]
    exact ih) 0 (Nat.zero_le _)
theorem c22_ok {X : List (List LRg)} (hX : X.length ≤ 100000) (hL : X.flatten.length ≤ 100000000) {k1 : Nat → Nat → Nat → List (List LRg) → List LRg → Prop} {k2 : List (List LRg) → List LRg → Prop} (h1 : X.flatten ≠ [] → k1 0 X.flatten.length X.flatten.length X X.flatten) (h2 : X.flatten = [] → k2 X []) : c22 X k1 k2 := by
  constructor
  refine l22r3_ok hX hL (c35_ok hL (fun q => l22r11_ok hX hL (by simp) (h1 fun e => by rw [e] at q; exact absurd q (by decide))) fun q => ?_)
  have e := List.eq_nil_of_length_eq_zero q
  exact l22r11v2_ok hX e (h2 e)
noncomputable def alL (f : FU) (n : Nat) : List LRg := ((List.range n).map fun v => pv f v f.2.1.length).flatten
theorem c8v2_ok {f : FU} (hz : Szu f) {k1 : Int → List LRg → Prop} {k2 : Nat → Nat → Nat → Int → List LRg → Prop} (h0 : fErr f ≠ 0 → k1 (fErr f) [])
    (h1 : fErr f = 0 → alL f (frsh f + 1).toNat = [] → k1 0 []) (h2 : fErr f = 0 → alL f (frsh f + 1).toNat ≠ [] → k2 0 (alL f (frsh f + 1).toNat).length (alL f (frsh f + 1).toNat).length 0 (alL f (frsh f + 1).toNat)) : c8v2 f k1 k2 := by
  constructor
  refine c18v2_ok hz (fun e => brT (by simpa using e) (h0 e)) fun e m hf hU B F hL => brF rfl (brT (by simp) ?_)
  have hV := vn_of hf hU
  have hle := hV.le
  have hn := hf.le
  generalize (frsh f + 1).toNat = n at *
  refine brD (by omega) ?_
  rw [Int.toNat_natCast]
  refine l8r6v2_ok hf hz hV hL (c22_ok (by simp; omega) ?_ (h2 e) fun q => ?_)
  · have := fl_bound (X := (List.range n).map fun v => pv f v f.2.1.length) (M := 5000) fun y hy => by
      obtain ⟨v, _, rfl⟩ := List.mem_map.1 hy
      have := pv_len (f := f) (v := v) f.2.1.length
      omega
    rw [List.length_map, List.length_range] at this
    omega
  · exact h1 e q
def Mx (S : Int → Prop) (h : Int) : Prop := (∀ x, S x → x ≤ h) ∧ (h = 0 ∨ S h)
theorem Mx.uniq {S : Int → Prop} {h h' : Int} (h0 : ∀ x, S x → 0 ≤ x) (a : Mx S h) (b : Mx S h') : h = h' := by
  have key : ∀ {h h' : Int}, Mx S h → Mx S h' → (∃ x, S x) → h ≤ h' := fun {h h'} a b ⟨x, hx⟩ => by
    rcases a.2 with e | e
    · have := b.1 x hx; have := h0 x hx; omega
    · exact b.1 _ e
  by_cases q : ∃ x, S x
  · have := key a b q; have := key b a q; omega
  · rcases a.2 with e | e
    · rcases b.2 with e2 | e2
      · omega
      · exact (q ⟨_, e2⟩).elim
    · exact (q ⟨_, e⟩).elim
theorem Mx.congr {S S' : Int → Prop} {h : Int} (hs : ∀ x, S x ↔ S' x) (a : Mx S h) : Mx S' h := by
  have : S = S' := funext fun x => propext (hs x)
  rw [← this]; exact a
theorem Mx.step {S : Int → Prop} {h y : Int} (a : Mx S h) : Mx (fun x => x = y ∨ S x) (maxI h y) := by
  unfold maxI
  split
  · exact ⟨fun x hx => hx.elim (by omega) fun q => by have := a.1 x q; omega, .inr (.inl rfl)⟩
  · exact ⟨fun x hx => hx.elim (by omega) fun q => a.1 x q, a.2.imp id .inr⟩
theorem c23_ok {n : Nat} (hn : n ≤ 100000) {p h : Int} {s : List Bool} (hs : s.length = n) {P : Nat → Prop} (hP : ∀ v, Tr s v ↔ P v) {k : Int → Prop} (hk : k (maxI h ((fl P n).length : Int))) : c23 p s h k := by
  constructor
  refine c21_ok (by omega) hP ?_
  rw [hs]
  exact brT (eqT_self _ _) hk
theorem l19r12v5_ok {n : Nat} {s1 s6 : Int} {f : FU} {s7 : BB} {a8 : Int} {b : BK} {l : List Int} {k : Int → FU → Int → BB → Int → BK → List Bool → Prop} (hl : l.length ≤ maxLen) (hr : InV n l) {s : List Bool} (hs : s.length = n)
    (h : ∀ s' : List Bool, s'.length = n → (∀ v : Nat, Tr s' v ↔ Tr s v ∨ (v : Int) ∈ l) → k s1 f s6 s7 a8 b s') : l19r12v5 k s1 l (l.length : Int) 0 f s6 s7 a8 b s := by
  have hm := hml
  constructor
  intro I hI
  have key := dropInd (l := l) (M := fun i r => (∀ a ∈ r, a ∈ l) → ∀ s : List Bool, s.length = n → (∀ s' : List Bool, s'.length = n → (∀ v : Nat, Tr s' v ↔ Tr s v ∨ (v : Int) ∈ r) → k s1 f s6 s7 a8 b s') → I s1 l (l.length : Int) (i : Int) f s6 s7 a8 b s)
    (fun _ s hs h => hI _ _ _ _ _ _ _ _ _ _ (brDn (by omega) (h s hs fun v => by simp)))
    (fun i hi ih hsub s hs h => by
      apply hI
      obtain ⟨a1, a2⟩ := hr _ (List.getElem_mem hi)
      obtain ⟨a, ha⟩ := Int.eq_ofNat_of_zero_le a1
      rw [wrapS (n := i) (by omega)]
      refine brD (by omega) (needAt hi ?_)
      rw [ha, Int.toNat_natCast]
      refine brD (by omega) (needNth (by omega) (ih (fun a h => hsub a (List.mem_cons_of_mem _ h)) _ (by simp [hs]) fun s' h1 h2 => h s' h1 fun v => ?_))
      rw [h2, tr_set (by omega), List.mem_cons]
      constructor
      · rintro ((⟨rfl, _⟩ | ⟨_, w⟩) | w)
        · exact .inr (.inl ha.symm)
        · exact .inl w
        · exact .inr (.inr w)
      · rintro (w | w | w)
        · by_cases e : v = a
          · exact .inl (.inl ⟨e, rfl⟩)
          · exact .inl (.inr ⟨e, w⟩)
        · exact .inl (.inl ⟨by omega, rfl⟩)
        · exact .inr w)
  exact key (fun _ h => h) s hs h
theorem l19r5v5_ok {n : Nat} {f : FU} {s3 : Int} {s4 : BB} {b : BK} (hn : n ≤ 100000) (hl : b.2.1.length ≤ maxLen) (ha : ∀ x ∈ b.2.1, x.2.2.2.1.length ≤ maxLen) (hr : ∀ x ∈ b.2.1, InV n x.2.2.2.1 ∧ 0 ≤ x.1 ∧ x.1 < (n : Int)) {B : List Bool} (hB : B.length = n) {S : Int → Prop} {h0 : Int} (hS : Mx S h0) {k : FU → Int → BB → Int → List Bool → Prop}
    (h : ∀ (z : Int) (s' : List Bool), Mx (fun x => S x ∨ ∃ j, j ≤ b.2.1.length ∧ x = ((fl (Bk b B j) n).length : Int)) z → k f s3 s4 z s') : l19r5v5 k (b.2.1.length : Int) f s3 s4 h0 b B := by
  have hm := hml
  constructor
  intro I hI
  have key : ∀ j, j ≤ b.2.1.length → ∀ (z : Int) (s : List Bool), s.length = n → (∀ v : Nat, Tr s v ↔ Bk b B j v) → Mx (fun x => S x ∨ ∃ i, j < i ∧ i ≤ b.2.1.length ∧ x = ((fl (Bk b B i) n).length : Int)) z → I (j : Int) f s3 s4 z b s := by
    intro j
    induction j with
    | zero =>
      intro _ z s hs hv2 hz
      refine hI _ _ _ _ _ _ _ (c23_ok hn hs hv2 (brE (fun _ => h _ s (hz.step.congr fun x => ?_)) fun e => (e rfl).elim))
      constructor
      · rintro (q | q | ⟨i, q1, q2, q3⟩)
        · exact .inr ⟨0, Nat.zero_le _, q⟩
        · exact .inl q
        · exact .inr ⟨i, q2, q3⟩
      · rintro (q | ⟨i, q2, q3⟩)
        · exact .inr (.inl q)
        · by_cases e : i = 0
          · subst e; exact .inl q3
          · exact .inr (.inr ⟨i, by omega, q2, q3⟩)
    | succ j ih =>
      intro hj z s hs hv2 hz
      have hjl : j < b.2.1.length := by omega
      have hx := List.getElem_mem hjl
      obtain ⟨r1, r2, r3⟩ := hr _ hx
      obtain ⟨a, hta⟩ := Int.eq_ofNat_of_zero_le r2
      have hw2 : IntKind.wrap .i64 (((j + 1 : Nat) : Int) - 1) = ((j : Nat) : Int) := by rw [wrap64 (by omega) (by omega)]; omega
      refine hI _ _ _ _ _ _ _ (c23_ok hn hs hv2 (brE (fun e => absurd e (by omega)) fun _ => ?_))
      rw [hw2]
      refine needAt hjl ?_
      rw [hta, Int.toNat_natCast]
      refine brD (by omega) (needNth (by omega) (l19r12v5_ok (ha _ hx) r1 (by simp [hs]) fun s' h1 h2 => ?_))
      show I (IntKind.wrap .i64 (((j + 1 : Nat) : Int) - 1)) f s3 s4 _ b s'
      rw [hw2]
      refine ih (by omega) _ s' h1 (fun v => ?_) (hz.step.congr fun x => ?_)
      · rw [h2, tr_set (by omega), hv2, bk_step hjl, hta]
        refine or_congr ⟨?_, ?_⟩ Iff.rfl
        · rintro (⟨_, w⟩ | ⟨w1, w2⟩)
          · cases w
          · exact ⟨by omega, w2⟩
        · exact fun ⟨w1, w2⟩ => .inr ⟨by omega, w2⟩
      · constructor
        · rintro (q | q | ⟨i, q1, q2⟩)
          · exact .inr ⟨j + 1, by omega, hj, q⟩
          · exact .inl q
          · exact .inr ⟨i, by omega, q2⟩
        · rintro (q | ⟨i, q1, q2, q3⟩)
          · exact .inr (.inl q)
          · by_cases e : i = j + 1
            · subst e; exact .inl q3
            · exact .inr (.inr ⟨i, by omega, q2, q3⟩)
  exact key _ (Nat.le_refl _) h0 B hB (fun v => bk_end.symm) (hS.congr fun x => ⟨.inl, fun q => q.elim id fun ⟨i, q1, q2, _⟩ => absurd q1 (by omega)⟩)
noncomputable def ct (f : FU) (n k j : Nat) : Int := ((fl (fun v => Lv f (v : Int) k j) n).length : Int)
def prS (f : FU) (n i : Nat) (x : Int) : Prop := ∃ k j, k < i ∧ j ≤ insN f k ∧ x = ct f n k j
theorem l9r6v2_ok {f : FU} {m : MP} (hf : FOk f m) (hz : Szu f) {n : Nat} (hV : Vn f n) {B F : BB} (hL : Lb f n B F) {k : Int → Prop} (h : ∀ z, Mx (prS f n f.2.1.length) z → k z) :
    l9r6v2 k (f.2.1.length : Int) 0 f (n : Int) B 0 := by
  have hn := hf.le
  have hle := hV.le
  constructor
  intro I hI
  have key := upInd (N := f.2.1.length) (M := fun i => ∀ z, Mx (prS f n i) z → I (f.2.1.length : Int) (i : Int) f (n : Int) B z)
    (fun z hz => hI _ _ _ _ _ _ (brDn (by omega) (h z hz)))
    (fun i hi ih z hz2 => by
      apply hI
      have hb := List.getElem_mem hi
      have hg := List.getElem?_eq_getElem hi
      have hiB : i < B.length := by rw [hL.lb]; exact hi
      have hy := List.getElem?_eq_getElem hiB
      have rB := hL.rb _ (List.getElem_mem hiB)
      refine brD (by omega) ⟨needAt hi (brD (by omega) ?_)⟩
      rw [Int.toNat_natCast]
      refine needS hy (needS hy (c34_ok (by omega) ?_))
      rw [set_self hy]
      refine l19r5v5_ok (by omega) (hz.ins _ hb) (hz.args _ hb) (hV.ins _ hb) rB hz2 fun z3 s' hz3 => ?_
      show I _ (IntKind.wrap .i64 ((i : Int) + 1)) _ _ _ z3
      rw [wrapS (n := i) (by omega)]
      refine ih z3 (hz3.congr fun x => ?_)
      have hfl : ∀ j, ((fl (Bk f.2.1[i] B[i] j) n).length : Int) = ct f n i j := fun j => by
        have : Bk f.2.1[i] B[i] j = fun v : Nat => Lv f (v : Int) i j := funext fun v => propext (bk_lv hL hg hy)
        rw [this]; rfl
      have hin := insN_at hi
      constructor
      · rintro (⟨k, j, q1, q2⟩ | ⟨j, q1, q2⟩)
        · exact ⟨k, j, by omega, q2⟩
        · exact ⟨i, j, by omega, by rw [hin]; exact q1, by rw [q2, hfl]⟩
      · rintro ⟨k, j, q1, q2, q3⟩
        by_cases e : k = i
        · subst e
          exact .inr ⟨j, by rw [hin] at q2; exact q2, by rw [q3, hfl]⟩
        · exact .inl ⟨k, j, by omega, q2, q3⟩)
    0 (Nat.zero_le _)
  exact key 0 ⟨fun x ⟨k, j, q, _⟩ => absurd q (by omega), .inl rfl⟩
theorem c9_ok {f : FU} (hz : Szu f) {k : Int → Int → Prop} (h0 : fErr f ≠ 0 → k 0 (fErr f)) (h1 : fErr f = 0 → ∀ z, Mx (prS f (frsh f + 1).toNat f.2.1.length) z → k z 0) : c9 f k := by
  constructor
  refine c18v2_ok hz (fun e => brT (by simpa using e) (h0 e)) fun e m hf hU B F hL => brF rfl (l9r6v2_ok hf hz (vn_of hf hU) hL (h1 e))
def Ft (W : Nat → Prop) (a b : Int) : Prop := (a = -1 ∧ b = -1 ∧ ∀ j, ¬ W j) ∨ ∃ x y : Nat, W x ∧ W y ∧ (∀ j, W j → x ≤ j ∧ j ≤ y) ∧ a = (x : Int) ∧ b = (y : Int)
theorem Ft.sg {W : Nat → Prop} {a b v k : Int} (h : Ft W a b) : Sg W v k (if a < 0 then [] else [(v, k, a, b, ())]) := by
  rcases h with ⟨rfl, rfl, h⟩ | ⟨x, y, h1, h2, h3, rfl, rfl⟩
  · rw [if_pos (by decide)]; exact .inl ⟨rfl, h⟩
  · rw [if_neg (by omega)]; exact .inr ⟨x, y, h1, h2, h3, rfl⟩
theorem ft_no {P : Nat → Prop} {i : Nat} {a b : Int} (h : Ft (fun j => j < i ∧ P j) a b) (hp : ¬ P i) : Ft (fun j => j < i + 1 ∧ P j) a b := by
  have : (fun j => j < i ∧ P j) = fun j => j < i + 1 ∧ P j := funext fun j => propext ⟨fun ⟨q1, q2⟩ => ⟨by omega, q2⟩, fun ⟨q1, q2⟩ => ⟨by
    by_cases e : j = i
    · subst e; exact (hp q2).elim
    · omega, q2⟩⟩
  rw [← this]; exact h
theorem ft_yes {P : Nat → Prop} {i : Nat} {a b : Int} (h : Ft (fun j => j < i ∧ P j) a b) (hp : P i) : Ft (fun j => j < i + 1 ∧ P j) (if a < 0 then (i : Int) else a) (i : Int) := by
  rcases h with ⟨rfl, rfl, h⟩ | ⟨x, y, h1, h2, h3, rfl, rfl⟩
  · rw [if_pos (by decide)]
    exact .inr ⟨i, i, ⟨by omega, hp⟩, ⟨by omega, hp⟩, fun j hj => by
      by_cases e : j = i
      · omega
      · exact (h j ⟨by omega, hj.2⟩).elim, rfl, rfl⟩
  · rw [if_neg (by omega)]
    exact .inr ⟨x, i, ⟨by omega, h1.2⟩, ⟨by omega, hp⟩, fun j hj => by
      by_cases e : j = i
      · omega
      · have := h3 j ⟨by omega, hj.2⟩; omega, rfl, rfl⟩
noncomputable def alT (f : FU) : Nat → List LRg
  | 0 => []
  | v + 1 => alT f v ++ pv f v f.2.1.length
theorem alL_eq {f : FU} : ∀ n, alL f n = alT f n
  | 0 => rfl
  | n + 1 => by
    have := alL_eq (f := f) n
    unfold alL at this ⊢
    rw [List.range_succ, List.map_append, List.flatten_append, this, alT]
    simp
theorem pv_pre {f : FU} {v : Nat} : ∀ {i j : Nat}, i ≤ j → ∃ r, pv f v j = pv f v i ++ r := by
  intro i j h
  induction j with
  | zero => obtain rfl : i = 0 := by omega
            exact ⟨[], (List.append_nil _).symm⟩
  | succ j ih =>
    by_cases e : i = j + 1
    · subst e; exact ⟨[], (List.append_nil _).symm⟩
    · obtain ⟨r, hr⟩ := ih (by omega)
      exact ⟨r ++ rg f v j, by rw [pv, hr, List.append_assoc]⟩
theorem alT_pre {f : FU} : ∀ {i j : Nat}, i ≤ j → ∃ r, alT f j = alT f i ++ r := by
  intro i j h
  induction j with
  | zero => obtain rfl : i = 0 := by omega
            exact ⟨[], (List.append_nil _).symm⟩
  | succ j ih =>
    by_cases e : i = j + 1
    · subst e; exact ⟨[], (List.append_nil _).symm⟩
    · obtain ⟨r, hr⟩ := ih (by omega)
      exact ⟨r ++ pv f j f.2.1.length, by rw [alT, hr, List.append_assoc]⟩
theorem al_get {f : FU} {N v k : Nat} {x : LRg} (hv : v < N) (hk : k < f.2.1.length) (hx : rg f v k = [x]) : (alT f N)[(alT f v).length + (pv f v k).length]? = some x := by
  obtain ⟨r, hr⟩ := alT_pre (f := f) (i := v + 1) (j := N) hv
  obtain ⟨r2, hr2⟩ := pv_pre (f := f) (v := v) (i := k + 1) (j := f.2.1.length) hk
  rw [hr, alT, hr2, pv, hx]
  rw [List.append_assoc, List.append_assoc, List.append_assoc, List.getElem?_append_right (by omega), Nat.add_sub_cancel_left, List.getElem?_append_right (Nat.le_refl _), Nat.sub_self]
  rfl
theorem alT_len {f : FU} : ∀ n, (alT f n).length ≤ n * f.2.1.length
  | 0 => Nat.zero_le _
  | n + 1 => by
    have := alT_len (f := f) n
    have := pv_len (f := f) (v := n) f.2.1.length
    rw [alT, List.length_append, Nat.succ_mul]; omega
theorem l3r16_ok {f : FU} {m : MP} (hf : FOk f m) (hz : Szu f) {s1 s2 s3 s4 s5 s11 s12 s14 s15 : Int} {v kb : Nat} (hk : kb < f.2.1.length) {s13 : List BK} {l : List LRg} {k : Int → Int → Int → Int → Int → Int → Int → Int → Int → Int → Int → List BK → Int → Int → FU → List LRg → Prop}
    (h : ∀ a b : Int, Ft (fun j => j ≤ insN f kb ∧ Lv f (v : Int) kb j) a b → k s1 s2 s3 s4 s5 (v : Int) (kb : Int) a b s11 s12 s13 s14 s15 f l) : l3r16 k s1 s2 s3 s4 s5 (v : Int) (kb : Int) (-1) (-1) 0 s11 s12 s13 s14 s15 f l f.2.1[kb] := by
  have hin := insN_at hk
  have hil := hf.il _ (List.getElem_mem hk)
  constructor
  intro I hI
  have key := upInd (N := f.2.1[kb].2.1.length + 1) (M := fun i => ∀ a b : Int, Ft (fun j => j < i ∧ Lv f (v : Int) kb j) a b → I s1 s2 s3 s4 s5 (v : Int) (kb : Int) a b (i : Int) s11 s12 s13 s14 s15 f l f.2.1[kb])
    (fun a b hab => hI _ _ _ _ _ _ _ _ _ _ _ _ _ _ _ _ _ _ (brDn (by omega) (h a b (by
      have : (fun j => j < f.2.1[kb].2.1.length + 1 ∧ Lv f (v : Int) kb j) = fun j => j ≤ insN f kb ∧ Lv f (v : Int) kb j := funext fun j => propext (and_congr (by rw [hin]; omega) Iff.rfl)
      rw [← this]; exact hab))))
    (fun i hi ih a b hab => by
      apply hI
      rw [wrapS (n := i) (by omega)]
      refine brD (by omega) (c10_ok hf hz hk (fun q => brT rfl (brP (fun w => ?_) fun w => ?_)) fun q => brF rfl (ih _ _ (ft_no hab q)))
      · have := ft_yes hab q; rw [if_pos w] at this; exact ih _ _ this
      · have := ft_yes hab q; rw [if_neg w] at this; exact ih _ _ this)
    0 (Nat.zero_le _)
  exact key (-1) (-1) (.inl ⟨rfl, rfl, fun j q => absurd q.1 (by omega)⟩)
theorem l3r12_ok {f : FU} {m : MP} (hf : FOk f m) (hz : Szu f) {s1 s2 s3 s5 s7 : Int} {v N : Nat} (hv : v < N) (hN : N ≤ 5000) {k1 : Bool → Prop} {k2 : Int → Int → Int → Int → Int → Int → Int → FU → List LRg → Prop}
    (h : k2 s1 s2 s3 ((alT f (v + 1)).length : Int) s5 s7 (v : Int) f (alT f N)) : l3r12 k1 k2 s1 s2 s3 ((alT f v).length : Int) s5 (v : Int) s7 (v : Int) f.2.1 (f.2.1.length : Int) 0 f (alT f N) := by
  have hn := hf.le
  have hb : (alT f N).length ≤ 5000 * 5000 := Nat.le_trans (alT_len N) (Nat.mul_le_mul hN (by omega))
  constructor
  intro I hI
  have key := upInd (N := f.2.1.length) (M := fun i => I s1 s2 s3 (((alT f v).length + (pv f v i).length : Nat) : Int) s5 (v : Int) s7 (v : Int) f.2.1 (f.2.1.length : Int) (i : Int) f (alT f N))
    (hI _ _ _ _ _ _ _ _ _ _ _ _ _ (brDn (by omega) (by
      rw [← List.length_append]; exact h)))
    (fun i hi ih => by
      apply hI
      refine brD (by omega) (needAt hi (l3r16_ok hf hz hi fun a b hab => ?_))
      have hrg : rg f v i = if a < 0 then [] else [((v : Int), (i : Int), a, b, ())] := Sg.uniq rg_ok hab.sg
      rw [pv] at ih
      rw [wrapS (n := i) (by omega)]
      refine brP (fun w => ?_) fun w => ?_
      · rw [if_pos w] at hrg
        rw [hrg, List.append_nil] at ih
        exact ih
      · rw [if_neg w] at hrg
        have hg := al_get hv hi hrg
        have hlt := (List.getElem?_eq_some_iff.1 hg).1
        rw [hrg, List.length_append] at ih
        refine brDn (by omega) (brD (by omega) ?_)
        rw [Int.toNat_natCast]
        refine needS hg (brF (by simp) ?_)
        rw [wrapS (n := (alT f v).length + (pv f v i).length) (by omega)]
        exact ih)
    0 (Nat.zero_le _)
  exact key
theorem l3r9_ok {f : FU} {m : MP} (hf : FOk f m) (hz : Szu f) {s1 s2 s3 s5 : Int} {N : Nat} (hN : N ≤ 5000) {k1 : Bool → Prop} {k2 : Int → Int → Int → Int → Int → FU → List LRg → Prop}
    (h : k2 s1 s2 s3 ((alT f N).length : Int) s5 f (alT f N)) : l3r9 k1 k2 s1 s2 s3 0 s5 (N : Int) 0 f (alT f N) := by
  constructor
  intro I hI
  exact upInd (N := N) (M := fun v => I s1 s2 s3 ((alT f v).length : Int) s5 (N : Int) (v : Int) f (alT f N))
    (hI _ _ _ _ _ _ _ _ _ (brDn (by omega) h))
    (fun v hv ih => by
      apply hI
      refine brD (by omega) (l3r12_ok hf hz hv hN ?_)
      rw [wrapS (n := v) (by omega)]
      exact ih)
    0 (Nat.zero_le _)
theorem l3r36_ok {f : FU} {m : MP} (hf : FOk f m) (hz : Szu f) {s1 s2 s3 s4 s5 s10 s11 : Int} {kb j N : Nat} (hN : N ≤ 5000) (hk : kb < f.2.1.length) {s9 : List BK} {l : List LRg} {k : Int → Int → Int → Int → Int → Int → Int → Int → List BK → Int → Int → FU → List LRg → BK → Prop}
    (h : k s1 s2 s3 s4 s5 (kb : Int) (j : Int) (ct f N kb j) s9 s10 s11 f l f.2.1[kb]) : l3r36 k s1 s2 s3 s4 s5 (kb : Int) (j : Int) 0 s9 s10 s11 (N : Int) 0 f l f.2.1[kb] := by
  constructor
  intro I hI
  have key := upInd (N := N) (M := fun u => I s1 s2 s3 s4 s5 (kb : Int) (j : Int) (ct f u kb j) s9 s10 s11 (N : Int) (u : Int) f l f.2.1[kb])
    (hI _ _ _ _ _ _ _ _ _ _ _ _ _ _ _ _ (brDn (by omega) h))
    (fun u hu ih => by
      apply hI
      have l1 := fl_len (P := fun v => Lv f (v : Int) kb j) (n := u)
      rw [wrapS (n := u) (by omega)]
      refine brD (by omega) (c10_ok hf hz hk (fun q => brT rfl ?_) fun q => brF rfl ?_)
      · unfold ct at ih ⊢
        rw [fl_yes (P := fun v => Lv f (v : Int) kb j) q, List.length_append] at ih
        rw [wrapS (by omega)]
        exact ih
      · unfold ct at ih ⊢
        rw [fl_no (P := fun v => Lv f (v : Int) kb j) q] at ih
        exact ih)
    0 (Nat.zero_le _)
  have e : ct f 0 kb j = 0 := by unfold ct; rw [fl_zero]; rfl
  rw [e] at key
  exact key
theorem l3r32_ok {f : FU} {m : MP} (hf : FOk f m) (hz : Szu f) {N : Nat} (hN : frsh f = (N : Int)) (hN2 : N ≤ 5000) {s1 s2 s3 s4 s9 s10 h0 : Int} {S : Int → Prop} (hS : Mx S h0) {kb : Nat} (hk : kb < f.2.1.length) {s8 : List BK} {l : List LRg} {k : Int → Int → Int → Int → Int → List BK → Int → Int → FU → List LRg → Prop}
    (h : ∀ z, Mx (fun x => S x ∨ ∃ j, j ≤ insN f kb ∧ x = ct f N kb j) z → k s1 s2 s3 s4 z s8 s9 s10 f l) : l3r32 k s1 s2 s3 s4 h0 (kb : Int) 0 s8 s9 s10 f l f.2.1[kb] := by
  have hin := insN_at hk
  have hil := hf.il _ (List.getElem_mem hk)
  constructor
  intro I hI
  have key := upInd (N := f.2.1[kb].2.1.length + 1) (M := fun i => ∀ z, Mx (fun x => S x ∨ ∃ j, j < i ∧ x = ct f N kb j) z → I s1 s2 s3 s4 z (kb : Int) (i : Int) s8 s9 s10 f l f.2.1[kb])
    (fun z hz => hI _ _ _ _ _ _ _ _ _ _ _ _ _ (brDn (by omega) (h z (hz.congr fun x => or_congr Iff.rfl ⟨fun ⟨j, q1, q2⟩ => ⟨j, by omega, q2⟩, fun ⟨j, q1, q2⟩ => ⟨j, by omega, q2⟩⟩))))
    (fun i hi ih z hz2 => by
      apply hI
      refine brD (by omega) (c6_ok hz ?_)
      rw [hN]
      refine l3r36_ok hf hz hN2 hk ?_
      rw [wrapS (n := i) (by omega)]
      refine ih _ (hz2.step.congr fun x => ?_)
      constructor
      · rintro (q | q | ⟨j, q1, q2⟩)
        · exact .inr ⟨i, by omega, q⟩
        · exact .inl q
        · exact .inr ⟨j, by omega, q2⟩
      · rintro (q | ⟨j, q1, q2⟩)
        · exact .inr (.inl q)
        · by_cases e : j = i
          · subst e; exact .inl q2
          · exact .inr (.inr ⟨j, by omega, q2⟩))
    0 (Nat.zero_le _)
  exact key h0 (hS.congr fun x => ⟨.inl, fun q => q.elim id fun ⟨j, q, _⟩ => absurd q (by omega)⟩)
theorem l3r29_ok {f : FU} {m : MP} (hf : FOk f m) (hz : Szu f) {N : Nat} (hN : frsh f = (N : Int)) (hN2 : N ≤ 5000) {s1 s2 s3 s4 : Int} {l : List LRg} {k : Int → Int → Int → Int → Int → List LRg → Prop}
    (h : ∀ z, Mx (prS f N f.2.1.length) z → k s1 s2 s3 s4 z l) : l3r29 k s1 s2 s3 s4 0 f.2.1 (f.2.1.length : Int) 0 f l := by
  have hn := hf.le
  constructor
  intro I hI
  have key := upInd (N := f.2.1.length) (M := fun i => ∀ z, Mx (prS f N i) z → I s1 s2 s3 s4 z f.2.1 (f.2.1.length : Int) (i : Int) f l)
    (fun z hz => hI _ _ _ _ _ _ _ _ _ _ (brDn (by omega) (h z hz)))
    (fun i hi ih z hz2 => by
      apply hI
      refine brD (by omega) (needAt hi (l3r32_ok hf hz hN hN2 hz2 hi fun z3 hz3 => ?_))
      rw [wrapS (n := i) (by omega)]
      refine ih _ (hz3.congr fun x => ?_)
      constructor
      · rintro (⟨k, j, q1, q2⟩ | ⟨j, q1, q2⟩)
        · exact ⟨k, j, by omega, q2⟩
        · exact ⟨i, j, by omega, q1, q2⟩
      · rintro ⟨k, j, q1, q2, q3⟩
        by_cases e : k = i
        · subst e; exact .inr ⟨j, q2, q3⟩
        · exact .inl ⟨k, j, by omega, q2, q3⟩)
    0 (Nat.zero_le _)
  exact key 0 ⟨fun x ⟨k, j, q, _⟩ => absurd q (by omega), .inl rfl⟩
theorem l3r16v2_ok {f : FU} {m : MP} (hf : FOk f m) (hz : Szu f) {o1 o2 o3 : Nat} {s1 s2 s3 s4 s5 s11 s12 s14 s15 : Int} {v kb : Nat} (hk : kb < f.2.1.length) {s13 : List BK} {l : List LRg} {k : Nat → Nat → Nat → Int → Int → Int → Int → Int → Int → Int → Int → Int → Int → Int → List BK → Int → Int → FU → List LRg → Prop}
    (h : ∀ a b : Int, Ft (fun j => j ≤ insN f kb ∧ Lv f (v : Int) kb j) a b → k o1 o2 o3 s1 s2 s3 s4 s5 (v : Int) (kb : Int) a b s11 s12 s13 s14 s15 f l) : l3r16v2 k o1 o2 o3 s1 s2 s3 s4 s5 (v : Int) (kb : Int) (-1) (-1) 0 s11 s12 s13 s14 s15 f l f.2.1[kb] := by
  have hin := insN_at hk
  have hil := hf.il _ (List.getElem_mem hk)
  constructor
  intro I hI
  have key := upInd (N := f.2.1[kb].2.1.length + 1) (M := fun i => ∀ a b : Int, Ft (fun j => j < i ∧ Lv f (v : Int) kb j) a b → I o1 o2 o3 s1 s2 s3 s4 s5 (v : Int) (kb : Int) a b (i : Int) s11 s12 s13 s14 s15 f l f.2.1[kb])
    (fun a b hab => hI _ _ _ _ _ _ _ _ _ _ _ _ _ _ _ _ _ _ _ _ _ (brDn (by omega) (h a b (by
      have : (fun j => j < f.2.1[kb].2.1.length + 1 ∧ Lv f (v : Int) kb j) = fun j => j ≤ insN f kb ∧ Lv f (v : Int) kb j := funext fun j => propext (and_congr (by rw [hin]; omega) Iff.rfl)
      rw [← this]; exact hab))))
    (fun i hi ih a b hab => by
      apply hI
      rw [wrapS (n := i) (by omega)]
      refine brD (by omega) (c10_ok hf hz hk (fun q => brT rfl (brP (fun w => ?_) fun w => ?_)) fun q => brF rfl (ih _ _ (ft_no hab q)))
      · have := ft_yes hab q; rw [if_pos w] at this; exact ih _ _ this
      · have := ft_yes hab q; rw [if_neg w] at this; exact ih _ _ this)
    0 (Nat.zero_le _)
  exact key (-1) (-1) (.inl ⟨rfl, rfl, fun j q => absurd q.1 (by omega)⟩)
theorem l3r12v2_ok {f : FU} {m : MP} (hf : FOk f m) (hz : Szu f) {s1 s2 s3 s5 s7 : Int} {v N : Nat} (hv : v < N) (hN : N ≤ 5000) {k1 : Bool → Prop} {k2 : Nat → Nat → Nat → Int → Int → Int → Int → Int → Int → Int → FU → List LRg → Prop}
    (h : k2 0 (alT f N).length (alT f N).length s1 s2 s3 ((alT f (v + 1)).length : Int) s5 s7 (v : Int) f (alT f N)) : l3r12v2 k1 k2 0 (alT f N).length (alT f N).length s1 s2 s3 ((alT f v).length : Int) s5 (v : Int) s7 (v : Int) f.2.1 (f.2.1.length : Int) 0 f (alT f N) := by
  have hn := hf.le
  have hb : (alT f N).length ≤ 5000 * 5000 := Nat.le_trans (alT_len N) (Nat.mul_le_mul hN (by omega))
  constructor
  intro I hI
  have key := upInd (N := f.2.1.length) (M := fun i => I 0 (alT f N).length (alT f N).length s1 s2 s3 (((alT f v).length + (pv f v i).length : Nat) : Int) s5 (v : Int) s7 (v : Int) f.2.1 (f.2.1.length : Int) (i : Int) f (alT f N))
    (hI _ _ _ _ _ _ _ _ _ _ _ _ _ _ _ _ (brDn (by omega) (by
      rw [← List.length_append]; exact h)))
    (fun i hi ih => by
      apply hI
      refine brD (by omega) (needAt hi (l3r16v2_ok hf hz hi fun a b hab => ?_))
      have hrg : rg f v i = if a < 0 then [] else [((v : Int), (i : Int), a, b, ())] := Sg.uniq rg_ok hab.sg
      rw [pv] at ih
      rw [wrapS (n := i) (by omega)]
      refine brP (fun w => ?_) fun w => ?_
      · rw [if_pos w] at hrg
        rw [hrg, List.append_nil] at ih
        exact ih
      · rw [if_neg w] at hrg
        have hg := al_get hv hi hrg
        have hlt := (List.getElem?_eq_some_iff.1 hg).1
        rw [hrg, List.length_append] at ih
        refine brDn (by omega) (brD (by omega) ?_)
        rw [Int.toNat_natCast, Nat.zero_add]
        refine needS hg (brF (by simp) ?_)
        rw [wrapS (n := (alT f v).length + (pv f v i).length) (by omega)]
        exact ih)
    0 (Nat.zero_le _)
  exact key
theorem l3r9v2_ok {f : FU} {m : MP} (hf : FOk f m) (hz : Szu f) {s1 s2 s3 s5 : Int} {N : Nat} (hN : N ≤ 5000) {k1 : Bool → Prop} {k2 : Nat → Nat → Nat → Int → Int → Int → Int → Int → FU → List LRg → Prop}
    (h : k2 0 (alT f N).length (alT f N).length s1 s2 s3 ((alT f N).length : Int) s5 f (alT f N)) : l3r9v2 k1 k2 0 (alT f N).length (alT f N).length s1 s2 s3 0 s5 (N : Int) 0 f (alT f N) := by
  constructor
  intro I hI
  exact upInd (N := N) (M := fun v => I 0 (alT f N).length (alT f N).length s1 s2 s3 ((alT f v).length : Int) s5 (N : Int) (v : Int) f (alT f N))
    (hI _ _ _ _ _ _ _ _ _ _ _ _ (brDn (by omega) h))
    (fun v hv ih => by
      apply hI
      refine brD (by omega) (l3r12v2_ok hf hz hv hN ?_)
      rw [wrapS (n := v) (by omega)]
      exact ih)
    0 (Nat.zero_le _)
theorem l3r36v2_ok {f : FU} {m : MP} (hf : FOk f m) (hz : Szu f) {o1 o2 o3 : Nat} {s1 s2 s3 s4 s5 s10 s11 : Int} {kb j N : Nat} (hN : N ≤ 5000) (hk : kb < f.2.1.length) {s9 : List BK} {l : List LRg} {k : Nat → Nat → Nat → Int → Int → Int → Int → Int → Int → Int → Int → List BK → Int → Int → FU → List LRg → BK → Prop}
    (h : k o1 o2 o3 s1 s2 s3 s4 s5 (kb : Int) (j : Int) (ct f N kb j) s9 s10 s11 f l f.2.1[kb]) : l3r36v2 k o1 o2 o3 s1 s2 s3 s4 s5 (kb : Int) (j : Int) 0 s9 s10 s11 (N : Int) 0 f l f.2.1[kb] := by
  constructor
  intro I hI
  have key := upInd (N := N) (M := fun u => I o1 o2 o3 s1 s2 s3 s4 s5 (kb : Int) (j : Int) (ct f u kb j) s9 s10 s11 (N : Int) (u : Int) f l f.2.1[kb])
    (hI _ _ _ _ _ _ _ _ _ _ _ _ _ _ _ _ _ _ _ (brDn (by omega) h))
    (fun u hu ih => by
      apply hI
      have l1 := fl_len (P := fun v => Lv f (v : Int) kb j) (n := u)
      rw [wrapS (n := u) (by omega)]
      refine brD (by omega) (c10_ok hf hz hk (fun q => brT rfl ?_) fun q => brF rfl ?_)
      · unfold ct at ih ⊢
        rw [fl_yes (P := fun v => Lv f (v : Int) kb j) q, List.length_append] at ih
        rw [wrapS (by omega)]
        exact ih
      · unfold ct at ih ⊢
        rw [fl_no (P := fun v => Lv f (v : Int) kb j) q] at ih
        exact ih)
    0 (Nat.zero_le _)
  have e : ct f 0 kb j = 0 := by unfold ct; rw [fl_zero]; rfl
  rw [e] at key
  exact key
theorem l3r32v2_ok {f : FU} {m : MP} (hf : FOk f m) (hz : Szu f) {N : Nat} (hN : frsh f = (N : Int)) (hN2 : N ≤ 5000) {o1 o2 o3 : Nat} {s1 s2 s3 s4 s9 s10 h0 : Int} {S : Int → Prop} (hS : Mx S h0) {kb : Nat} (hk : kb < f.2.1.length) {s8 : List BK} {l : List LRg} {k : Nat → Nat → Nat → Int → Int → Int → Int → Int → List BK → Int → Int → FU → List LRg → Prop}
    (h : ∀ z, Mx (fun x => S x ∨ ∃ j, j ≤ insN f kb ∧ x = ct f N kb j) z → k o1 o2 o3 s1 s2 s3 s4 z s8 s9 s10 f l) : l3r32v2 k o1 o2 o3 s1 s2 s3 s4 h0 (kb : Int) 0 s8 s9 s10 f l f.2.1[kb] := by
  have hin := insN_at hk
  have hil := hf.il _ (List.getElem_mem hk)
  constructor
  intro I hI
  have key := upInd (N := f.2.1[kb].2.1.length + 1) (M := fun i => ∀ z, Mx (fun x => S x ∨ ∃ j, j < i ∧ x = ct f N kb j) z → I o1 o2 o3 s1 s2 s3 s4 z (kb : Int) (i : Int) s8 s9 s10 f l f.2.1[kb])
    (fun z hz => hI _ _ _ _ _ _ _ _ _ _ _ _ _ _ _ _ (brDn (by omega) (h z (hz.congr fun x => or_congr Iff.rfl ⟨fun ⟨j, q1, q2⟩ => ⟨j, by omega, q2⟩, fun ⟨j, q1, q2⟩ => ⟨j, by omega, q2⟩⟩))))
    (fun i hi ih z hz2 => by
      apply hI
      refine brD (by omega) (c6_ok hz ?_)
      rw [hN]
      refine l3r36v2_ok hf hz hN2 hk ?_
      rw [wrapS (n := i) (by omega)]
      refine ih _ (hz2.step.congr fun x => ?_)
      constructor
      · rintro (q | q | ⟨j, q1, q2⟩)
        · exact .inr ⟨i, by omega, q⟩
        · exact .inl q
        · exact .inr ⟨j, by omega, q2⟩
      · rintro (q | ⟨j, q1, q2⟩)
        · exact .inr (.inl q)
        · by_cases e : j = i
          · subst e; exact .inl q2
          · exact .inr (.inr ⟨j, by omega, q2⟩))
    0 (Nat.zero_le _)
  exact key h0 (hS.congr fun x => ⟨.inl, fun q => q.elim id fun ⟨j, q, _⟩ => absurd q (by omega)⟩)
theorem l3r29v2_ok {f : FU} {m : MP} (hf : FOk f m) (hz : Szu f) {N : Nat} (hN : frsh f = (N : Int)) (hN2 : N ≤ 5000) {o1 o2 o3 : Nat} {s1 s2 s3 s4 : Int} {l : List LRg} {k : Nat → Nat → Nat → Int → Int → Int → Int → Int → List LRg → Prop}
    (h : ∀ z, Mx (prS f N f.2.1.length) z → k o1 o2 o3 s1 s2 s3 s4 z l) : l3r29v2 k o1 o2 o3 s1 s2 s3 s4 0 f.2.1 (f.2.1.length : Int) 0 f l := by
  have hn := hf.le
  constructor
  intro I hI
  have key := upInd (N := f.2.1.length) (M := fun i => ∀ z, Mx (prS f N i) z → I o1 o2 o3 s1 s2 s3 s4 z f.2.1 (f.2.1.length : Int) (i : Int) f l)
    (fun z hz => hI _ _ _ _ _ _ _ _ _ _ _ _ _ (brDn (by omega) (h z hz)))
    (fun i hi ih z hz2 => by
      apply hI
      refine brD (by omega) (needAt hi (l3r32v2_ok hf hz hN hN2 hz2 hi fun z3 hz3 => ?_))
      rw [wrapS (n := i) (by omega)]
      refine ih _ (hz3.congr fun x => ?_)
      constructor
      · rintro (⟨k, j, q1, q2⟩ | ⟨j, q1, q2⟩)
        · exact ⟨k, j, by omega, q2⟩
        · exact ⟨i, j, by omega, q1, q2⟩
      · rintro ⟨k, j, q1, q2, q3⟩
        by_cases e : k = i
        · subst e; exact .inr ⟨j, q2, q3⟩
        · exact .inl ⟨k, j, by omega, q2, q3⟩)
    0 (Nat.zero_le _)
  exact key 0 ⟨fun x ⟨k, j, q, _⟩ => absurd q (by omega), .inl rfl⟩
theorem lv_lt {f : FU} {m : MP} (hf : FOk f m) (hU : AllU f) {v : Int} {k i : Nat} (h : Lv f v k i) : v < frsh f := by
  obtain ⟨_, _, g3⟩ := frsh_ok hf
  have us : ∀ {v : Int} {k i : Nat}, Us f v k i → v < frsh f := fun {v k i} ⟨k', i', hd, _⟩ => (g3 v k' i' hd).2
  have scn1 : ∀ (l : List IN), scn v l = 1 → ∃ (j : Nat) (x : IN), l[j]? = some x ∧ v ∈ x.2.2.2.1 := by
    intro l
    induction l with
    | nil => intro h; cases h
    | cons x r ih =>
      intro h
      unfold scn at h
      split at h
      · rename_i e; exact ⟨0, x, rfl, e⟩
      · split at h
        · cases h
        · obtain ⟨j, y, q1, q2⟩ := ih h
          exact ⟨j + 1, y, q1, q2⟩
  induction h with
  | hit q =>
    obtain ⟨b, hb, q | ⟨_, q⟩⟩ := q
    · obtain ⟨j, x, q1, q2⟩ := scn1 _ q
      rw [List.getElem?_drop] at q1
      exact us ((hU _ b hb).1 _ x q1 v q2)
    · exact us ((hU _ b hb).2 v q)
  | nx _ _ ih => exact ih
theorem pv_no {f : FU} {v : Nat} (h : ∀ k i, ¬ Lv f (v : Int) k i) : ∀ k, pv f v k = []
  | 0 => rfl
  | k + 1 => by
    rw [pv, pv_no h k, List.nil_append]
    rcases rg_ok (f := f) (v := v) (k := k) with ⟨e, _⟩ | ⟨a, b, q, _⟩
    · exact e
    · exact (h _ _ q.2).elim
theorem c5_ok {f : FU} (hz : Szu f) {k : Bool → Prop} (h1 : k true) (h2 : k false) : c5 f k := by
  constructor
  refine brP (fun _ => c6_ok hz ?_) fun _ => h2
  cases decide (frsh f ≤ 200)
  · exact h2
  · exact h1
theorem law3' {f : FU} (hz : Szu f) (h4 : ∀ {k : Bool → Prop}, k true → c4 k) {k : Bool → Prop} (hk : k true) : c3 f k := by
  constructor
  refine h4 (brF rfl (c5_ok hz (brF rfl (c6_ok hz (brP (fun _ => hk) fun _ => c7_ok hz (brN (fun _ => hk) fun e => ?_)))) (brT rfl hk)))
  obtain ⟨m, hf, hU⟩ := fErr_ok e
  obtain ⟨g1, g2, g3⟩ := frsh_ok hf
  obtain ⟨N, hN⟩ : ∃ N : Nat, frsh f = (N : Int) := ⟨(frsh f).toNat, by omega⟩
  have hN1 : (frsh f + 1).toNat = N + 1 := by omega
  have top : ∀ k i, ¬ Lv f (N : Int) k i := fun k i q => by have := lv_lt hf hU q; omega
  have hal : alL f (frsh f + 1).toNat = alT f N := by rw [hN1, alL_eq, alT, pv_no top, List.append_nil]
  have hpr : ∀ x, prS f (frsh f + 1).toNat f.2.1.length x ↔ prS f N f.2.1.length x := fun x => by
    have : ∀ k j, ct f (N + 1) k j = ct f N k j := fun k j => by
      unfold ct; rw [fl_no (P := fun v => Lv f (v : Int) k j) (top k j)]
    unfold prS
    rw [hN1]
    simp only [this]
  have pos : ∀ x, prS f N f.2.1.length x → 0 ≤ x := fun x ⟨k, j, _, _, q⟩ => by rw [q]; unfold ct; omega
  refine c8v2_ok hz (fun q => (q e).elim) (fun _ q => ?_) fun _ q => ?_
  · refine c9_ok hz (fun q => (q e).elim) fun _ z hz2 => c6_ok hz ?_
    rw [hal] at q
    rw [hN, ← q]
    refine l3r9_ok hf hz (by omega) (l3r29_ok hf hz hN (by omega) fun w hw => brE (fun _ => brE (fun _ => brE (fun _ => ?_) fun q => (q rfl).elim) fun q => (q rfl).elim) fun q => (q rfl).elim)
    rw [Mx.uniq pos (hz2.congr hpr) hw, beq_self_eq_true]
    exact hk
  · refine c9_ok hz (fun q => (q e).elim) fun _ z hz2 => c6_ok hz ?_
    rw [hal, hN]
    refine l3r9v2_ok hf hz (by omega) (l3r29v2_ok hf hz hN (by omega) fun w hw => brE (fun _ => brE (fun _ => brE (fun _ => ?_) fun q => (q rfl).elim) fun q => (q rfl).elim) fun q => (q rfl).elim)
    rw [Mx.uniq pos (hz2.congr hpr) hw, beq_self_eq_true]
    exact hk
theorem w01 : IntKind.wrap .i64 (0 + 1) = 1 := by decide +kernel
theorem w12 : IntKind.wrap .i64 (1 + 1) = 2 := by decide +kernel
theorem w23 : IntKind.wrap .i64 (2 + 1) = 3 := by decide +kernel
theorem w34 : IntKind.wrap .i64 (3 + 1) = 4 := by decide +kernel
theorem w10 : IntKind.wrap .i64 (1 - 1) = 0 := by decide +kernel
theorem w21 : IntKind.wrap .i64 (2 - 1) = 1 := by decide +kernel
theorem w0m : IntKind.wrap .i64 (0 - 1) = -1 := by decide +kernel
theorem tn0 : Int.toNat 0 = 0 := rfl
theorem tn1 : Int.toNat 1 = 1 := rfl
theorem tn2 : Int.toNat 2 = 2 := rfl
theorem tn4 : Int.toNat 4 = 4 := rfl
theorem k0 : ((0 : Nat) : Int) = 0 := rfl
theorem k1' : ((1 : Nat) : Int) = 1 := rfl
theorem k2' : ((2 : Nat) : Int) = 2 := rfl
theorem k4' : ((4 : Nat) : Int) = 4 := rfl
theorem at0 {α : Type} {l : List α} : at? l 0 = l[0]? := rfl
theorem at1 {α : Type} {l : List α} : at? l 1 = l[1]? := rfl
theorem at2 {α : Type} {l : List α} : at? l 2 = l[2]? := rfl
theorem at3 {α : Type} {l : List α} : at? l 3 = l[3]? := rfl
abbrev bl0 : List BK := [([], [(1, 0, 1, [], ()), (2, 0, 2, [], ())], (0, 2, 0, [], [], ()), ())]
theorem c33_same {a b : List Bool} {k : Bool → Prop} (hl : a.length ≤ 100000) (h : k (decide (a = b))) : c33 a b k := c33_ok hl (fun e => by rw [decide_eq_true e] at h; exact h) fun e => by rw [decide_eq_false e] at h; exact h
theorem c32_same {s7 s8 : BB} {k : Int → Int → List BK → BB → BB → List Bool → Prop} (h : k (-1) 4 bl0 s7 s8 [false, false, true, false]) : c32 0 (-1) 4 bl0 s7 s8 k := by
  repeat' (first | refine brT (by decide +kernel) ?_ | refine brF (by decide +kernel) ?_ | (simp only [k0, k1', k2', k4', at0, at1, at2, at3, Nat.zero_add, Nat.reduceAdd, List.length_replicate, List.replicate, w01, w12, w23, w34, w10, w21, w0m, tn0, tn1, tn2, tn4, List.set_cons_zero, List.set_cons_succ, List.getElem?_cons_zero, List.getElem?_cons_succ, List.length_cons, List.length_nil, need_some, List.replicate_zero, List.replicate_succ, List.nil_append, List.cons_append]) | apply_assumption | constructor | (intro I hI; apply hI))
theorem c19_same {u : Unit} {r : List Bool} {k : Int → Int → List BK → BB → List Bool → Prop} (h : k (-1) 4 bl0 [[false, false, true, false]] [false, false, false, false]) : c19 0 u (-1) 4 bl0 [[false, false, true, false]] k := by
  constructor
  repeat' (first | refine brT (by decide +kernel) ?_ | refine brF (by decide +kernel) ?_ | (simp only [k0, k1', k2', k4', at0, at1, at2, at3, Nat.zero_add, Nat.reduceAdd, List.length_replicate, List.replicate, w01, w12, w23, w34, w10, w21, w0m, tn0, tn1, tn2, tn4, List.set_cons_zero, List.set_cons_succ, List.getElem?_cons_zero, List.getElem?_cons_succ, List.length_cons, List.length_nil, need_some, List.replicate_zero, List.replicate_succ, List.nil_append, List.cons_append]) | apply_assumption | constructor | (intro I hI; apply hI))
theorem l18r7_same {k : List BK → Int → Int → BB → BB → Prop} (h : k bl0 (-1) 4 [[false, false, true, false]] [[false, false, false, false]]) : l18r7 k true bl0 (-1) (-1) 4 [[]] [[]] := by
  repeat' (first | refine brT (by decide +kernel) ?_ | refine brF (by decide +kernel) ?_ | (simp only [k0, k1', k2', k4', at0, at1, at2, at3, Nat.zero_add, Nat.reduceAdd, List.length_replicate, List.replicate, w01, w12, w23, w34, w10, w21, w0m, tn0, tn1, tn2, tn4, List.set_cons_zero, List.set_cons_succ, List.getElem?_cons_zero, List.getElem?_cons_succ, List.length_cons, List.length_nil, need_some, List.replicate_zero, List.replicate_succ, List.nil_append, List.cons_append]) | apply_assumption | constructor | (intro I hI; apply hI))
abbrev f0 : FU := (-1, bl0, ())
theorem f0_szu : Szu f0 := by
  refine ⟨by decide +kernel, fun b hb => ?_, fun b hb => ?_, fun b hb => ?_, fun b hb x hx => ?_, fun b hb e he => ?_⟩
  · rw [List.mem_singleton.1 hb]; decide +kernel
  · rw [List.mem_singleton.1 hb]; decide +kernel
  · rw [List.mem_singleton.1 hb]; decide +kernel
  · rw [List.mem_singleton.1 hb] at hx
    rcases List.mem_cons.1 hx with rfl | hx
    · decide +kernel
    · rw [List.mem_singleton.1 hx]; decide +kernel
  · rw [List.mem_singleton.1 hb] at he; cases he
theorem f0_form {x : IN} (h : x = (1, 0, 1, [], ()) ∨ x = (2, 0, 2, [], ())) : formE x = 0 := by
  unfold formE
  have ha : ar x = 0 := by rcases h with rfl | rfl <;> decide +kernel
  have h1 : ¬ Bf x := by unfold Bf; rw [ha]; rcases h with rfl | rfl <;> decide +kernel
  have h2 : ¬ Lg x := by unfold Lg; rcases h with rfl | rfl <;> decide +kernel
  have h3 : numP x := by unfold numP; rcases h with rfl | rfl <;> decide +kernel
  rw [if_neg h1, if_neg h2, if_pos h3]
theorem f0_end : endE f0 (0, 2, 0, [], [], ()) = 0 := by
  unfold endE
  have h1 : shpP (0, 2, 0, [], [], ()) := by unfold shpP; decide +kernel
  rw [if_neg (fun w => w h1), if_neg (by decide +kernel), if_neg (by decide +kernel), if_neg (by decide +kernel)]
  rfl
theorem f0_shp : (shpE f0 0 bl0 []).1 = 0 := by
  have hp : parE (((0 : Nat) : Int), 0, ()) [] [] = (0, []) := rfl
  have hi : insE ((0 : Nat) : Int) 0 [(1, 0, 1, [], ()), (2, 0, 2, [], ())] [] = (0, [(1, (0, 1, ())), (2, (0, 2, ()))]) := by
    rw [insE, if_neg (by decide +kernel), if_neg (fun w => w (f0_form (.inl rfl))), insE, if_neg (by decide +kernel), if_neg (fun w => w (f0_form (.inr rfl))), insE]
    rfl
  have hb : (blkE f0 ((0 : Nat) : Int) ([], [(1, 0, 1, [], ()), (2, 0, 2, [], ())], (0, 2, 0, [], [], ()), ()) []).1 = 0 := by
    rw [blkE, if_neg (by rw [hp]; exact fun w => w rfl), hp, if_neg (by rw [hi]; exact fun w => w rfl)]
    exact f0_end
  rw [shpE, if_neg (fun w => w hb), shpE]
theorem f0_all : AllU f0 := by
  intro k b hb
  cases k with
  | succ k => cases hb
  | zero =>
    obtain rfl := Option.some.inj hb
    refine ⟨fun j x hj v hv => ?_, fun v hv => ?_⟩
    · match j with
      | 0 => obtain rfl := Option.some.inj hj; cases hv
      | 1 => obtain rfl := Option.some.inj hj; cases hv
      | j + 2 => cases hj
    · have : v = 2 := by simpa [opr] using hv
      subst this
      exact ⟨0, 2, ⟨_, rfl, .inr ⟨1, _, rfl, rfl, rfl⟩⟩, .inr (.inl ⟨rfl, Nat.le_refl _⟩)⟩
theorem f0_err : fErr f0 = 0 := by
  unfold fErr
  rw [if_neg (by decide +kernel), if_neg (by decide +kernel), if_neg (by decide +kernel), if_neg (by decide +kernel), if_neg (by decide +kernel), if_neg (fun w => w f0_shp), if_pos f0_all]
theorem f0_frsh : frsh f0 = 3 := by decide +kernel
theorem c18_same {k1 : Unit → Int → List BK → BB → Prop} {k2 : Int → List BK → Int → Int → BB → BB → Prop} (h : k2 0 bl0 (-1) 4 [[false, false, true, false]] [[false, false, false, false]]) : c18 (-1) bl0 k1 k2 := by
  have hl : l18r7 (fun z5 z6 z7 z8 z9 => k2 0 z5 z6 z7 z8 z9) true bl0 (-1) (-1) (IntKind.wrap .i64 (3 + 1)) (List.replicate (Int.toNat ((bl0.length : Nat) : Int)) []) (List.replicate (Int.toNat ((bl0.length : Nat) : Int)) []) := by
    rw [w34]
    exact l18r7_same h
  constructor
  refine c30_ok f0_szu ?_
  rw [f0_err]
  refine brF rfl ⟨c31_ok f0_szu ?_, ?_⟩
  · rw [f0_frsh]
    repeat' (first | exact hl | refine And.intro ?_ ?_ | refine brT rfl ?_ | refine brT (eqT_self _ _) ?_ | refine brT (by decide +kernel) ?_)
  · refine brD rfl (brD (by decide +kernel) (brT (by decide +kernel) (brT (by decide +kernel) (c31_ok f0_szu ?_))))
    rw [f0_frsh]
    repeat' (first | exact hl | refine And.intro ?_ ?_ | refine brT rfl ?_ | refine brT (eqT_self _ _) ?_ | refine brT (by decide +kernel) ?_)
theorem c11_same {k : Int → List BK → List (List Int) → List (List Int) → Prop} (h : k 0 bl0 [[]] [[2]]) : c11 (-1) bl0 k := by
  constructor
  refine c18_same (brF rfl ?_)
  repeat' (first | refine brT (by decide +kernel) ?_ | refine brF (by decide +kernel) ?_ | (simp only [k0, k1', k2', k4', at0, at1, at2, at3, Nat.zero_add, Nat.reduceAdd, List.length_replicate, List.replicate, w01, w12, w23, w34, w10, w21, w0m, tn0, tn1, tn2, tn4, List.set_cons_zero, List.set_cons_succ, List.getElem?_cons_zero, List.getElem?_cons_succ, List.length_cons, List.length_nil, need_some, List.replicate_zero, List.replicate_succ, List.nil_append, List.cons_append]) | apply_assumption | constructor | (intro I hI; apply hI))
theorem w00 : IntKind.wrap .i64 (0 + 0) = 0 := by decide +kernel
theorem w1p : IntKind.wrap .i64 (1 + 0) = 1 := by decide +kernel
theorem w1m : IntKind.wrap .i64 (1 - 0) = 1 := by decide +kernel
theorem w20 : IntKind.wrap .i64 (2 - 0) = 2 := by decide +kernel
theorem m1 : (1 : Int) - 0 = 1 := by decide +kernel
theorem tn3 : Int.toNat 3 = 3 := rfl
theorem k3' : ((3 : Nat) : Int) = 3 := rfl
theorem c22_same {k1 : Nat → Nat → Nat → List (List (Int × Int × Int × Int × Unit)) → List (Int × Int × Int × Int × Unit) → Prop} {k2 : List (List (Int × Int × Int × Int × Unit)) → List (Int × Int × Int × Int × Unit) → Prop} (h : k1 0 1 1 [[], [], [(2, 0, 2, 2, ())], []] [(2, 0, 2, 2, ())]) : c22 [[], [], [(2, 0, 2, 2, ())], []] k1 k2 := by
  repeat' (first | refine brT (by decide +kernel) ?_ | refine brF (by decide +kernel) ?_ | (simp only [w00, w1p, w1m, w20, m1, tn3, k3', k0, k1', k2', k4', at0, at1, at2, at3, Nat.zero_add, Nat.add_zero, Nat.reduceAdd, List.length_replicate, List.replicate, w01, w12, w23, w34, w10, w21, w0m, tn0, tn1, tn2, tn4, List.set_cons_zero, List.set_cons_succ, List.getElem?_cons_zero, List.getElem?_cons_succ, List.length_cons, List.length_nil, need_some, List.replicate_zero, List.replicate_succ, List.nil_append, List.cons_append, List.take, List.drop, List.take_zero, List.drop_zero, List.append_nil]) | apply_assumption | constructor | (intro I hI; apply hI) | (intro I1 I2 hI1 hI2; apply hI1))
theorem c8_same {k1 : Int → List BK → List (Int × Int × Int × Int × Unit) → Prop} {k2 : Nat → Nat → Nat → Int → List BK → List (Int × Int × Int × Int × Unit) → Prop} (h : k2 0 1 1 0 bl0 [(2, 0, 2, 2, ())]) : c8 (-1) bl0 k1 k2 := by
  constructor
  refine c18_same (brF rfl (brT (by decide +kernel) (brT (by decide +kernel) ?_)))
  repeat' (first | refine c22_same ?_ | (first | refine brT (by decide +kernel) ?_ | refine brF (by decide +kernel) ?_ | (simp only [w00, w1p, w1m, w20, m1, tn3, k3', k0, k1', k2', k4', at0, at1, at2, at3, Nat.zero_add, Nat.add_zero, Nat.reduceAdd, List.length_replicate, List.replicate, w01, w12, w23, w34, w10, w21, w0m, tn0, tn1, tn2, tn4, List.set_cons_zero, List.set_cons_succ, List.getElem?_cons_zero, List.getElem?_cons_succ, List.length_cons, List.length_nil, need_some, List.replicate_zero, List.replicate_succ, List.nil_append, List.cons_append, List.take, List.drop, List.take_zero, List.drop_zero, List.append_nil]) | apply_assumption | constructor | (intro I hI; apply hI) | (intro I1 I2 hI1 hI2; apply hI1)))
theorem c4_ok {k : Bool → Prop} (h : k true) : c4 k := by
  constructor
  refine c11_same (c8_same (brT rfl ?_))
  repeat' (first | refine brT (by decide +kernel) ?_ | refine brF (by decide +kernel) ?_ | (simp only [w00, w1p, w1m, w20, m1, tn3, k3', k0, k1', k2', k4', at0, at1, at2, at3, Nat.zero_add, Nat.add_zero, Nat.reduceAdd, List.length_replicate, List.replicate, w01, w12, w23, w34, w10, w21, w0m, tn0, tn1, tn2, tn4, List.set_cons_zero, List.set_cons_succ, List.getElem?_cons_zero, List.getElem?_cons_succ, List.length_cons, List.length_nil, need_some, List.replicate_zero, List.replicate_succ, List.nil_append, List.cons_append, List.take, List.drop, List.take_zero, List.drop_zero, List.append_nil]) | apply_assumption | constructor | (intro I hI; apply hI) | (intro I1 I2 hI1 hI2; apply hI1))
abbrev edT : Ty := .pair (.int .i64) (.pair (.sl (.int .i64)) .unit)
abbrev tmT : Ty := .pair (.int .i64) (.pair (.int .i64) (.pair (.int .i64) (.pair (.sl (.int .i64)) (.pair (.sl edT) .unit))))
abbrev inT : Ty := .pair (.int .i64) (.pair (.int .i64) (.pair (.int .i64) (.pair (.sl (.int .i64)) .unit)))
abbrev bkT : Ty := .pair (.sl (.int .i64)) (.pair (.sl inT) (.pair tmT .unit))
abbrev fuT : Ty := .pair (.int .i64) (.pair (.sl bkT) .unit)
theorem szu_of {f : FU} (g : Go.Abs.Good fuT f) : Szu f := by
  obtain ⟨_, ⟨g1, g2⟩, _⟩ := g
  refine ⟨g1, fun b hb => ?_, fun b hb => ?_, fun b hb => ?_, fun b hb x hx => ?_, fun b hb e he => ?_⟩
  · obtain ⟨⟨h, _⟩, _⟩ := g2 b hb
    exact h
  · obtain ⟨_, ⟨h, _⟩, _⟩ := g2 b hb
    exact h
  · obtain ⟨_, _, ⟨_, _, _, _, ⟨h, _⟩, _⟩, _⟩ := g2 b hb
    exact h
  · obtain ⟨_, ⟨_, h⟩, _⟩ := g2 b hb
    obtain ⟨_, _, _, ⟨h2, _⟩, _⟩ := h x hx
    exact h2
  · obtain ⟨_, _, ⟨_, _, _, _, ⟨_, h⟩, _⟩, _⟩ := g2 b hb
    obtain ⟨_, ⟨h2, _⟩, _⟩ := h e he
    exact h2
theorem law3 {f : FU} (g : Go.Abs.Good fuT f ∧ Go.Abs.Sz fuT f) {k : Bool → Prop} (hk : k true) : c3 f k := law3' (szu_of g.1) c4_ok hk
end Go.Proofs.Ytgbmfhchieahjaa
