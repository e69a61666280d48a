/- The places of registers, as the program and the reference say them. -/
import Derived.Test.YtmnidkbkmakdbaaAD3
import Derived.Test.YtmnidkbkmakdbaaAPKit2
import Derived.Test.YtmnidkbkmakdbaaARow1
import Derived.Test.YtmnidkbkmakdbaaARow6
set_option linter.unusedVariables false
set_option linter.unusedSimpArgs false
namespace Go.Proofs.Ytmnidkbkmakdbaa
open Go.Abs
abbrev LM := List (List Int)
theorem hml : maxLen = 9223372036854775807 := rfl
theorem allInd {N : Nat} {p : Nat → Prop} {M : Nat → Prop} (hN : (∀ i, i < N → p i) → M N)
    (hs : ∀ i, i < N → (∀ j, j < i → p j) → (p i → M (i + 1)) → M i) : M 0 := by
  have key := upInd (N := N) (M := fun i => (∀ j, j < i → p j) → M i) hN (fun i hi ih hp =>
    hs i hi hp (fun h => ih fun j hj => by
      by_cases e : j = i
      · subst e; exact h
      · exact hp j (by omega)))
  exact key 0 (Nat.zero_le _) fun j hj => absurd hj (by omega)
abbrev VI := Int × Int × Int × Int × Int × List Int × Unit
abbrev BL := List VI × VI × Unit
abbrev FN := Int × List Int × Int × List BL × Unit
def uses (x : VI) : List Int := ([x.2.2.1, x.2.2.2.1] ++ x.2.2.2.2.2.1).filter fun r => r != 0
def dfn (x : VI) : Int := if x.1 = 13 ∨ x.1 = 23 then 0 else x.2.1
theorem c34_ok {x : VI} {k : Int → Prop} (h : k (dfn x)) : c34 x k := by
  constructor
  unfold dfn at h
  refine brE (fun e => ?_) fun e => brE (fun e2 => ?_) fun e2 => ?_
  · rw [if_pos (.inl e)] at h; exact h
  · rw [if_pos (.inr e2)] at h; exact h
  · rw [if_neg (by omega)] at h; exact h
theorem c25_ok {x : VI} {k : Int → Prop} (h : k (dfn x)) : c25 x k := by
  constructor
  unfold dfn at h
  refine brE (fun e => ?_) fun e => brE (fun e2 => ?_) fun e2 => ?_
  · rw [if_pos (.inl e)] at h; exact h
  · rw [if_pos (.inr e2)] at h; exact h
  · rw [if_neg (by omega)] at h; exact h
theorem c26_ok {a b c : Int} {k : Bool → Prop} (h : k (decide (b ≤ a ∧ a ≤ c))) : c26 a b c k := by
  constructor
  refine brP (fun h1 => ?_) fun h1 => ?_
  · rw [show decide (a ≤ c) = decide (b ≤ a ∧ a ≤ c) by rw [decide_eq_decide]; omega]; exact h
  · rw [show decide (b ≤ a ∧ a ≤ c) = false from decide_eq_false fun e => h1 e.1] at h; exact h
theorem c27_ok {l : List Int} {v : Int} {k : Bool → Prop} (hl : l.length ≤ maxLen) (h1 : v ∈ l → k true) (h2 : v ∉ l → k false) : c27 l v k := by
  have hm := hml
  constructor
  constructor
  constructor
  intro I hI
  refine allInd (N := l.length) (p := fun i => ∀ h : i < l.length, l[i] ≠ v) (M := fun i => I l v (l.length : Int) (i : Int)) (fun h => hI _ _ _ _ (brDn (by omega) (h2 fun hm => ?_))) fun i hi hlt ih => hI _ _ _ _ ?_
  · obtain ⟨i, hi, e⟩ := List.mem_iff_getElem.1 hm
    exact h i hi hi e
  · rw [wrapS (by omega)]
    refine brD (by omega) (needAt hi (brE (fun e => ?_) fun e => ih fun _ e2 => e e2.symm))
    show k (decide ((i : Int) ≥ 0))
    rw [decide_eq_true (by omega)]
    exact h1 (e ▸ List.getElem_mem hi)
theorem c21_ok {l : List Int} {v : Int} {k : Bool → Prop} (hl : l.length ≤ maxLen) (h1 : v ∈ l → k true) (h2 : v ∉ l → k false) : c21 l v k := by
  have hm := hml
  constructor
  constructor
  intro I hI
  refine allInd (N := l.length) (p := fun i => ∀ h : i < l.length, l[i] ≠ v) (M := fun i => I v l (l.length : Int) (i : Int)) (fun h => hI _ _ _ _ (brDn (by omega) (h2 fun hm => ?_))) fun i hi hlt ih => hI _ _ _ _ ?_
  · obtain ⟨i, hi, e⟩ := List.mem_iff_getElem.1 hm
    exact h i hi hi e
  · rw [wrapS (by omega)]
    exact brD (by omega) (needAt hi (brE (fun e => h1 (e ▸ List.getElem_mem hi)) fun e => ih fun _ => e))
theorem l44r3_ok {l : List Int} {k : List Int → Prop} (hl : l.length * 8 ≤ 140737488355328) (h : k (l.filter fun r => r != 0)) : l44r3 k (l.length : Int) 0 [] l := by
  constructor
  intro I hI
  have key := upInd (N := l.length) (M := fun j => I (l.length : Int) (j : Int) ((l.take j).filter fun r => r != 0) l)
    (by
      apply hI
      refine brDn (by omega) ?_
      rw [List.take_length]; exact h)
    (by
      intro j hj ih
      apply hI
      rw [List.take_succ_eq_append_getElem hj, List.filter_append] at ih
      rw [wrapS (by omega), Int.toNat_natCast]
      have hlen : ((l.take j).filter fun r => r != 0).length ≤ j := Nat.le_trans (List.length_filter_le _ _) (by simp; omega)
      refine brD (by omega) (brD (by omega) (needNth hj (brN (fun e => brT (roomS (by omega)) ?_) fun e => ?_)))
      · have : [l[j]].filter (fun r => r != 0) = [l[j]] := by simp [e]
        rw [this] at ih; exact ih
      · have : [l[j]].filter (fun r => r != 0) = [] := by simp [e]
        rw [this, List.append_nil] at ih; exact ih)
    0 (Nat.zero_le _)
  exact key
theorem c44_ok {x : VI} {k : List Int → Prop} (hl : x.2.2.2.2.2.1.length * 8 ≤ 140737488351232) (h : k (uses x)) : c44 x k := by
  constructor
  refine brB (fun e => ?_) fun e => brT (roomS (by omega)) ?_
  · have e : x.2.2.2.2.2.1 = [] := List.isEmpty_iff.1 e
    unfold uses at h
    rw [e] at h
    exact l44r3_ok (l := [x.2.2.1, x.2.2.2.1]) (by simp) h
  · exact l44r3_ok (l := [x.2.2.1, x.2.2.2.1] ++ x.2.2.2.2.2.1) (by simp; omega) h
def Sl (T : List Int) (len cap : Nat) (row : List Int) : Prop := cap = row.length ∧ T.length = len ∧ len ≤ cap ∧ row.take len = T
theorem sl_get {T row : List Int} {len cap : Nat} (h : Sl T len cap row) {i : Nat} (hi : i < T.length) : ∃ h2 : i < row.length, row[i] = T[i] := by
  obtain ⟨h1, h2, h3, h4⟩ := h
  have h5 : i < row.length := by omega
  refine ⟨h5, ?_⟩
  have : (row.take len)[i]'(by simp; omega) = row[i] := List.getElem_take
  rw [← this]; simp only [h4]
def nz (l : List Int) : List Int := l.filter fun r => r != 0
theorem nz_snoc {l : List Int} {j : Nat} (hj : j < l.length) : nz (l.take (j + 1)) = nz (l.take j) ++ (if l[j] = 0 then [] else [l[j]]) := by
  unfold nz
  rw [List.take_succ_eq_append_getElem hj, List.filter_append]
  by_cases e : l[j] = 0 <;> simp [e]
theorem l50r5_ok {l : List Int} {i : Nat} {k : Int → List Int → Prop} (hl : l.length * 8 ≤ 140737488355328) (hi : i < l.length) (h0 : l.take i = nz (l.take (i + 1)))
    (h : ∀ (m : Nat) (row : List Int), row.length = l.length → m ≤ l.length → m = (nz l).length → row.take m = nz l → k (m : Int) row) : l50r5 k (i : Int) ((i + 1 : Nat) : Int) l := by
  constructor
  intro I hI
  have key := upInd (N := l.length) (M := fun j => ∀ (m : Nat) (row : List Int), row.length = l.length → m ≤ j → m = (nz (l.take j)).length → row.take m = nz (l.take j) → row.drop j = l.drop j → I (m : Int) (j : Int) row)
    (by
      intro m row h1 h2 h3 h4 h5
      apply hI
      rw [List.take_length] at h3 h4
      exact brDn (by omega) (h m row h1 h2 h3 h4))
    (by
      intro j hj ih m row h1 h2 h3 h4 h5
      apply hI
      have hg : row[j]'(by omega) = l[j] := by
        have e1 := drop_cons (l := row) (i := j) (by omega)
        have e2 := drop_cons (l := l) (i := j) hj
        rw [e1, e2] at h5
        exact (List.cons.inj h5).1
      have hd : row.drop (j + 1) = l.drop (j + 1) := by
        have e1 := drop_cons (l := row) (i := j) (by omega)
        have e2 := drop_cons (l := l) (i := j) hj
        rw [e1, e2] at h5
        exact (List.cons.inj h5).2
      have hk := nz_snoc hj
      rw [wrapS (by omega), wrapS (by omega), Int.toNat_natCast, Int.toNat_natCast]
      refine brD (by omega) (brD (by omega) (needNth (by omega) ?_))
      rw [hg]
      refine ⟨?_⟩
      show br (!(l[j] == 0)) _ _
      refine brB (fun e => ?_) fun e => ?_
      · have e : l[j] ≠ 0 := by simpa using e
        rw [if_neg e] at hk
        refine brD (by omega) (needNth (by omega) (ih (m + 1) _ (by simp [h1]) (by omega) (by rw [hk]; simp; exact h3) ?_ ?_))
        · rw [hk, ← h4, List.take_add_one, List.getElem?_set_self (by omega), List.take_set_of_le (by omega)]
          simp
        · rw [List.drop_set_of_lt (by omega)]; exact hd
      · have e : l[j] = 0 := by simpa using e
        rw [if_pos e, List.append_nil] at hk
        exact ih m row h1 (by omega) (by rw [hk]; exact h3) (by rw [hk]; exact h4) hd)
    (i + 1) hi
  refine key i l rfl (by omega) ?_ h0 rfl
  rw [← h0]; simp; omega
theorem l50r5v2_ok {l : List Int} {i : Nat} {k : Int → List Int → Prop} (hl : l.length * 8 ≤ 140737488355328) (hi : i < l.length) (h0 : l.take i = nz (l.take (i + 1)))
    (h : ∀ (m : Nat) (row : List Int), row.length = l.length → m ≤ l.length → m = (nz l).length → row.take m = nz l → k (m : Int) row) : l50r5v2 k (i : Int) ((i + 1 : Nat) : Int) l := by
  constructor
  intro I hI
  have key := upInd (N := l.length) (M := fun j => ∀ (m : Nat) (row : List Int), row.length = l.length → m ≤ j → m = (nz (l.take j)).length → row.take m = nz (l.take j) → row.drop j = l.drop j → I (m : Int) (j : Int) row)
    (by
      intro m row h1 h2 h3 h4 h5
      apply hI
      rw [List.take_length] at h3 h4
      exact brDn (by omega) (h m row h1 h2 h3 h4))
    (by
      intro j hj ih m row h1 h2 h3 h4 h5
      apply hI
      have hg : row[j]'(by omega) = l[j] := by
        have e1 := drop_cons (l := row) (i := j) (by omega)
        have e2 := drop_cons (l := l) (i := j) hj
        rw [e1, e2] at h5
        exact (List.cons.inj h5).1
      have hd : row.drop (j + 1) = l.drop (j + 1) := by
        have e1 := drop_cons (l := row) (i := j) (by omega)
        have e2 := drop_cons (l := l) (i := j) hj
        rw [e1, e2] at h5
        exact (List.cons.inj h5).2
      have hk := nz_snoc hj
      rw [wrapS (by omega), wrapS (by omega), Int.toNat_natCast, Int.toNat_natCast]
      refine brD (by omega) (brD (by omega) (needNth (by omega) ?_))
      rw [hg]
      refine ⟨?_⟩
      show br (!(l[j] == 0)) _ _
      refine brB (fun e => ?_) fun e => ?_
      · have e : l[j] ≠ 0 := by simpa using e
        rw [if_neg e] at hk
        refine brD (by omega) (needNth (by omega) (ih (m + 1) _ (by simp [h1]) (by omega) (by rw [hk]; simp; exact h3) ?_ ?_))
        · rw [hk, ← h4, List.take_add_one, List.getElem?_set_self (by omega), List.take_set_of_le (by omega)]
          simp
        · rw [List.drop_set_of_lt (by omega)]; exact hd
      · have e : l[j] = 0 := by simpa using e
        rw [if_pos e, List.append_nil] at hk
        exact ih m row h1 (by omega) (by rw [hk]; exact h3) (by rw [hk]; exact h4) hd)
    (i + 1) hi
  refine key i l rfl (by omega) ?_ h0 rfl
  rw [← h0]; simp; omega
theorem c50_ok {l : List Int} {k1 : List Int → Prop} {k2 : Nat → Nat → Nat → List Int → Prop} (hl : l.length * 8 ≤ 140737488355328) (h1 : nz l = l → k1 l) (h2 : ∀ len cap row, Sl (nz l) len cap row → k2 0 len cap row) : c50 l k1 k2 := by
  constructor
  constructor
  constructor
  intro I hI
  refine allInd (N := l.length) (p := fun i => ∀ h : i < l.length, l[i] ≠ 0) (M := fun i => I l (l.length : Int) (i : Int)) (fun h => hI _ _ _ (brDn (by omega) (brT rfl (h1 ?_)))) fun i hi hlt ih => hI _ _ _ ?_
  · unfold nz
    rw [List.filter_eq_self]
    intro y hy
    obtain ⟨i, hi, rfl⟩ := List.mem_iff_getElem.1 hy
    simpa using h i hi hi
  · rw [wrapS (by omega)]
    refine brD (by omega) (needAt hi ⟨?_⟩)
    show br (l[i] == 0) _ _
    refine brB (fun e => ?_) fun e => ih fun _ => by simpa using e
    have e : l[i] = 0 := by simpa using e
    refine brF (beq_eq_false_iff_ne.2 (by omega)) ?_
    refine l50r5_ok hl hi ?_ fun m row g1 g2 g3 g4 => ?_
    · rw [nz_snoc hi, if_pos e, List.append_nil]
      unfold nz
      symm
      rw [List.filter_eq_self]
      intro y hy
      obtain ⟨j, hj, rfl⟩ := List.mem_take_iff_getElem.1 hy
      simpa using hlt j (by omega) (by omega)
    · have hlen : (((row.take m) ++ List.replicate (Int.toNat ((row.length : Int) - (m : Int))) (0 : Int)) ++ row.drop (m + (List.replicate (Int.toNat ((row.length : Int) - (m : Int))) (0 : Int)).length)).length = l.length := by
        simp; omega
      simp only [Int.toNat_natCast, Int.sub_zero]
      refine brD (by omega) (brD (by rw [hlen]; omega) (h2 _ _ _ ⟨rfl, by omega, by rw [hlen]; omega, ?_⟩))
      rw [List.append_assoc, List.take_append_of_le_length (by simp; omega), List.take_take, Nat.min_self, g4]
theorem c50v2_ok {l : List Int} {k1 : List Int → Prop} {k2 : Nat → Nat → Nat → List Int → Prop} (hl : l.length * 8 ≤ 140737488355328) (h1 : nz l = l → k1 l) (h2 : ∀ len cap row, Sl (nz l) len cap row → k2 0 len cap row) : c50v2 l k1 k2 := by
  constructor
  constructor
  constructor
  intro I hI
  refine allInd (N := l.length) (p := fun i => ∀ h : i < l.length, l[i] ≠ 0) (M := fun i => I l (l.length : Int) (i : Int)) (fun h => hI _ _ _ (brDn (by omega) (brT rfl (h1 ?_)))) fun i hi hlt ih => hI _ _ _ ?_
  · unfold nz
    rw [List.filter_eq_self]
    intro y hy
    obtain ⟨i, hi, rfl⟩ := List.mem_iff_getElem.1 hy
    simpa using h i hi hi
  · rw [wrapS (by omega)]
    refine brD (by omega) (needAt hi ⟨?_⟩)
    show br (l[i] == 0) _ _
    refine brB (fun e => ?_) fun e => ih fun _ => by simpa using e
    have e : l[i] = 0 := by simpa using e
    refine brF (beq_eq_false_iff_ne.2 (by omega)) ?_
    refine l50r5v2_ok hl hi ?_ fun m row g1 g2 g3 g4 => ?_
    · rw [nz_snoc hi, if_pos e, List.append_nil]
      unfold nz
      symm
      rw [List.filter_eq_self]
      intro y hy
      obtain ⟨j, hj, rfl⟩ := List.mem_take_iff_getElem.1 hy
      simpa using hlt j (by omega) (by omega)
    · have hlen : (((row.take m) ++ List.replicate (Int.toNat ((row.length : Int) - (m : Int))) (0 : Int)) ++ row.drop (m + (List.replicate (Int.toNat ((row.length : Int) - (m : Int))) (0 : Int)).length)).length = l.length := by
        simp; omega
      simp only [Int.toNat_natCast, Int.sub_zero]
      refine brD (by omega) (brD (by rw [hlen]; omega) (h2 _ _ _ ⟨rfl, by omega, by rw [hlen]; omega, ?_⟩))
      rw [List.append_assoc, List.take_append_of_le_length (by simp; omega), List.take_take, Nat.min_self, g4]
theorem c50v3_ok {l : List Int} {k1 : List Int → Prop} {k2 : Nat → Nat → Nat → List Int → Prop} (hl : l.length * 8 ≤ 140737488355328) (h1 : nz l = l → k1 l) (h2 : ∀ len cap row, Sl (nz l) len cap row → k2 0 len cap row) : c50v3 l k1 k2 := by
  constructor
  constructor
  constructor
  intro I hI
  refine allInd (N := l.length) (p := fun i => ∀ h : i < l.length, l[i] ≠ 0) (M := fun i => I l (l.length : Int) (i : Int)) (fun h => hI _ _ _ (brDn (by omega) (brT rfl (h1 ?_)))) fun i hi hlt ih => hI _ _ _ ?_
  · unfold nz
    rw [List.filter_eq_self]
    intro y hy
    obtain ⟨i, hi, rfl⟩ := List.mem_iff_getElem.1 hy
    simpa using h i hi hi
  · rw [wrapS (by omega)]
    refine brD (by omega) (needAt hi ⟨?_⟩)
    show br (l[i] == 0) _ _
    refine brB (fun e => ?_) fun e => ih fun _ => by simpa using e
    have e : l[i] = 0 := by simpa using e
    refine brF (beq_eq_false_iff_ne.2 (by omega)) ?_
    refine l50r5v2_ok hl hi ?_ fun m row g1 g2 g3 g4 => ?_
    · rw [nz_snoc hi, if_pos e, List.append_nil]
      unfold nz
      symm
      rw [List.filter_eq_self]
      intro y hy
      obtain ⟨j, hj, rfl⟩ := List.mem_take_iff_getElem.1 hy
      simpa using hlt j (by omega) (by omega)
    · have hlen : (((row.take m) ++ List.replicate (Int.toNat ((row.length : Int) - (m : Int))) (0 : Int)) ++ row.drop (m + (List.replicate (Int.toNat ((row.length : Int) - (m : Int))) (0 : Int)).length)).length = l.length := by
        simp; omega
      simp only [Int.toNat_natCast, Int.sub_zero]
      refine brD (by omega) (brD (by rw [hlen]; omega) (h2 _ _ _ ⟨rfl, by omega, by rw [hlen]; omega, ?_⟩))
      rw [List.append_assoc, List.take_append_of_le_length (by simp; omega), List.take_take, Nat.min_self, g4]
theorem c33_ok {x : VI} {k1 : List Int → Prop} {k2 : Nat → Nat → Nat → List Int → Prop} (h1 : k1 (nz [x.2.2.1, x.2.2.2.1])) (h2 : ∀ len cap row, Sl (nz [x.2.2.1, x.2.2.2.1]) len cap row → k2 0 len cap row) : c33 x k1 k2 := by
  constructor
  exact c50_ok (by simp) (fun e => by rw [e] at h1; exact h1) h2
theorem c37_ok {x : VI} {k1 : List Int → Prop} {k2 : Nat → Nat → Nat → List Int → Prop} (hl : x.2.2.2.2.2.1.length * 8 ≤ 140737488351232) (h1 : k1 (uses x)) (h2 : ∀ len cap row, Sl (uses x) len cap row → k2 0 len cap row) : c37 x k1 k2 := by
  constructor
  refine brB (fun e => ?_) fun e => brT (roomS (by omega)) ?_
  · have e : x.2.2.2.2.2.1 = [] := List.isEmpty_iff.1 e
    have hu : uses x = nz [x.2.2.1, x.2.2.2.1] := by unfold uses nz; rw [e, List.append_nil]
    rw [hu] at h1 h2
    exact c50v2_ok (by simp) (fun e => by rw [e] at h1; exact h1) h2
  · have hu : uses x = nz ([x.2.2.1, x.2.2.2.1] ++ x.2.2.2.2.2.1) := rfl
    rw [hu] at h1 h2
    exact c50v3_ok (by simp; omega) (fun e => by rw [e] at h1; exact h1) h2
def Tr (s : List Bool) (r : Nat) : Prop := s[r]? = some true
theorem tr_set {s : List Bool} {i r : Nat} {v : Bool} (hi : i < s.length) : Tr (s.set i v) r ↔ (r = i ∧ v = true) ∨ (r ≠ i ∧ Tr s r) := by
  unfold Tr
  by_cases e : r = i
  · subst e; rw [List.getElem?_set_self hi]; simp
  · rw [List.getElem?_set_ne (fun h => e h.symm)]; simp [e]
theorem mem_take_succ {l : List Int} {j : Nat} (hj : j < l.length) {r : Int} : r ∈ l.take (j + 1) ↔ r ∈ l.take j ∨ r = l[j] := by
  rw [List.take_succ_eq_append_getElem hj, List.mem_append, List.mem_singleton]
def InR (n : Nat) (l : List Int) : Prop := ∀ r ∈ l, 0 ≤ r ∧ r < (n : Int)
theorem l48r2_ok {l : List Int} {s : List Bool} {b : BL} {k : List Bool → BL → Prop} (hl : l.length ≤ maxLen) (hr : InR s.length l) (h : ∀ s' : List Bool, s'.length = s.length → (∀ r : Nat, Tr s' r ↔ Tr s r ∨ (r : Int) ∈ l) → k s' b) : l48r2 k (l.length : Int) 0 s b l := by
  have hm := hml
  constructor
  intro I hI
  have key := upInd (N := l.length) (M := fun j => ∀ s' : List Bool, s'.length = s.length → (∀ r : Nat, Tr s' r ↔ Tr s r ∨ (r : Int) ∈ l.take j) → I (l.length : Int) (j : Int) s' b l)
    (by
      intro s' h1 h2
      apply hI
      rw [List.take_length] at h2
      exact brDn (by omega) (h s' h1 h2))
    (by
      intro j hj ih s' h1 h2
      apply hI
      have hrj := hr _ (List.getElem_mem hj)
      rw [wrapS (by omega), Int.toNat_natCast]
      refine brD (by omega) (brD (by omega) (needNth hj (brD (by rw [h1]; omega) (needNth (by rw [h1]; omega) ?_))))
      refine ih _ (by simp [h1]) fun r => ?_
      rw [tr_set (by rw [h1]; omega), h2 r, mem_take_succ hj]
      constructor
      · rintro (⟨e, _⟩ | ⟨_, e | e⟩)
        · exact .inr (.inr (by omega))
        · exact .inl e
        · exact .inr (.inl e)
      · rintro (e | e | e)
        · by_cases hc : r = (l[j]).toNat
          · exact .inl ⟨hc, rfl⟩
          · exact .inr ⟨hc, .inl e⟩
        · by_cases hc : r = (l[j]).toNat
          · exact .inl ⟨hc, rfl⟩
          · exact .inr ⟨hc, .inr e⟩
        · exact .inl ⟨by omega, rfl⟩)
    0 (Nat.zero_le _)
  exact key s rfl fun r => by simp
theorem l48r11_ok {l : List Int} {s : List Bool} {b : BL} {i : Int} {k : Int → List Bool → BL → Prop} (hl : l.length ≤ maxLen) (hr : InR s.length l) (h : ∀ s' : List Bool, s'.length = s.length → (∀ r : Nat, Tr s' r ↔ Tr s r ∨ (r : Int) ∈ l) → k i s' b) : l48r11 k i (l.length : Int) 0 s b l := by
  have hm := hml
  constructor
  intro I hI
  have key := upInd (N := l.length) (M := fun j => ∀ s' : List Bool, s'.length = s.length → (∀ r : Nat, Tr s' r ↔ Tr s r ∨ (r : Int) ∈ l.take j) → I i (l.length : Int) (j : Int) s' b l)
    (by
      intro s' h1 h2
      apply hI
      rw [List.take_length] at h2
      exact brDn (by omega) (h s' h1 h2))
    (by
      intro j hj ih s' h1 h2
      apply hI
      have hrj := hr _ (List.getElem_mem hj)
      rw [wrapS (by omega), Int.toNat_natCast]
      refine brD (by omega) (brD (by omega) (needNth hj (brD (by rw [h1]; omega) (needNth (by rw [h1]; omega) ?_))))
      refine ih _ (by simp [h1]) fun r => ?_
      rw [tr_set (by rw [h1]; omega), h2 r, mem_take_succ hj]
      constructor
      · rintro (⟨e, _⟩ | ⟨_, e | e⟩)
        · exact .inr (.inr (by omega))
        · exact .inl e
        · exact .inr (.inl e)
      · rintro (e | e | e)
        · by_cases hc : r = (l[j]).toNat
          · exact .inl ⟨hc, rfl⟩
          · exact .inr ⟨hc, .inl e⟩
        · by_cases hc : r = (l[j]).toNat
          · exact .inl ⟨hc, rfl⟩
          · exact .inr ⟨hc, .inr e⟩
        · exact .inl ⟨by omega, rfl⟩)
    0 (Nat.zero_le _)
  exact key s rfl fun r => by simp
theorem l48r2v2_ok {l row : List Int} {len cap : Nat} (hs : Sl l len cap row) {s : List Bool} {b : BL} {k : List Bool → BL → Prop} (hl : l.length ≤ maxLen) (hr : InR s.length l) (h : ∀ s' : List Bool, s'.length = s.length → (∀ r : Nat, Tr s' r ↔ Tr s r ∨ (r : Int) ∈ l) → k s' b) : l48r2v2 k 0 len cap (len : Int) 0 s b row := by
  have hm := hml
  obtain rfl : l.length = len := hs.2.1
  constructor
  intro I hI
  have key := upInd (N := l.length) (M := fun j => ∀ s' : List Bool, s'.length = s.length → (∀ r : Nat, Tr s' r ↔ Tr s r ∨ (r : Int) ∈ l.take j) → I 0 l.length cap (l.length : Int) (j : Int) s' b row)
    (by
      intro s' h1 h2
      apply hI
      rw [List.take_length] at h2
      exact brDn (by omega) (h s' h1 h2))
    (by
      intro j hj ih s' h1 h2
      apply hI
      have hrj := hr _ (List.getElem_mem hj)
      obtain ⟨g1, g2⟩ := sl_get hs hj
      rw [wrapS (by omega), Int.toNat_natCast, Nat.zero_add]
      refine brD (by omega) (brD (by omega) (needNth g1 (brD (by rw [g2, h1]; omega) (needNth (by rw [g2, h1]; omega) ?_))))
      rw [g2]
      refine ih _ (by simp [h1]) fun r => ?_
      rw [tr_set (by rw [h1]; omega), h2 r, mem_take_succ hj]
      constructor
      · rintro (⟨e, _⟩ | ⟨_, e | e⟩)
        · exact .inr (.inr (by omega))
        · exact .inl e
        · exact .inr (.inl e)
      · rintro (e | e | e)
        · by_cases hc : r = (l[j]).toNat
          · exact .inl ⟨hc, rfl⟩
          · exact .inr ⟨hc, .inl e⟩
        · by_cases hc : r = (l[j]).toNat
          · exact .inl ⟨hc, rfl⟩
          · exact .inr ⟨hc, .inr e⟩
        · exact .inl ⟨by omega, rfl⟩)
    0 (Nat.zero_le _)
  exact key s rfl fun r => by simp
theorem l48r11v2_ok {l row : List Int} {len cap : Nat} (hs : Sl l len cap row) {s : List Bool} {b : BL} {i : Int} {k : Int → List Bool → BL → Prop} (hl : l.length ≤ maxLen) (hr : InR s.length l) (h : ∀ s' : List Bool, s'.length = s.length → (∀ r : Nat, Tr s' r ↔ Tr s r ∨ (r : Int) ∈ l) → k i s' b) : l48r11v2 k i 0 len cap (len : Int) 0 s b row := by
  have hm := hml
  obtain rfl : l.length = len := hs.2.1
  constructor
  intro I hI
  have key := upInd (N := l.length) (M := fun j => ∀ s' : List Bool, s'.length = s.length → (∀ r : Nat, Tr s' r ↔ Tr s r ∨ (r : Int) ∈ l.take j) → I i 0 l.length cap (l.length : Int) (j : Int) s' b row)
    (by
      intro s' h1 h2
      apply hI
      rw [List.take_length] at h2
      exact brDn (by omega) (h s' h1 h2))
    (by
      intro j hj ih s' h1 h2
      apply hI
      have hrj := hr _ (List.getElem_mem hj)
      obtain ⟨g1, g2⟩ := sl_get hs hj
      rw [wrapS (by omega), Int.toNat_natCast, Nat.zero_add]
      refine brD (by omega) (brD (by omega) (needNth g1 (brD (by rw [g2, h1]; omega) (needNth (by rw [g2, h1]; omega) ?_))))
      rw [g2]
      refine ih _ (by simp [h1]) fun r => ?_
      rw [tr_set (by rw [h1]; omega), h2 r, mem_take_succ hj]
      constructor
      · rintro (⟨e, _⟩ | ⟨_, e | e⟩)
        · exact .inr (.inr (by omega))
        · exact .inl e
        · exact .inr (.inl e)
      · rintro (e | e | e)
        · by_cases hc : r = (l[j]).toNat
          · exact .inl ⟨hc, rfl⟩
          · exact .inr ⟨hc, .inl e⟩
        · by_cases hc : r = (l[j]).toNat
          · exact .inl ⟨hc, rfl⟩
          · exact .inr ⟨hc, .inr e⟩
        · exact .inl ⟨by omega, rfl⟩)
    0 (Nat.zero_le _)
  exact key s rfl fun r => by simp
def liveS : List VI → (Nat → Prop) → Nat → Prop
  | [], A, r => A r
  | x :: xs, A, r => (r : Int) ∈ uses x ∨ ((r : Int) ≠ dfn x ∧ liveS xs A r)
def VOk (n : Nat) (x : VI) : Prop := x.2.2.2.2.2.1.length * 8 ≤ 140737488351232 ∧ InR n (uses x) ∧ 0 ≤ dfn x ∧ dfn x < (n : Int)
theorem uses_len {x : VI} : (uses x).length ≤ 2 + x.2.2.2.2.2.1.length := by
  unfold uses
  refine Nat.le_trans (List.length_filter_le _ _) ?_
  simp; omega
theorem l48r7_ok {b : BL} {s : List Bool} {A : Nat → Prop} {k : List Bool → Prop} (hb : b.1.length ≤ maxLen) (hv : ∀ x ∈ b.1, VOk s.length x) (hs : ∀ r, Tr s r ↔ A r)
    (h : ∀ s' : List Bool, s'.length = s.length → (∀ r, Tr s' r ↔ liveS b.1 A r) → k s') : l48r7 k (((b.1.length : Nat) : Int) - 1) s b := by
  have hm := hml
  constructor
  intro I hI
  have key : ∀ j, j ≤ b.1.length → ∀ s' : List Bool, s'.length = s.length → (∀ r, Tr s' r ↔ liveS (b.1.drop j) A r) → I ((j : Int) - 1) s' b := by
    intro j
    induction j with
    | zero =>
      intro _ s' h1 h2
      apply hI
      exact brDn (by omega) (h s' h1 h2)
    | succ j ih =>
      intro hj s' h1 h2
      apply hI
      have hjl : j < b.1.length := by omega
      have hx := hv _ (List.getElem_mem hjl)
      obtain ⟨v1, v2, v3, v4⟩ := hx
      have e : (((j + 1 : Nat) : Int) - 1) = (j : Int) := by omega
      rw [e]
      have hu := uses_len (x := b.1[j])
      have fin : ∀ s2 : List Bool, s2.length = (List.set s' (dfn b.1[j]).toNat false).length → (∀ r : Nat, Tr s2 r ↔ Tr (List.set s' (dfn b.1[j]).toNat false) r ∨ (r : Int) ∈ uses b.1[j]) → I (IntKind.wrap .i64 ((j : Int) - 1)) s2 b := by
        intro s2 q1 q2
        rw [wrap64 (by omega) (by omega)]
        refine ih (by omega) s2 (by rw [q1]; simp [h1]) fun r => ?_
        rw [q2 r, tr_set (by omega), h2 r, drop_cons hjl]
        simp only [liveS]
        constructor
        · rintro ((⟨_, e⟩ | ⟨e1, e2⟩) | e)
          · cases e
          · exact .inr ⟨by omega, e2⟩
          · exact .inl e
        · rintro (e | ⟨e1, e2⟩)
          · exact .inr e
          · exact .inl (.inr ⟨by omega, e2⟩)
      refine brD (by omega) (needAt hjl (c34_ok (brD (by omega) (needNth (by omega) (needAt hjl (c37_ok v1 ?_ fun len cap row hs2 => ?_))))))
      · exact l48r11_ok (by omega) (by simpa [h1] using v2) fin
      · exact l48r11v2_ok hs2 (by omega) (by simpa [h1] using v2) fin
  exact key _ (Nat.le_refl _) s rfl (by rw [List.drop_length]; exact hs)
theorem c48_ok {b : BL} {s : List Bool} {k : List Bool → Prop} (hb : b.1.length ≤ maxLen) (hv : ∀ x ∈ b.1, VOk s.length x) (he : InR s.length (nz [b.2.1.2.2.1, b.2.1.2.2.2.1])) (h0 : 0 < s.length)
    (h : ∀ s' : List Bool, s'.length = s.length → (∀ r, Tr s' r ↔ r ≠ 0 ∧ liveS b.1 (fun r => Tr s r ∨ (r : Int) ∈ nz [b.2.1.2.2.1, b.2.1.2.2.2.1]) r) → k s') : c48 b s k := by
  have hm := hml
  constructor
  have hn : (nz [b.2.1.2.2.1, b.2.1.2.2.2.1]).length ≤ 2 := by
    unfold nz
    exact Nat.le_trans (List.length_filter_le _ _) (by simp)
  have hw : IntKind.wrap .i64 (((b.1.length : Nat) : Int) - 1) = ((b.1.length : Nat) : Int) - 1 := wrap64 (by omega) (by omega)
  have fin : ∀ s1 : List Bool, s1.length = s.length → (∀ r : Nat, Tr s1 r ↔ Tr s r ∨ (r : Int) ∈ nz [b.2.1.2.2.1, b.2.1.2.2.2.1]) →
      l48r7 (fun z6 => br (decide ((0 : Int) ≤ 0 ∧ (0 : Int) < ((z6.length : Nat) : Int))) (need False (z6)[0]? fun y7 => k (List.set z6 0 false)) False) (IntKind.wrap .i64 (((b.1.length : Nat) : Int) - 1)) s1 b := by
    intro s1 q1 q2
    rw [hw]
    refine l48r7_ok hb (by rw [q1]; exact hv) q2 fun s2 p1 p2 => brD (by omega) (needNth (by omega) (h _ (by simp [p1, q1]) fun r => ?_))
    rw [tr_set (by omega), p2 r]
    constructor
    · rintro (⟨_, e⟩ | e)
      · cases e
      · exact e
    · exact fun e => .inr e
  exact c33_ok (l48r2_ok (by omega) he fin) fun len cap row hs => l48r2v2_ok hs (by omega) he fin
abbrev BB := List (List Bool)
theorem tr_lt {s : List Bool} {r : Nat} (h : Tr s r) : r < s.length := (List.getElem?_eq_some_iff.1 h).1
theorem set_self {α : Type} {l : List α} {i : Nat} {y : α} (h : l[i]? = some y) : l.set i y = l := by
  obtain ⟨h1, h2⟩ := List.getElem?_eq_some_iff.1 h
  rw [← h2, List.set_getElem_self]
theorem l47r6_ok {B : BB} {to : List Int} {a b : Int} {y s : List Bool} {i0 : Nat} {k : List Int → Int → Int → BB → List Bool → Prop} (hl : y.length ≤ maxLen) (hy : y.length = s.length) (hi0 : B[i0]? = some y)
    (h : ∀ s' : List Bool, s'.length = s.length → (∀ r, Tr s' r ↔ Tr s r ∨ Tr y r) → k to a b B s') : l47r6 k to a b (y.length : Int) 0 B i0 y s := by
  have hm := hml
  constructor
  intro I hI
  have key := upInd (N := y.length) (M := fun j => ∀ s' : List Bool, s'.length = s.length → (∀ r, Tr s' r ↔ Tr s r ∨ (Tr y r ∧ r < j)) → I to a b (y.length : Int) (j : Int) B i0 y s')
    (by
      intro s' h1 h2
      apply hI
      rw [set_self hi0]
      refine brDn (by omega) (h s' h1 fun r => ?_)
      rw [h2 r]
      constructor
      · rintro (e | e)
        · exact .inl e
        · exact .inr e.1
      · rintro (e | e)
        · exact .inl e
        · exact .inr ⟨e, tr_lt e⟩)
    (by
      intro j hj ih s' h1 h2
      apply hI
      have hj' : j < s'.length := by omega
      have hyj : Tr y j ↔ y[j] = true := by unfold Tr; rw [List.getElem?_eq_getElem hj]; simp
      have hsj : Tr s' j ↔ s'[j] = true := by unfold Tr; rw [List.getElem?_eq_getElem hj']; simp
      rw [wrapS (by omega), Int.toNat_natCast]
      refine brD (by omega) (brD (by omega) (needNth hj (brD (by omega) (needNth hj' (brB (fun e => brD (by omega) (needNth hj' (ih _ (by simp [h1]) fun r => ?_))) fun e => brD (by omega) (needNth hj' (ih _ (by simp [h1]) fun r => ?_)))))))
      · rw [tr_set hj']
        by_cases hr : r = j
        · subst hr
          constructor
          · intro _
            rcases (h2 r).1 (hsj.2 e) with q | q
            · exact .inl q
            · exact .inr ⟨q.1, by omega⟩
          · intro _; exact .inl ⟨rfl, rfl⟩
        · rw [h2 r]
          constructor
          · rintro (⟨q, _⟩ | ⟨_, q | q⟩)
            · exact absurd q hr
            · exact .inl q
            · exact .inr ⟨q.1, by omega⟩
          · rintro (q | q)
            · exact .inr ⟨hr, .inl q⟩
            · exact .inr ⟨hr, .inr ⟨q.1, by omega⟩⟩
      · rw [tr_set hj']
        by_cases hr : r = j
        · subst hr
          have hn : ¬ Tr s' r := fun q => by rw [hsj.1 q] at e; cases e
          constructor
          · rintro (⟨_, q⟩ | ⟨q, _⟩)
            · exact .inr ⟨hyj.2 q, by omega⟩
            · exact absurd rfl q
          · rintro (q | q)
            · exact absurd ((h2 r).2 (.inl q)) hn
            · exact .inl ⟨rfl, hyj.1 q.1⟩
        · rw [h2 r]
          constructor
          · rintro (⟨q, _⟩ | ⟨_, q | q⟩)
            · exact absurd q hr
            · exact .inl q
            · exact .inr ⟨q.1, by omega⟩
          · rintro (q | q)
            · exact .inr ⟨hr, .inl q⟩
            · exact .inr ⟨hr, .inr ⟨q.1, by omega⟩⟩)
    0 (Nat.zero_le _)
  exact key s rfl fun r => by simp
def At (B : BB) (i r : Nat) : Prop := ∃ y, B[i]? = some y ∧ Tr y r
theorem l47r3_ok {B : BB} {to : List Int} {n : Nat} {s : List Bool} {k : BB → List Bool → Prop} (hn : n ≤ maxLen) (hl : to.length ≤ maxLen) (hB : ∀ y ∈ B, y.length = n) (hto : InR B.length to) (hs : s.length = n)
    (h : ∀ s' : List Bool, s'.length = n → (∀ r, Tr s' r ↔ Tr s r ∨ ∃ t ∈ to, At B t.toNat r) → k B s') : l47r3 k to (to.length : Int) 0 B s := by
  have hm := hml
  constructor
  intro I hI
  have key := upInd (N := to.length) (M := fun j => ∀ s' : List Bool, s'.length = n → (∀ r, Tr s' r ↔ Tr s r ∨ ∃ t ∈ to.take j, At B t.toNat r) → I to (to.length : Int) (j : Int) B s')
    (by
      intro s' h1 h2
      apply hI
      rw [List.take_length] at h2
      exact brDn (by omega) (h s' h1 h2))
    (by
      intro j hj ih s' h1 h2
      apply hI
      have hrj := hto _ (List.getElem_mem hj)
      have hlt : (to[j]).toNat < B.length := by omega
      have hyl := hB _ (List.getElem_mem hlt)
      refine brD (by omega) (needAt hj (brD (by omega) (needNth hlt (needNth hlt (l47r6_ok (by omega) (by omega) (List.getElem?_eq_getElem hlt) fun s2 q1 q2 => ?_)))))
      rw [wrapS (by omega)]
      refine ih s2 (by omega) fun r => ?_
      rw [q2 r, h2 r]
      constructor
      · rintro ((e | ⟨t, ht, e⟩) | e)
        · exact .inl e
        · exact .inr ⟨t, (mem_take_succ hj).2 (.inl ht), e⟩
        · exact .inr ⟨to[j], (mem_take_succ hj).2 (.inr rfl), _, List.getElem?_eq_getElem hlt, e⟩
      · rintro (e | ⟨t, ht, e⟩)
        · exact .inl (.inl e)
        · rcases (mem_take_succ hj).1 ht with ht | rfl
          · exact .inl (.inr ⟨t, ht, e⟩)
          · obtain ⟨y, g1, g2⟩ := e
            rw [List.getElem?_eq_getElem hlt] at g1
            rw [← Option.some.inj g1] at g2
            exact .inr g2)
    0 (Nat.zero_le _)
  exact key s hs fun r => by simp
theorem c49_ok {a b : List Bool} {k : Bool → Prop} (hl : a.length ≤ maxLen) (h1 : a = b → k true) (h2 : a ≠ b → k false) : c49 a b k := by
  have hm := hml
  constructor
  refine brN (fun h => h2 fun e => h (by rw [e])) fun h => ?_
  have hlen : a.length = b.length := by omega
  constructor
  intro I hI
  refine allInd (N := a.length) (p := fun i => a[i]? = b[i]?) (M := fun i => I a b (a.length : Int) (i : Int)) (fun e => hI _ _ _ _ (brDn (by omega) (h1 ?_))) fun i hi hlt ih => hI _ _ _ _ ?_
  · refine List.ext_getElem? fun i => ?_
    by_cases hi : i < a.length
    · exact e i hi
    · rw [List.getElem?_eq_none (by omega), List.getElem?_eq_none (by omega)]
  · rw [wrapS (by omega)]
    refine brD (by omega) (needAt hi (needAt (by omega) (brB (fun e => h2 fun e2 => ?_) fun e => ih ?_)))
    · subst e2; simp at e
    · rw [List.getElem?_eq_getElem hi, List.getElem?_eq_getElem (by omega)]
      exact congrArg some (by simpa using e)
def bls (f : FN) : List BL := f.2.2.2.1
def tos (b : BL) : List Int := b.2.1.2.2.2.2.2.1
def ends (b : BL) : List Int := nz [b.2.1.2.2.1, b.2.1.2.2.2.1]
def Fb (f : FN) (X : Nat → Nat → Prop) (i r : Nat) : Prop := ∃ b, (bls f)[i]? = some b ∧ r ≠ 0 ∧ liveS b.1 (fun r => (∃ t ∈ tos b, X t.toNat r) ∨ (r : Int) ∈ ends b) r
def Closed (f : FN) (X : Nat → Nat → Prop) : Prop := ∀ i r, Fb f X i r → X i r
theorem liveS_mono {A C : Nat → Prop} (h : ∀ r, A r → C r) : ∀ (l : List VI) (r : Nat), liveS l A r → liveS l C r
  | [], r, q => h r q
  | x :: xs, r, q => q.imp id fun ⟨a, b⟩ => ⟨a, liveS_mono h xs r b⟩
theorem Fb_mono {f : FN} {X Y : Nat → Nat → Prop} (h : ∀ i r, X i r → Y i r) {i r : Nat} (q : Fb f X i r) : Fb f Y i r := by
  obtain ⟨b, h1, h2, h3⟩ := q
  exact ⟨b, h1, h2, liveS_mono (fun r => Or.imp (fun ⟨t, ht, e⟩ => ⟨t, ht, h _ _ e⟩) id) _ _ h3⟩
structure FOk (f : FN) (n : Nat) : Prop where
  regs : f.2.2.1 = (n : Int)
  pos : 0 < n
  nle : n ≤ 8192
  ble : (bls f).length ≤ 4096
  ins : ∀ b ∈ bls f, b.1.length ≤ maxLen ∧ (∀ x ∈ b.1, VOk n x)
  ends : ∀ b ∈ bls f, InR n (ends b) ∧ InR (bls f).length (tos b) ∧ (tos b).length ≤ maxLen
theorem c47_ok {f : FN} {n : Nat} (hf : FOk f n) {B : BB} {i : Nat} (hi : i < (bls f).length) (hB : ∀ y ∈ B, y.length = n) (hl : B.length = (bls f).length) {k : BB → List Bool → Prop}
    (h : ∀ s : List Bool, s.length = n → (∀ r, Tr s r ↔ ∃ t ∈ tos ((bls f)[i]), At B t.toNat r) → k B s) : c47 f (i : Int) B k := by
  have h1 := hf.regs
  have h2 := hf.nle
  obtain ⟨e1, e2, e3⟩ := hf.ends _ (List.getElem_mem hi)
  constructor
  rw [h1, Int.toNat_natCast]
  refine brD (by omega) (needAt (xs := bls f) hi ?_)
  refine l47r3_ok (n := n) (by rw [hml]; omega) e3 hB (by rw [hl]; exact e2) (by simp) fun s' q1 q2 => h s' q1 fun r => ?_
  rw [q2 r]
  constructor
  · rintro (e | e)
    · unfold Tr at e
      rw [List.getElem?_replicate] at e
      split at e <;> simp at e
    · exact e
  · exact .inr
structure Rd (f : FN) (n : Nat) (B : BB) : Prop where
  len : B.length = (bls f).length
  row : ∀ y ∈ B, y.length = n
  low : ∀ X, Closed f X → ∀ i r, At B i r → X i r
  up : ∀ i r, At B i r → Fb f (At B) i r
theorem at_set {B : BB} {i : Nat} {y : List Bool} (hi : i < B.length) {j r : Nat} : At (B.set i y) j r ↔ (j = i ∧ Tr y r) ∨ (j ≠ i ∧ At B j r) := by
  unfold At
  by_cases e : j = i
  · subst e
    rw [List.getElem?_set_self hi]
    constructor
    · rintro ⟨z, hz, q⟩
      rw [← Option.some.inj hz] at q
      exact .inl ⟨rfl, q⟩
    · rintro (⟨_, q⟩ | ⟨q, _⟩)
      · exact ⟨y, rfl, q⟩
      · exact absurd rfl q
  · rw [List.getElem?_set_ne (fun h => e h.symm)]
    simp [e]
theorem rd_step {f : FN} {n : Nat} {B : BB} (h : Rd f n B) {i : Nat} (hi : i < B.length) {y : List Bool} (hy : y.length = n) (hF : ∀ r, Tr y r ↔ Fb f (At B) i r) : Rd f n (B.set i y) ∧ ∀ r, Tr B[i] r → Tr y r := by
  have hg : ∀ r, Tr B[i] r → Tr y r := fun r q => (hF r).2 (h.up i r ⟨_, List.getElem?_eq_getElem hi, q⟩)
  have hmono : ∀ j r, At B j r → At (B.set i y) j r := fun j r q => by
    rw [at_set hi]
    by_cases e : j = i
    · subst e
      obtain ⟨z, hz, q⟩ := q
      rw [List.getElem?_eq_getElem hi] at hz
      rw [← Option.some.inj hz] at q
      exact .inl ⟨rfl, hg r q⟩
    · exact .inr ⟨e, q⟩
  refine ⟨⟨by simp [h.len], fun z hz => ?_, fun X hX j r q => ?_, fun j r q => ?_⟩, hg⟩
  · rcases List.mem_or_eq_of_mem_set hz with hz | rfl
    · exact h.row z hz
    · exact hy
  · rcases (at_set hi).1 q with ⟨e, q2⟩ | ⟨_, q2⟩
    · subst e
      exact hX _ r (Fb_mono (fun i r => h.low X hX i r) ((hF r).1 q2))
    · exact h.low X hX j r q2
  · rcases (at_set hi).1 q with ⟨e, q2⟩ | ⟨_, q2⟩
    · subst e
      exact Fb_mono hmono ((hF r).1 q2)
    · exact Fb_mono hmono (h.up j r q2)
def left (B : BB) : Nat := (B.map fun y => y.count false).sum
theorem count_le : ∀ (a b : List Bool), a.length = b.length → (∀ r, Tr a r → Tr b r) → b.count false ≤ a.count false
  | [], [], _, _ => Nat.le_refl _
  | [], _ :: _, h, _ => by simp at h
  | _ :: _, [], h, _ => by simp at h
  | u :: a, v :: b, h, hh => by
    have h1 := count_le a b (by simpa using h) fun r q => hh (r + 1) q
    have h0 : u = true → v = true := fun e => by
      have := hh 0 (by subst e; rfl)
      simpa [Tr] using this
    cases u <;> cases v <;> simp_all <;> omega
theorem count_lt : ∀ (a b : List Bool), a.length = b.length → (∀ r, Tr a r → Tr b r) → a ≠ b → b.count false < a.count false
  | [], [], _, _, hn => absurd rfl hn
  | [], _ :: _, h, _, _ => by simp at h
  | _ :: _, [], h, _, _ => by simp at h
  | u :: a, v :: b, h, hh, hn => by
    have h1 := count_le a b (by simpa using h) fun r q => hh (r + 1) q
    have h0 : u = true → v = true := fun e => by
      have := hh 0 (by subst e; rfl)
      simpa [Tr] using this
    by_cases e : a = b
    · subst e
      cases u <;> cases v <;> simp_all
    · have h2 := count_lt a b (by simpa using h) (fun r q => hh (r + 1) q) e
      cases u <;> cases v <;> simp_all <;> omega
theorem left_set : ∀ (B : BB) (i : Nat) (h : i < B.length) (y : List Bool), y.count false < (B[i]).count false → left (B.set i y) < left B
  | [], i, h, _, _ => absurd h (by simp)
  | z :: B, 0, h, y, q => by simp [left] at q ⊢; omega
  | z :: B, i + 1, h, y, q => by
    have := left_set B i (by simpa using h) y q
    simp [left] at this ⊢; omega
structure Pass (f : FN) (n : Nat) (B0 B : BB) (ch : Bool) (j : Nat) : Prop where
  rd : Rd f n B
  no : ch = false → B = B0 ∧ ∀ i r, j ≤ i → Fb f (At B0) i r → At B0 i r
  yes : ch = true → left B < left B0
theorem l30r11_ok {f : FN} {n : Nat} (hf : FOk f n) {B0 : BB} {k : Bool → FN → BB → Prop} (h0 : Rd f n B0) (h : ∀ ch B, Pass f n B0 B ch 0 → k ch f B) :
    l30r11 k false ((((bls f).length : Nat) : Int) - 1) f B0 := by
  have hb := hf.ble
  constructor
  intro I hI
  have key : ∀ j, j ≤ (bls f).length → ∀ ch B, Pass f n B0 B ch j → I ch ((j : Int) - 1) f B := by
    intro j
    induction j with
    | zero =>
      intro _ ch B hp
      apply hI
      exact brDn (by omega) (h ch B hp)
    | succ j ih =>
      intro hj ch B hp
      apply hI
      have hjl : j < (bls f).length := by omega
      have hBl := hp.rd.len
      have e : (((j + 1 : Nat) : Int) - 1) = (j : Int) := by omega
      rw [e, wrap64 (a := (j : Int) - 1) (by omega) (by omega), Int.toNat_natCast]
      have hmem := List.getElem_mem hjl
      refine brD (by omega) (c47_ok hf hjl hp.rd.row hBl fun s s1 s2 => needAt (xs := bls f) hjl ?_)
      obtain ⟨e1, e2, e3⟩ := hf.ends _ hmem
      obtain ⟨i1, i2⟩ := hf.ins _ hmem
      refine c48_ok i1 (by rw [s1]; exact i2) (by rw [s1]; exact e1) (by rw [s1]; exact hf.pos) fun y y1 y2 => ?_
      have hyl : y.length = n := by rw [y1, s1]
      have hF : ∀ r, Tr y r ↔ Fb f (At B) j r := fun r => by
        rw [y2 r]
        constructor
        · rintro ⟨q1, q2⟩
          exact ⟨_, List.getElem?_eq_getElem hjl, q1, liveS_mono (fun r => Or.imp (s2 r).1 id) _ _ q2⟩
        · rintro ⟨b, q0, q1, q2⟩
          rw [List.getElem?_eq_getElem hjl] at q0
          rw [← Option.some.inj q0] at q2
          exact ⟨q1, liveS_mono (fun r => Or.imp (s2 r).2 id) _ _ q2⟩
      have hi : j < B.length := by omega
      obtain ⟨r1, r2⟩ := rd_step hp.rd hi hyl hF
      have hrow := hp.rd.row _ (List.getElem_mem hi)
      have hnl := hf.nle
      have hset : B.set j B[j] = B := set_self (List.getElem?_eq_getElem hi)
      refine brD (by omega) (needNth hi (needNth hi (c49_ok (by rw [hml]; omega) (fun e => brF rfl (hset.symm ▸ ih (by omega) ch B ⟨hp.rd, fun hc => ?_, hp.yes⟩)) fun e => brT rfl (brD (by omega) (needNth hi (brT (decide_eq_true rfl) (ih (by omega) true _ ⟨r1, fun hc => (by cases hc), fun _ => ?_⟩)))))))
      · obtain ⟨g1, g2⟩ := hp.no hc
        refine ⟨g1, fun i r hir q => ?_⟩
        by_cases hc2 : i = j
        · subst hc2
          subst g1
          exact ⟨_, List.getElem?_eq_getElem hi, e ▸ (hF r).2 q⟩
        · exact g2 i r (by omega) q
      · have hlt := left_set B j hi y (count_lt _ _ (by rw [hrow, hyl]) r2 fun e2 => e e2.symm)
        cases hch : ch with
        | false => rw [← (hp.no hch).1]; exact hlt
        | true => exact Nat.lt_trans hlt (hp.yes hch)
  exact key _ (Nat.le_refl _) false B0 ⟨h0, fun _ => ⟨rfl, fun i r hi q => by
    obtain ⟨b, q1, _⟩ := q
    have := (List.getElem?_eq_some_iff.1 q1).1
    omega⟩, fun e => by cases e⟩
theorem l30r8_ok {f : FN} {n : Nat} (hf : FOk f n) {B0 : BB} {k : BB → Prop} (h0 : Rd f n B0) (h : ∀ B, Rd f n B → Closed f (At B) → k B) : l30r8 k true f B0 := by
  have hb := hf.ble
  have hw : IntKind.wrap .i64 ((((bls f).length : Nat) : Int) - 1) = (((bls f).length : Nat) : Int) - 1 := wrap64 (by omega) (by omega)
  constructor
  intro I hI
  have key : ∀ m : Nat, ∀ B, Rd f n B → left B ≤ m → I true f B := by
    intro m
    induction m with
    | zero =>
      intro B hB hm
      apply hI
      refine brT rfl ?_
      show l30r11 _ false (IntKind.wrap .i64 ((((bls f).length : Nat) : Int) - 1)) f B
      rw [hw]
      refine l30r11_ok hf hB fun ch B2 hp => ?_
      cases hch : ch with
      | true => have := hp.yes hch; omega
      | false =>
        obtain ⟨g1, g2⟩ := hp.no hch
        subst g1
        exact hI _ _ _ (brF rfl (h _ hp.rd fun i r q => g2 i r (Nat.zero_le _) q))
    | succ m ih =>
      intro B hB hm
      apply hI
      refine brT rfl ?_
      show l30r11 _ false (IntKind.wrap .i64 ((((bls f).length : Nat) : Int) - 1)) f B
      rw [hw]
      refine l30r11_ok hf hB fun ch B2 hp => ?_
      cases hch : ch with
      | true => have := hp.yes hch; exact ih B2 hp.rd (by omega)
      | false =>
        obtain ⟨g1, g2⟩ := hp.no hch
        subst g1
        exact hI _ _ _ (brF rfl (h _ hp.rd fun i r q => g2 i r (Nat.zero_le _) q))
  exact key _ B0 h0 (Nat.le_refl _)
theorem l30r3_ok {f : FN} {n N : Nat} (hf : FOk f n) {B0 : BB} {k : FN → BB → Prop} (hN : N ≤ 4096) (h0 : B0.length = N)
    (h : ∀ B : BB, B.length = N → (∀ i, i < N → B[i]? = some (List.replicate n false)) → k f B) : l30r3 k (N : Int) 0 f B0 := by
  have h1 := hf.regs
  have h2 := hf.nle
  constructor
  intro I hI
  have key := upInd (N := N) (M := fun j => ∀ B : BB, B.length = N → (∀ i, i < j → B[i]? = some (List.replicate n false)) → I (N : Int) (j : Int) f B)
    (by
      intro B q1 q2
      apply hI
      exact brDn (by omega) (h B q1 q2))
    (by
      intro j hj ih B q1 q2
      apply hI
      rw [h1, Int.toNat_natCast, Int.toNat_natCast, wrapS (by omega)]
      refine brD (by omega) (brD (by omega) (brD (by omega) (needNth (by omega) (ih _ (by simp [q1]) fun i hi => ?_))))
      by_cases e : i = j
      · subst e; rw [List.getElem?_set_self (by omega)]
      · rw [List.getElem?_set_ne (by omega)]; exact q2 i (by omega))
    0 (Nat.zero_le _)
  exact key B0 h0 fun i hi => absurd hi (by omega)
theorem c30_ok {f : FN} {n : Nat} (hf : FOk f n) {k : BB → Prop} (h : ∀ B, Rd f n B → Closed f (At B) → k B) : c30 f k := by
  have hb := hf.ble
  constructor
  have hl : (List.length (List.replicate (Int.toNat (((List.length f.2.2.2.1) : Nat) : Int)) ([] : List Bool))) = (bls f).length := by
    rw [List.length_replicate, Int.toNat_natCast]; rfl
  have hb2 : f.2.2.2.1.length ≤ 4096 := hb
  refine brT (by simp) (brD (by omega) ?_)
  rw [hl]
  refine l30r3_ok hf hb (by rw [List.length_replicate, Int.toNat_natCast]; rfl) fun B q1 q2 => ?_
  have hno : ∀ i r, ¬ At B i r := fun i r ⟨y, hy, q⟩ => by
    have hi := (List.getElem?_eq_some_iff.1 hy).1
    rw [q2 i (by omega)] at hy
    rw [← Option.some.inj hy] at q
    unfold Tr at q
    rw [List.getElem?_replicate] at q
    split at q <;> simp at q
  refine l30r8_ok hf ⟨q1, fun y hy => ?_, fun X _ i r q => absurd q (hno i r), fun i r q => absurd q (hno i r)⟩ h
  obtain ⟨i, hi, rfl⟩ := List.mem_iff_getElem.1 hy
  have := q2 i (by omega)
  rw [List.getElem?_eq_getElem hi] at this
  rw [Option.some.inj this]; simp
def Nd (f : FN) (X : Nat → Nat → Prop) (i a r : Nat) : Prop := ∃ b, (bls f)[i]? = some b ∧ liveS (b.1.drop a) (fun r => (∃ t ∈ tos b, X t.toNat r) ∨ (r : Int) ∈ ends b) r
theorem Nd_mono {f : FN} {X Y : Nat → Nat → Prop} (h : ∀ i r, X i r → Y i r) {i a r : Nat} (q : Nd f X i a r) : Nd f Y i a r := by
  obtain ⟨b, h1, h3⟩ := q
  exact ⟨b, h1, liveS_mono (fun r => Or.imp (fun ⟨t, ht, e⟩ => ⟨t, ht, h _ _ e⟩) id) _ _ h3⟩
theorem fb_nd {f : FN} {X : Nat → Nat → Prop} {i r : Nat} (h0 : r ≠ 0) : Fb f X i r ↔ Nd f X i 0 r := by
  constructor
  · rintro ⟨b, h1, _, h3⟩; exact ⟨b, h1, by rw [List.drop_zero]; exact h3⟩
  · rintro ⟨b, h1, h3⟩; rw [List.drop_zero] at h3; exact ⟨b, h1, h0, h3⟩
def Out (seen : List Bool) (r j q : Nat) : Prop := ¬ (q = r ∧ Tr seen j)
abbrev It (i a : Nat) : List Int := [(i : Int), (a : Int)]
structure Sx (f : FN) (r i0 a0 : Nat) (E : Nat → Nat → Prop) (seen : List Bool) (T : LM) : Prop where
  len : seen.length = (bls f).length
  ok : ∀ p ∈ T, ∃ i a : Nat, p = It i a ∧ i < (bls f).length ∧ a < 9223372036854775807
  snd : ∀ i a : Nat, It i a ∈ T → ∀ X, Closed f X → Nd f X i a r → Nd f X i0 a0 r
  cmp : ∀ i, Tr seen i → It i 0 ∈ T ∨ E i 0 ∨ ¬ Nd f (Out seen r) i 0 r
  st : It i0 a0 ∈ T ∨ E i0 a0 ∨ ¬ Nd f (Out seen r) i0 a0 r
abbrev Se (f : FN) (r i0 a0 : Nat) := Sx f r i0 a0 (fun _ _ => False)
theorem It_inj {i a j b : Nat} (h : It i a = It j b) : i = j ∧ a = b := by
  have h1 := List.cons.inj h
  have h2 := List.cons.inj h1.2
  exact ⟨by exact_mod_cast h1.1, by exact_mod_cast h2.1⟩
theorem Sx.fin {f : FN} {r i0 a0 : Nat} {seen : List Bool} (h : Se f r i0 a0 seen []) : ∃ X, Closed f X ∧ ¬ Nd f X i0 a0 r := by
  refine ⟨Out seen r, fun i q hq => ?_, ?_⟩
  · rintro ⟨rfl, hs⟩
    rcases h.cmp i hs with e | e | e
    · cases e
    · exact e
    · have h0 : q ≠ 0 := by obtain ⟨b, _, h0, _⟩ := hq; exact h0
      exact e ((fb_nd h0).1 hq)
  · rcases h.st with e | e | e
    · cases e
    · exact e.elim
    · exact e
theorem Sx.pop {f : FN} {r i0 a0 i a : Nat} {seen : List Bool} {T : LM} (h : Se f r i0 a0 seen (T ++ [It i a])) :
    Sx f r i0 a0 (fun j b => j = i ∧ b = a) seen T ∧ i < (bls f).length ∧ a < 9223372036854775807 ∧ ∀ X, Closed f X → Nd f X i a r → Nd f X i0 a0 r := by
  refine ⟨⟨h.len, fun p hp => h.ok p (by simp [hp]), fun j b hp => h.snd j b (List.mem_append_left _ hp), fun j hj => ?_, ?_⟩, ?_, ?_, ?_⟩
  · rcases h.cmp j hj with e | e | e
    · rcases List.mem_append.1 e with e | e
      · exact .inl e
      · exact .inr (.inl (It_inj (List.mem_singleton.1 e)))
    · exact e.elim
    · exact .inr (.inr e)
  · rcases h.st with e | e | e
    · rcases List.mem_append.1 e with e | e
      · exact .inl e
      · exact .inr (.inl (It_inj (List.mem_singleton.1 e)))
    · exact e.elim
    · exact .inr (.inr e)
  · obtain ⟨i', a', e, h1, _⟩ := h.ok (It i a) (by simp)
    obtain ⟨rfl, rfl⟩ := It_inj e
    exact h1
  · obtain ⟨i', a', e, _, h1⟩ := h.ok (It i a) (by simp)
    obtain ⟨rfl, rfl⟩ := It_inj e
    exact h1
  · exact h.snd i a (by simp)
theorem Sx.done {f : FN} {r i0 a0 i a : Nat} {seen : List Bool} {T : LM} (h : Sx f r i0 a0 (fun j b => j = i ∧ b = a) seen T) (hn : ¬ Nd f (Out seen r) i a r) : Se f r i0 a0 seen T := by
  refine ⟨h.len, h.ok, h.snd, fun j hj => ?_, ?_⟩
  · rcases h.cmp j hj with e | ⟨rfl, e⟩ | e
    · exact .inl e
    · rw [e]; exact .inr (.inr hn)
    · exact .inr (.inr e)
  · rcases h.st with e | ⟨e1, e2⟩ | e
    · exact .inl e
    · rw [e1, e2]; exact .inr (.inr hn)
    · exact .inr (.inr e)
theorem Sx.push {f : FN} {r i0 a0 t : Nat} {E : Nat → Nat → Prop} {seen : List Bool} {T : LM} (h : Sx f r i0 a0 E seen T) (ht : t < (bls f).length) (h0 : r ≠ 0)
    (hX : ∀ X, Closed f X → X t r → Nd f X i0 a0 r) : Sx f r i0 a0 E (seen.set t true) (T ++ [It t 0]) := by
  have hl : t < seen.length := by rw [h.len]; exact ht
  have hm : ∀ j q, Out (seen.set t true) r j q → Out seen r j q := fun j q e ⟨e1, e2⟩ => e ⟨e1, by
    rw [tr_set hl]
    by_cases e : j = t
    · exact .inl ⟨e, rfl⟩
    · exact .inr ⟨e, e2⟩⟩
  refine ⟨by simp [h.len], fun p hp => ?_, fun i a hp X hc hn => ?_, fun j hj => ?_, ?_⟩
  · rcases List.mem_append.1 hp with e | e
    · exact h.ok p e
    · exact ⟨t, 0, List.mem_singleton.1 e, ht, by omega⟩
  · rcases List.mem_append.1 hp with e | e
    · exact h.snd i a e X hc hn
    · obtain ⟨rfl, rfl⟩ := It_inj (List.mem_singleton.1 e)
      exact hX X hc (hc _ _ ((fb_nd h0).2 hn))
  · rcases (tr_set hl).1 hj with ⟨rfl, _⟩ | ⟨_, hj⟩
    · exact .inl (by simp)
    · rcases h.cmp j hj with e | e | e
      · exact .inl (List.mem_append_left _ e)
      · exact .inr (.inl e)
      · exact .inr (.inr fun q => e (Nd_mono hm q))
  · rcases h.st with e | e | e
    · exact .inl (List.mem_append_left _ e)
    · exact .inr (.inl e)
    · exact .inr (.inr fun q => e (Nd_mono hm q))
def SlG {α : Type} (T : List α) (len cap : Nat) (row : List α) : Prop := cap = row.length ∧ T.length = len ∧ len ≤ cap ∧ row.take len = T
theorem slG_get {α : Type} {T row : List α} {len cap : Nat} (h : SlG T len cap row) {i : Nat} (hi : i < T.length) : ∃ h2 : i < row.length, row[i] = T[i] := by
  obtain ⟨h1, h2, h3, h4⟩ := h
  have h5 : i < row.length := by omega
  refine ⟨h5, ?_⟩
  have : (row.take len)[i]'(by simp; omega) = row[i] := List.getElem_take
  rw [← this]; simp only [h4]
theorem count_set_true : ∀ (s : List Bool) (t : Nat) (h : t < s.length), s[t] = false → (s.set t true).count false + 1 = s.count false
  | [], t, h, _ => absurd h (by simp)
  | u :: s, 0, h, e => by simp at e; subst e; simp
  | u :: s, t + 1, h, e => by
    have := count_set_true s t (by simpa using h) (by simpa using e)
    cases u <;> simp <;> omega
theorem l20r9_ok {b : BL} {f : FN} {seen : List Bool} {row : LM} {r a s2 s3 s4 : Nat} {k1 : Bool → Prop} {k2 : Int → Nat → Nat → Nat → Bool → FN → List Bool → LM → BL → Prop}
    (hb : b.1.length ≤ maxLen) (ha : a ≤ maxLen) (hv : ∀ x ∈ b.1, x.2.2.2.2.2.1.length * 8 ≤ 140737488351232)
    (h1 : (∀ A, liveS (b.1.drop a) A r) → k1 true)
    (h2 : (∀ A, ¬ liveS (b.1.drop a) A r) → k2 (r : Int) s2 s3 s4 true f seen row b)
    (h3 : (∀ A, liveS (b.1.drop a) A r ↔ A r) → k2 (r : Int) s2 s3 s4 false f seen row b) : l20r9 k1 k2 (r : Int) s2 s3 s4 false (a : Int) f seen row b := by
  have hm := hml
  constructor
  intro I hI
  by_cases hal : a ≤ b.1.length
  · have key := upInd (N := b.1.length) (M := fun j => (∀ A, liveS (b.1.drop a) A r ↔ liveS (b.1.drop j) A r) → I (r : Int) s2 s3 s4 false (j : Int) f seen row b)
      (by
        intro hA
        apply hI
        refine brDn (by omega) (h3 fun A => ?_)
        rw [hA A, List.drop_length]; rfl)
      (by
        intro j hj ih hA
        apply hI
        have hx := hv _ (List.getElem_mem hj)
        have hu := uses_len (x := b.1[j])
        refine brD (by omega) (brT rfl (needAt hj (c44_ok hx (c21_ok (by omega) (fun e => brT rfl (h1 fun A => ?_)) fun e => brF rfl (needAt hj (c25_ok ?_))))))
        · rw [hA A, drop_cons hj]; exact .inl e
        · rw [wrapS (by omega)]
          by_cases hd : dfn b.1[j] = (r : Int)
          · rw [show ((dfn b.1[j] : Int) == (r : Int)) = true from beq_iff_eq.2 hd]
            have hfin : k2 (r : Int) s2 s3 s4 true f seen row b := h2 fun A q => by
              rw [hA A, drop_cons hj] at q
              rcases q with q | ⟨q, _⟩
              · exact e q
              · exact q hd.symm
            apply hI
            exact brA (brF rfl hfin) hfin
          · rw [show ((dfn b.1[j] : Int) == (r : Int)) = false from beq_eq_false_iff_ne.2 hd]
            refine ih fun A => ?_
            rw [hA A, drop_cons hj]
            constructor
            · rintro (q | ⟨_, q⟩)
              · exact absurd q e
              · exact q
            · exact fun q => .inr ⟨fun e2 => hd e2.symm, q⟩)
      a hal
    exact key fun A => Iff.rfl
  · apply hI
    refine brDn (by omega) (h3 fun A => ?_)
    rw [List.drop_eq_nil_of_le (by omega)]; rfl
structure Sv (f : FN) (r i0 a0 i a N j : Nat) (to : List Int) (seen : List Bool) (T : LM) : Prop where
  sx : Sx f r i0 a0 (fun u v => u = i ∧ v = a) seen T
  see : ∀ t ∈ to.take j, Tr seen t.toNat
  many : 2 * seen.count false + T.length ≤ N
theorem Sv.step {f : FN} {r i0 a0 i a N j : Nat} {to : List Int} {seen : List Bool} {T : LM} (h : Sv f r i0 a0 i a N j to seen T) (hj : j < to.length) (hs : Tr seen (to[j]).toNat) : Sv f r i0 a0 i a N (j + 1) to seen T := by
  refine ⟨h.sx, fun t ht => ?_, h.many⟩
  rcases (mem_take_succ hj).1 ht with ht | rfl
  · exact h.see t ht
  · exact hs
theorem Sv.push {f : FN} {r i0 a0 i a N j : Nat} {to : List Int} {seen : List Bool} {T : LM} (h : Sv f r i0 a0 i a N j to seen T) (hj : j < to.length) (ht : (to[j]).toNat < (bls f).length) (h0 : r ≠ 0) (hn : ∃ hl : (to[j]).toNat < seen.length, seen[(to[j]).toNat] = false)
    (hX : ∀ t ∈ to, ∀ X, Closed f X → X t.toNat r → Nd f X i0 a0 r) : Sv f r i0 a0 i a N (j + 1) to (seen.set (to[j]).toNat true) (T ++ [It (to[j]).toNat 0]) := by
  obtain ⟨hl, hn⟩ := hn
  refine ⟨h.sx.push ht h0 (hX _ (List.getElem_mem hj)), fun t ht2 => ?_, ?_⟩
  · rw [tr_set hl]
    rcases (mem_take_succ hj).1 ht2 with ht2 | rfl
    · by_cases e : t.toNat = (to[j]).toNat
      · exact .inl ⟨e, rfl⟩
      · exact .inr ⟨e, h.see t ht2⟩
    · exact .inl ⟨rfl, rfl⟩
  · have := count_set_true seen _ hl hn
    have := h.many
    rw [List.length_append, List.length_singleton]; omega
theorem l20r18_ok {f : FN} {r i0 a0 i a N len cap : Nat} {to : List Int} {seen : List Bool} {T row : LM} {k1 : Int → Nat → Nat → Nat → FN → List Bool → LM → Prop} {k2 : Int → FN → List Bool → LM → Prop}
    (hN : N ≤ 100000) (hl : to.length ≤ maxLen) (hto : InR (bls f).length to) (h0 : r ≠ 0) (hX : ∀ t ∈ to, ∀ X, Closed f X → X t.toNat r → Nd f X i0 a0 r) (hs : SlG T len cap row) (h : Sv f r i0 a0 i a N 0 to seen T)
    (hk1 : ∀ seen T len cap row, SlG T len cap row → Sv f r i0 a0 i a N to.length to seen T → k1 (r : Int) 0 len cap f seen row)
    (hk2 : ∀ seen T, Sv f r i0 a0 i a N to.length to seen T → k2 (r : Int) f seen T) : l20r18 k1 k2 (r : Int) 0 len cap to (to.length : Int) 0 f seen row := by
  have hm := hml
  constructor
  intro I1 I2 hI1 hI2
  have key2 := upInd (N := to.length) (M := fun j => ∀ seen T, Sv f r i0 a0 i a N j to seen T → I2 (r : Int) to (to.length : Int) (j : Int) f seen T)
    (by
      intro seen T h
      apply hI2
      exact brDn (by omega) (hk2 seen T h))
    (by
      intro j hj ih seen T h
      apply hI2
      have hrj := hto _ (List.getElem_mem hj)
      have hsl := h.sx.len
      have hlt : (to[j]).toNat < seen.length := by omega
      have hmany := h.many
      rw [wrapS (by omega)]
      refine brD (by omega) (needAt hj (brD (by omega) (needNth hlt ?_)))
      refine brB (fun e => brD (by omega) (needNth hlt (brT (roomS (by omega)) ?_))) fun e => ih seen T (h.step hj ?_)
      · have e2 : [to[j], 0] = It (to[j]).toNat 0 := by
          show [to[j], (0 : Int)] = [(((to[j]).toNat : Nat) : Int), ((0 : Nat) : Int)]
          rw [Int.toNat_of_nonneg hrj.1]; rfl
        rw [e2]
        exact ih _ _ (h.push hj (by omega) h0 ⟨hlt, by simpa using e⟩ hX)
      · unfold Tr
        rw [List.getElem?_eq_getElem hlt]
        exact congrArg some (by simpa using e))
  have key1 := upInd (N := to.length) (M := fun j => ∀ seen T len cap row, SlG T len cap row → Sv f r i0 a0 i a N j to seen T → I1 (r : Int) 0 len cap to (to.length : Int) (j : Int) f seen row)
    (by
      intro seen T len cap row hs h
      apply hI1
      exact brDn (by omega) (hk1 seen T len cap row hs h))
    (by
      intro j hj ih seen T len cap row hs h
      apply hI1
      have hrj := hto _ (List.getElem_mem hj)
      have hsl := h.sx.len
      have hlt : (to[j]).toNat < seen.length := by omega
      have hmany := h.many
      obtain ⟨g1, g2, g3, g4⟩ := hs
      have e2 : [to[j], 0] = It (to[j]).toNat 0 := by
        show [to[j], (0 : Int)] = [(((to[j]).toNat : Nat) : Int), ((0 : Nat) : Int)]
        rw [Int.toNat_of_nonneg hrj.1]; rfl
      rw [wrapS (by omega)]
      refine brD (by omega) (needAt hj (brD (by omega) (needNth hlt ?_)))
      refine brB (fun e => brD (by omega) (needNth hlt ?_)) fun e => ih seen T len cap row ⟨g1, g2, g3, g4⟩ (h.step hj ?_)
      · have hp := h.push hj (by omega) h0 ⟨hlt, by simpa using e⟩ hX
        rw [e2]
        refine brP (fun hc => ?_) fun hc => brT (roomS (by omega)) (brD rfl ?_)
        · refine ih _ _ _ _ _ ⟨?_, ?_, hc, ?_⟩ hp
          · simp; omega
          · simp; exact g2
          · rw [Nat.zero_add, List.append_assoc, List.take_append]
            simp only [List.length_take, List.take_take]
            rw [Nat.min_eq_left (by omega : len ≤ row.length), show min (len + 1) len = len by omega, g4, show len + 1 - len = 1 by omega]
            simp
        · rw [g4]
          exact key2 (j + 1) (by omega) _ _ hp
      · unfold Tr
        rw [List.getElem?_eq_getElem hlt]
        exact congrArg some (by simpa using e))
  exact key1 0 (Nat.zero_le _) seen T len cap row hs h
theorem mem_ends {b : BL} {r : Nat} (h0 : r ≠ 0) : (r : Int) ∈ ends b ↔ b.2.1.2.2.1 = (r : Int) ∨ b.2.1.2.2.2.1 = (r : Int) := by
  unfold ends nz
  rw [List.mem_filter]
  simp only [List.mem_cons, List.not_mem_nil, or_false]
  constructor
  · rintro ⟨e | e, _⟩
    · exact .inl e.symm
    · exact .inr e.symm
  · intro e
    refine ⟨e.imp Eq.symm Eq.symm, ?_⟩
    simpa using h0
theorem srch_round {f : FN} {n : Nat} (hf : FOk f n) {r i0 a0 i a N len cap : Nat} {seen : List Bool} {T row : LM} (hN : N ≤ 100000) (h0 : r ≠ 0) (hs : SlG T len cap row) (hm : 2 * seen.count false + T.length ≤ N) (h : Se f r i0 a0 seen (T ++ [It i a]))
    {k : Bool → Prop} {I1 : Int → FN → List Bool → LM → Prop} {I2 : Int → Nat → Nat → Nat → FN → List Bool → LM → Prop}
    (hT : (∀ X, Closed f X → Nd f X i0 a0 r) → k true)
    (hI2 : ∀ seen T len cap row, SlG T len cap row → Se f r i0 a0 seen T → 2 * seen.count false + T.length ≤ N → I2 (r : Int) 0 len cap f seen row)
    (hI1 : ∀ seen T, Se f r i0 a0 seen T → 2 * seen.count false + T.length ≤ N → I1 (r : Int) f seen T)
    {b : BL} (hbi : (bls f)[i]? = some b) :
    l20r9
           (fun z9 => k z9)
           (fun z10 z11 z12 z13 z14 z15 z16 z17 z18 => br (z14)
            (I2 z10 z11 z12 z13 z15 z16 z17)
            (br ((z18.2.1.2.2.1 : Int) == z10)
             (k true)
             (br ((z18.2.1.2.2.2.1 : Int) == z10)
              (k true)
              (l20r18
               (fun z19 z20 z21 z22 z23 z24 z25 => I2 z19 z20 z21 z22 z23 z24 z25)
               (fun z26 z27 z28 z29 => I1 z26 z27 z28 z29)
               z10 z11 z12 z13 z18.2.1.2.2.2.2.2.1 (((List.length z18.2.1.2.2.2.2.2.1) : Nat) : Int) 0 z15 z16 z17))))
           (r : Int) 0 len cap false (a : Int) f seen row b := by
  obtain ⟨hx, hi, ha, hsnd⟩ := h.pop
  have hbm : b ∈ bls f := List.mem_of_getElem? hbi
  obtain ⟨hb1, hb2⟩ := hf.ins b hbm
  obtain ⟨he1, he2, he3⟩ := hf.ends b hbm
  refine l20r9_ok hb1 (by rw [hml]; omega) (fun x hx => (hb2 x hx).1) (fun hA => hT fun X hX => hsnd X hX ⟨b, hbi, hA _⟩) (fun hA => brT rfl (hI2 _ _ _ _ _ hs (hx.done ?_) hm)) fun hA => brF rfl ?_
  · rintro ⟨b', e1, e2⟩
    rw [hbi] at e1
    rw [← Option.some.inj e1] at e2
    exact hA _ e2
  · have hend : (r : Int) ∈ ends b → k true := fun e => hT fun X hX => hsnd X hX ⟨b, hbi, (hA _).2 (.inr e)⟩
    refine brE (fun e => hend ((mem_ends h0).2 (.inl e))) fun n1 => brE (fun e => hend ((mem_ends h0).2 (.inr e))) fun n2 => ?_
    have hne : ¬ (r : Int) ∈ ends b := fun e => ((mem_ends h0).1 e).elim n1 n2
    have hfin : ∀ seen T, Sv f r i0 a0 i a N (tos b).length (tos b) seen T → Se f r i0 a0 seen T := fun seen T hv => hv.sx.done (by
      rintro ⟨b', e1, e2⟩
      rw [hbi] at e1
      rw [← Option.some.inj e1] at e2
      rcases (hA _).1 e2 with ⟨t, ht, e⟩ | e
      · exact e ⟨rfl, hv.see t (by rw [List.take_length]; exact ht)⟩
      · exact hne e)
    refine l20r18_ok (to := tos b) hN he3 he2 h0 (fun t ht X hX hx => hsnd X hX ⟨b, hbi, (hA _).2 (.inl ⟨t, ht, hx⟩)⟩) hs ⟨hx, fun t ht => by simp at ht, hm⟩ (fun seen T len cap row hs hv => hI2 _ _ _ _ _ hs (hfin _ _ hv) hv.many) fun seen T hv => hI1 _ _ (hfin _ _ hv) hv.many
theorem l20r3_ok {f : FN} {n : Nat} (hf : FOk f n) {r i0 a0 N : Nat} {seen : List Bool} {T : LM} {k1 : Bool → Prop} {k2 : Prop} (hN : N ≤ 100000) (h0 : r ≠ 0)
    (h : Se f r i0 a0 seen T) (hm : 2 * seen.count false + T.length ≤ N)
    (hT : (∀ X, Closed f X → Nd f X i0 a0 r) → k1 true)
    (hF : (∃ X, Closed f X ∧ ¬ Nd f X i0 a0 r) → k2) : l20r3 k1 k2 (r : Int) f seen T := by
  constructor
  intro I1 I2 hI1 hI2
  have key : ∀ N, N ≤ 100000 → (∀ seen T, Se f r i0 a0 seen T → 2 * seen.count false + T.length ≤ N → I1 (r : Int) f seen T) ∧
      (∀ seen T len cap row, SlG T len cap row → Se f r i0 a0 seen T → 2 * seen.count false + T.length ≤ N → I2 (r : Int) 0 len cap f seen row) := by
    intro N
    induction N with
    | zero =>
      intro _
      refine ⟨fun seen T h hm => ?_, fun seen T len cap row hs h hm => ?_⟩
      · have hT0 : T = [] := List.eq_nil_of_length_eq_zero (by omega)
        subst hT0
        exact hI1 _ _ _ _ (brDn (by simp) (hF h.fin))
      · have hT0 : T = [] := List.eq_nil_of_length_eq_zero (by omega)
        subst hT0
        obtain ⟨g1, g2, g3, g4⟩ := hs
        simp at g2
        subst g2
        exact hI2 _ _ _ _ _ _ _ (brDn (by simp) (hF h.fin))
    | succ N ih =>
      intro hN
      obtain ⟨ih1, ih2⟩ := ih (by omega)
      have split : ∀ T : LM, T ≠ [] → ∀ seen, Se f r i0 a0 seen T → ∃ T' i a, T = T' ++ [It i a] ∧ i < (bls f).length ∧ a < 9223372036854775807 := by
        intro T hT seen h
        obtain ⟨i, a, e, h1, h2⟩ := h.ok (T.getLast hT) (List.getLast_mem hT)
        exact ⟨T.dropLast, i, a, by rw [← e]; exact (List.dropLast_concat_getLast hT).symm, h1, h2⟩
      refine ⟨fun seen T h hm => ?_, fun seen T len cap row hs h hm => ?_⟩
      · apply hI1
        by_cases hT0 : T = []
        · subst hT0
          exact brDn (by simp) (hF h.fin)
        · obtain ⟨T', i, a, rfl, hi, ha⟩ := split T hT0 seen h
          have hl : (T' ++ [It i a]).length = T'.length + 1 := by simp
          rw [hl] at hm ⊢
          have hw : IntKind.wrap .i64 (((T'.length + 1 : Nat) : Int) - 1) = (T'.length : Int) := by rw [wrap64 (by omega) (by omega)]; omega
          rw [hw, Int.toNat_natCast]
          refine brD (by omega) (brD (by omega) (needNth (by simp) (brD (by omega) ?_)))
          have hg : (T' ++ [It i a])[T'.length]'(by simp) = It i a := by simp
          rw [hg]
          refine needNth (i := 0) (by simp) (needAt (xs := bls f) hi (needNth (i := 1) (by simp) ?_))
          refine srch_round hf (T := T') (by omega) h0 (i := i) (a := a) (N := N) ⟨?_, ?_, ?_, ?_⟩ (by omega) h hT ih2 ih1 (List.getElem?_eq_getElem hi)
          · rw [hl]; omega
          · omega
          · omega
          · rw [Int.sub_zero, Int.toNat_natCast]; simp
      · apply hI2
        obtain ⟨g1, g2, g3, g4⟩ := hs
        by_cases hT0 : T = []
        · subst hT0
          simp at g2
          subst g2
          exact brDn (by simp) (hF h.fin)
        · obtain ⟨T', i, a, rfl, hi, ha⟩ := split T hT0 seen h
          have hl : (T' ++ [It i a]).length = T'.length + 1 := by simp
          rw [hl] at hm g2
          subst g2
          have hw : IntKind.wrap .i64 (((T'.length + 1 : Nat) : Int) - 1) = (T'.length : Int) := by rw [wrap64 (by omega) (by omega)]; omega
          rw [hw, Int.toNat_natCast, Nat.zero_add]
          obtain ⟨q1, q2⟩ := slG_get (T := T' ++ [It i a]) (i := T'.length) ⟨g1, hl, g3, g4⟩ (by simp)
          refine brD (by omega) (brD (by omega) (needNth q1 (brD (by omega) ?_)))
          have hg : row[T'.length] = It i a := by rw [q2]; simp
          rw [hg]
          refine needNth (i := 0) (by simp) (needAt (xs := bls f) hi (needNth (i := 1) (by simp) ?_))
          refine srch_round hf (T := T') (by omega) h0 (i := i) (a := a) (N := N) ⟨?_, ?_, ?_, ?_⟩ (by omega) h hT ih2 ih1 (List.getElem?_eq_getElem hi)
          · omega
          · omega
          · omega
          · rw [Int.sub_zero, Int.toNat_natCast]
            have e1 : (row.take (T'.length + 1)).take T'.length = row.take T'.length := by rw [List.take_take]; simp
            rw [← e1, g4]; simp
  exact (key N hN).1 seen T h hm
theorem c20_ok {f : FN} {n : Nat} (hf : FOk f n) {r i a : Nat} {k : Bool → Prop} (h0 : r ≠ 0) (hi : i < (bls f).length) (ha : a < 9223372036854775807)
    (hT : (∀ X, Closed f X → Nd f X i a r) → k true)
    (hF : (∃ X, Closed f X ∧ ¬ Nd f X i a r) → k false) : c20 f (i : Int) (a : Int) (r : Int) k := by
  have hb := hf.ble
  have hb2 : f.2.2.2.1.length ≤ 4096 := hb
  constructor
  rw [Int.toNat_natCast]
  refine brD (by omega) (l20r3_ok hf (N := 2 * f.2.2.2.1.length + 1) (i0 := i) (a0 := a) (by omega) h0 ?_ (by simp) hT hF)
  have hno : ∀ j, ¬ Tr (List.replicate f.2.2.2.1.length false) j := fun j q => by
    unfold Tr at q
    rw [List.getElem?_replicate] at q
    split at q <;> simp at q
  refine ⟨by simp [bls], fun p hp => ⟨i, a, List.mem_singleton.1 hp, hi, ha⟩, fun j b hp X _ hx => ?_, fun j hj => absurd hj (hno j), .inl (by simp)⟩
  obtain ⟨rfl, rfl⟩ := It_inj (List.mem_singleton.1 hp)
  exact hx
abbrev Sh5 := Bool × Bool × Bool × Bool × Bool × Unit
def shp (op : Int) : Option Sh5 :=
  if op = 1 ∨ op = 2 ∨ op = 3 ∨ op = 4 ∨ op = 5 ∨ op = 6 ∨ op = 7 ∨ op = 15 then some (true, true, true, false, false, ())
  else if op = 8 ∨ op = 9 ∨ op = 10 ∨ op = 12 then some (true, true, false, true, false, ())
  else if op = 11 ∨ op = 103 then some (true, false, false, true, false, ())
  else if op = 13 then some (false, true, true, true, false, ())
  else if op = 14 then some (true, false, true, true, false, ())
  else if op = 23 then some (false, true, false, false, false, ())
  else if op = 100 then some (true, true, false, false, false, ())
  else if op = 101 then some (true, false, false, true, true, ())
  else if op = 102 then some (true, true, false, false, true, ())
  else none
def args (x : VI) : List Int := x.2.2.2.2.2.1
def fbad (x : VI) (s : Sh5) : Prop := (s.1 = false ∧ x.2.1 ≠ 0) ∨ (s.2.1 = false ∧ x.2.2.1 ≠ 0) ∨ (s.2.2.1 = false ∧ x.2.2.2.1 ≠ 0) ∨ (s.2.2.2.1 = false ∧ x.2.2.2.2.1 ≠ 0) ∨ (s.2.2.2.2.1 = false ∧ args x ≠ [])
def low (op : Int) : Int := if op = 101 ∨ op = 103 ∨ op = 9 ∨ op = 10 ∨ op = 14 then 0 else -2147483648
def high (op : Int) : Int := if op = 101 ∨ op = 103 then 255 else if op = 9 ∨ op = 10 then 31 else if op = 14 then 4095 else 2147483647
def rbad (x : VI) : Prop := 6 < (args x).length ∨ x.2.2.2.2.1 < low x.1 ∨ high x.1 < x.2.2.2.2.1
def nbad (x : VI) (n : Int) : Prop := ∃ r ∈ [x.2.1, x.2.2.1, x.2.2.2.1] ++ args x, r < 0 ∨ n ≤ r
structure Ins (x : VI) (n : Int) (k : Int → Prop) : Prop where
  h1 : shp x.1 = none → k 1
  h3 : ∀ s, shp x.1 = some s → fbad x s → k 3
  h4 : ∀ s, shp x.1 = some s → ¬ fbad x s → rbad x → k 4
  h6 : ∀ s, shp x.1 = some s → ¬ fbad x s → ¬ rbad x → nbad x n → k 6
  h0 : ∀ s, shp x.1 = some s → ¬ fbad x s → ¬ rbad x → ¬ nbad x n → k 0
theorem c46_ok {op : Int} {k : Sh5 → Bool → Prop} (h1 : shp op = none → k (false, false, false, false, false, ()) false) (h2 : ∀ s, shp op = some s → k s true) : c46 op k := by
  constructor
  repeat' (first | refine brE (fun e => ?_) (fun e => ?_))
  all_goals first
    | (refine h2 _ ?_; subst op; rfl)
    | (refine h1 ?_; unfold shp; rw [if_neg (by omega), if_neg (by omega), if_neg (by omega), if_neg (by omega), if_neg (by omega), if_neg (by omega), if_neg (by omega), if_neg (by omega), if_neg (by omega)])
theorem l28r9_ok {n : Int} {l : List Int} {k1 : Int → Prop} {k2 : Prop} (hl : l.length ≤ 1000) (hn : -9223372036854775807 ≤ n ∧ n ≤ 9223372036854775807) (h1 : (∃ r ∈ l, r < 0 ∨ n ≤ r) → k1 6) (h2 : (¬ ∃ r ∈ l, r < 0 ∨ n ≤ r) → k2) : l28r9 k1 k2 n (l.length : Int) 0 l := by
  constructor
  intro I hI
  refine allInd (N := l.length) (p := fun i => ∀ h : i < l.length, ¬ (l[i] < 0 ∨ n ≤ l[i])) (M := fun i => I n (l.length : Int) (i : Int) l) (fun h => hI _ _ _ _ (brDn (by omega) (h2 ?_))) fun i hi hlt ih => hI _ _ _ _ ?_
  · rintro ⟨r, hr, hb⟩
    obtain ⟨i, hi, rfl⟩ := List.mem_iff_getElem.1 hr
    exact h i hi hi hb
  · rw [wrapS (by omega), Int.toNat_natCast, show IntKind.wrap .i64 (n - 1) = n - 1 from wrap64 (by omega) (by omega)]
    refine brD (by omega) (brD (by omega) (needNth hi (c26_ok ?_)))
    by_cases hb : 0 ≤ l[i] ∧ l[i] ≤ n - 1
    · rw [decide_eq_true hb]; exact brF rfl (ih fun _ => by omega)
    · rw [decide_eq_false hb]; exact brT rfl (h1 ⟨l[i], List.getElem_mem hi, by omega⟩)
theorem j28r8_ok {x : VI} {n : Int} {k : Int → Prop} (hn : -9223372036854775807 ≤ n ∧ n ≤ 9223372036854775807) (hl : (args x).length ≤ 6) (h1 : nbad x n → k 6) (h2 : ¬ nbad x n → k 0) : j28r8 k n x := by
  unfold args at hl
  constructor
  refine brB (fun e => ?_) fun e => brT (roomS (by omega)) ?_
  · have e : x.2.2.2.2.2.1 = [] := List.isEmpty_iff.1 e
    exact l28r9_ok (l := [x.2.1, x.2.2.1, x.2.2.2.1]) (by simp) hn (fun h => h1 (by unfold nbad args; rw [e, List.append_nil]; exact h)) fun h => h2 (by unfold nbad args; rw [e, List.append_nil]; exact h)
  · exact l28r9_ok (l := [x.2.1, x.2.2.1, x.2.2.2.1] ++ x.2.2.2.2.2.1) (by simp; omega) hn h1 h2
theorem rng_ok {x : VI} {a b : Int} {J : Bool → Prop} {K : Prop} (hb : ¬ (a ≤ x.2.2.2.2.1 ∧ x.2.2.2.2.1 ≤ b) → J true) (hk : a ≤ x.2.2.2.2.1 → x.2.2.2.2.1 ≤ b → K) : c26 x.2.2.2.2.1 a b (fun z => br (!z) (J true) K) := by
  refine c26_ok ?_
  by_cases h : a ≤ x.2.2.2.2.1 ∧ x.2.2.2.2.1 ≤ b
  · rw [decide_eq_true h]; exact brF rfl (hk h.1 h.2)
  · rw [decide_eq_false h]; exact brT rfl (hb h)
theorem rng_ok2 {x : VI} {a b : Int} {J : Bool → Prop} (hb : ¬ (a ≤ x.2.2.2.2.1 ∧ x.2.2.2.2.1 ≤ b) → J true) (hk : a ≤ x.2.2.2.2.1 → x.2.2.2.2.1 ≤ b → J false) : c26 x.2.2.2.2.1 a b (fun z => J (!z)) := by
  refine c26_ok ?_
  by_cases h : a ≤ x.2.2.2.2.1 ∧ x.2.2.2.2.1 ≤ b
  · rw [decide_eq_true h]; exact hk h.1 h.2
  · rw [decide_eq_false h]; exact hb h
theorem j28r6_ok {x : VI} {n : Int} {k : Int → Prop} (hn : -9223372036854775807 ≤ n ∧ n ≤ 9223372036854775807) (h4 : rbad x → k 4) (h6 : ¬ rbad x → nbad x n → k 6) (h0 : ¬ rbad x → ¬ nbad x n → k 0) : j28r6 k n x := by
  have hT : rbad x → j28s6 (fun z3 => k z3) (fun z4 z5 => j28r8 (fun z6 => k z6) z4 z5) n true x := fun h => ⟨brT rfl (h4 h)⟩
  have hF : ¬ rbad x → j28s6 (fun z3 => k z3) (fun z4 z5 => j28r8 (fun z6 => k z6) z4 z5) n false x := fun h => ⟨brF rfl (j28r8_ok hn (by unfold rbad at h; omega) (h6 h) (h0 h))⟩
  constructor
  generalize hJ : (fun b => j28s6 (fun z3 => k z3) (fun z4 z5 => j28r8 (fun z6 => k z6) z4 z5) n b x) = J
  have hT' : rbad x → J true := by rw [← hJ]; exact hT
  have hF' : ¬ rbad x → J false := by rw [← hJ]; exact hF
  have key : ∀ (P : (Bool → Prop) → Prop), P J → P (fun b => j28s6 (fun z3 => k z3) (fun z4 z5 => j28r8 (fun z6 => k z6) z4 z5) n b x) := fun P h => by rw [hJ]; exact h
  refine key (fun J => br (decide (((((List.length x.2.2.2.2.2.1) : Nat) : Int) : Int) > 6)) (J true)
    (c26 x.2.2.2.2.1 (-2147483648) 2147483647 (fun z7 => br (!z7) (J true) (br ((x.1 : Int) == 101)
      (c26 x.2.2.2.2.1 0 255 (fun z12 => br (!z12) (J true) (br ((x.1 : Int) == 9) (c26 x.2.2.2.2.1 0 31 (fun z17 => br (!z17) (J true) (br ((x.1 : Int) == 14) (c26 x.2.2.2.2.1 0 4095 (fun z22 => J (!z22))) (J false))))
        (br ((x.1 : Int) == 10) (c26 x.2.2.2.2.1 0 31 (fun z17 => br (!z17) (J true) (br ((x.1 : Int) == 14) (c26 x.2.2.2.2.1 0 4095 (fun z22 => J (!z22))) (J false)))) (br ((x.1 : Int) == 14) (c26 x.2.2.2.2.1 0 4095 (fun z22 => J (!z22))) (J false))))))
      (br ((x.1 : Int) == 103)
        (c26 x.2.2.2.2.1 0 255 (fun z12 => br (!z12) (J true) (br ((x.1 : Int) == 9) (c26 x.2.2.2.2.1 0 31 (fun z17 => br (!z17) (J true) (br ((x.1 : Int) == 14) (c26 x.2.2.2.2.1 0 4095 (fun z22 => J (!z22))) (J false))))
          (br ((x.1 : Int) == 10) (c26 x.2.2.2.2.1 0 31 (fun z17 => br (!z17) (J true) (br ((x.1 : Int) == 14) (c26 x.2.2.2.2.1 0 4095 (fun z22 => J (!z22))) (J false)))) (br ((x.1 : Int) == 14) (c26 x.2.2.2.2.1 0 4095 (fun z22 => J (!z22))) (J false))))))
        (br ((x.1 : Int) == 9) (c26 x.2.2.2.2.1 0 31 (fun z17 => br (!z17) (J true) (br ((x.1 : Int) == 14) (c26 x.2.2.2.2.1 0 4095 (fun z22 => J (!z22))) (J false))))
          (br ((x.1 : Int) == 10) (c26 x.2.2.2.2.1 0 31 (fun z17 => br (!z17) (J true) (br ((x.1 : Int) == 14) (c26 x.2.2.2.2.1 0 4095 (fun z22 => J (!z22))) (J false)))) (br ((x.1 : Int) == 14) (c26 x.2.2.2.2.1 0 4095 (fun z22 => J (!z22))) (J false)))))))))
    ?_
  clear key hT hF hJ
  have hL : rbad x ↔ 6 < x.2.2.2.2.2.1.length ∨ x.2.2.2.2.1 < low x.1 ∨ high x.1 < x.2.2.2.2.1 := Iff.rfl
  have hlow : low x.1 = if x.1 = 101 ∨ x.1 = 103 ∨ x.1 = 9 ∨ x.1 = 10 ∨ x.1 = 14 then 0 else -2147483648 := rfl
  have hhigh : high x.1 = if x.1 = 101 ∨ x.1 = 103 then 255 else if x.1 = 9 ∨ x.1 = 10 then 31 else if x.1 = 14 then 4095 else 2147483647 := rfl
  have hlo : -2147483648 ≤ low x.1 := by rw [hlow]; split <;> omega
  have hhi : high x.1 ≤ 2147483647 := by rw [hhigh]; repeat' split
                                         all_goals omega
  refine brP (fun h => hT' (hL.2 (by omega))) fun hlen => rng_ok (J := J) (fun h => hT' (hL.2 (by omega))) fun b1 b2 => ?_
  have e14 : x.1 ≠ 9 → x.1 ≠ 10 → x.1 ≠ 101 → x.1 ≠ 103 → br ((x.1 : Int) == 14) (c26 x.2.2.2.2.1 0 4095 (fun z22 => J (!z22))) (J false) := fun n1 n2 n3 n4 => by
    refine brE (fun e => ?_) fun n5 => hF' (fun h => ?_)
    · rw [if_pos (by omega)] at hlow
      rw [if_neg (by omega), if_neg (by omega), if_pos e] at hhigh
      exact rng_ok2 (J := J) (fun h => hT' (hL.2 (by omega))) fun c1 c2 => hF' (fun h => by have := hL.1 h; omega)
    · rw [if_neg (by omega)] at hlow
      rw [if_neg (by omega), if_neg (by omega), if_neg (by omega)] at hhigh
      have := hL.1 h; omega
  refine brE (fun e1 => ?_) fun n1 => brE (fun e2 => ?_) fun n2 => brE (fun e3 => ?_) fun n3 => brE (fun e4 => ?_) fun n4 => e14 n3 n4 n1 n2
  · rw [if_pos (by omega)] at hlow
    rw [if_pos (by omega)] at hhigh
    refine rng_ok (J := J) (fun h => hT' (hL.2 (by omega))) fun c1 c2 => brE (fun e => by omega) fun _ => brE (fun e => by omega) fun _ => brE (fun e => by omega) fun _ => hF' (fun h => by have := hL.1 h; omega)
  · rw [if_pos (by omega)] at hlow
    rw [if_pos (by omega)] at hhigh
    refine rng_ok (J := J) (fun h => hT' (hL.2 (by omega))) fun c1 c2 => brE (fun e => by omega) fun _ => brE (fun e => by omega) fun _ => brE (fun e => by omega) fun _ => hF' (fun h => by have := hL.1 h; omega)
  · rw [if_pos (by omega)] at hlow
    rw [if_neg (by omega), if_pos (by omega)] at hhigh
    refine rng_ok (J := J) (fun h => hT' (hL.2 (by omega))) fun c1 c2 => brE (fun e => by omega) fun _ => hF' (fun h => by have := hL.1 h; omega)
  · rw [if_pos (by omega)] at hlow
    rw [if_neg (by omega), if_pos (by omega)] at hhigh
    refine rng_ok (J := J) (fun h => hT' (hL.2 (by omega))) fun c1 c2 => brE (fun e => by omega) fun _ => hF' (fun h => by have := hL.1 h; omega)
theorem c28_ok {x : VI} {n : Int} {k : Int → Prop} (hn : -9223372036854775807 ≤ n ∧ n ≤ 9223372036854775807) (h : Ins x n k) : c28 x n k := by
  constructor
  refine c46_ok (fun e => brT rfl (h.h1 e)) fun s hs => brF rfl ?_
  have hT : fbad x s → j28s4 (fun z5 => k z5) (fun z6 z7 => j28r6 (fun z8 => k z8) z6 z7) n true x := fun e => ⟨brT rfl (h.h3 s hs e)⟩
  have hF : ¬ fbad x s → j28s4 (fun z5 => k z5) (fun z6 z7 => j28r6 (fun z8 => k z8) z6 z7) n false x := fun e => ⟨brF rfl (j28r6_ok hn (h.h4 s hs e) (h.h6 s hs e) (h.h0 s hs e))⟩
  have hJ : ¬ (s.1 = false ∧ x.2.1 ≠ 0) → ¬ (s.2.1 = false ∧ x.2.2.1 ≠ 0) → ¬ (s.2.2.1 = false ∧ x.2.2.2.1 ≠ 0) → ¬ (s.2.2.2.1 = false ∧ x.2.2.2.2.1 ≠ 0) → s.2.2.2.2.1 = false →
      j28s4 (fun z5 => k z5) (fun z6 z7 => j28r6 (fun z8 => k z8) z6 z7) n (decide (((((List.length x.2.2.2.2.2.1) : Nat) : Int) : Int) > 0)) x := by
    intro q1 q2 q3 q4 q5
    by_cases hl : x.2.2.2.2.2.1 = []
    · rw [decide_eq_false (by rw [hl]; simp)]
      exact hF fun e => e.elim q1 fun e => e.elim q2 fun e => e.elim q3 fun e => e.elim q4 fun e => e.2 hl
    · rw [decide_eq_true (by have := List.length_pos_iff.2 hl; omega)]
      exact hT (.inr (.inr (.inr (.inr ⟨q5, hl⟩))))
  obtain ⟨d, a, b, m, l, ⟨⟩⟩ := s
  clear h hs
  unfold fbad at hT hF
  dsimp only at hT hF hJ ⊢
  cases d <;> cases a <;> cases b <;> cases m <;> cases l <;> (repeat' (first | refine brT (b := !false) rfl ?_ | refine brF (b := !true) rfl ?_ | refine brN (fun e => hT ?_) (fun e => ?_))) <;> first
    | (refine hJ ?_ ?_ ?_ ?_ rfl <;> simp [*]; done)
    | (refine hF ?_; simp [*]; done)
    | (simp [*]; done)
def str (s : Sh5) : List UInt8 := (if s.1 then [68] else []) ++ (if s.2.1 then [65] else []) ++ (if s.2.2.1 then [66] else []) ++ (if s.2.2.2.1 then [78] else []) ++ (if s.2.2.2.2.1 then [76] else [])
theorem c54_ok {k : List (List UInt8) → Prop} (h : k [[], [(68 : UInt8), (65 : UInt8), (66 : UInt8)], [(68 : UInt8), (65 : UInt8), (66 : UInt8)], [(68 : UInt8), (65 : UInt8), (66 : UInt8)], [(68 : UInt8), (65 : UInt8), (66 : UInt8)], [(68 : UInt8), (65 : UInt8), (66 : UInt8)], [(68 : UInt8), (65 : UInt8), (66 : UInt8)], [(68 : UInt8), (65 : UInt8), (66 : UInt8)], [(68 : UInt8), (65 : UInt8), (78 : UInt8)], [(68 : UInt8), (65 : UInt8), (78 : UInt8)], [(68 : UInt8), (65 : UInt8), (78 : UInt8)], [(68 : UInt8), (78 : UInt8)], [(68 : UInt8), (65 : UInt8), (78 : UInt8)], [(65 : UInt8), (66 : UInt8), (78 : UInt8)], [(68 : UInt8), (66 : UInt8), (78 : UInt8)], [(68 : UInt8), (65 : UInt8), (66 : UInt8)], [(65 : UInt8), (66 : UInt8), (78 : UInt8)], [(65 : UInt8), (66 : UInt8), (78 : UInt8)], [(65 : UInt8), (66 : UInt8), (78 : UInt8)], [(78 : UInt8)], [(78 : UInt8)], [(65 : UInt8)], [], [(65 : UInt8)], [(78 : UInt8)]]) : c54 k := ⟨h⟩
theorem c42_ok {op : Int} {k : List UInt8 → Prop} (h1 : shp op = none → k [45]) (h2 : ∀ s, shp op = some s → k (str s)) : c42 op k := by
  constructor
  refine brE (fun e => ?_) fun n1 => brE (fun e => ?_) fun n2 => brE (fun e => ?_) fun n3 => brE (fun e => ?_) fun n4 => brE (fun e => ?_) fun n5 => brP (fun q1 => brP (fun q2 => ?_) fun q2 => ?_) fun q1 => ?_
  · subst e; exact h2 _ rfl
  · subst e; exact h2 _ rfl
  · subst e; exact h2 _ rfl
  · subst e; exact h2 _ rfl
  · subst e; exact h2 _ rfl
  · refine c54_ok (brD ⟨by omega, by simp; omega⟩ ?_)
    have : op = 1 ∨ op = 2 ∨ op = 3 ∨ op = 4 ∨ op = 5 ∨ op = 6 ∨ op = 7 ∨ op = 8 ∨ op = 9 ∨ op = 10 ∨ op = 11 ∨ op = 12 ∨ op = 13 ∨ op = 14 ∨ op = 15 := by omega
    rcases this with rfl | rfl | rfl | rfl | rfl | rfl | rfl | rfl | rfl | rfl | rfl | rfl | rfl | rfl | rfl <;> exact h2 _ rfl
  · refine h1 ?_
    unfold shp
    rw [if_neg (by omega), if_neg (by omega), if_neg (by omega), if_neg (by omega), if_neg (by omega), if_neg (by omega), if_neg (by omega), if_neg (by omega), if_neg (by omega)]
  · refine h1 ?_
    unfold shp
    rw [if_neg (by omega), if_neg (by omega), if_neg (by omega), if_neg (by omega), if_neg (by omega), if_neg (by omega), if_neg (by omega), if_neg (by omega), if_neg (by omega)]
theorem c43_ok {s : List UInt8} {c : Nat} {k : Bool → Prop} (hl : s.length ≤ 1000) (h1 : (∃ b ∈ s, b.toNat = c) → k true) (h2 : (¬ ∃ b ∈ s, b.toNat = c) → k false) : c43 s (c : Int) k := by
  constructor
  constructor
  intro I hI
  refine allInd (N := s.length) (p := fun i => ∀ h : i < s.length, s[i].toNat ≠ c) (M := fun i => I s (c : Int) (s.length : Int) (i : Int)) (fun h => hI _ _ _ _ (brDn (by omega) (h2 ?_))) fun i hi hlt ih => hI _ _ _ _ ?_
  · rintro ⟨b, hb, e⟩
    obtain ⟨i, hi, rfl⟩ := List.mem_iff_getElem.1 hb
    exact h i hi hi e
  · rw [wrapS (by omega)]
    exact brD (by omega) (needAt hi (brE (fun e => h1 ⟨s[i], List.getElem_mem hi, by exact_mod_cast e⟩) fun e => ih fun _ e2 => e (by exact_mod_cast e2)))
theorem l18r5_ok {x : VI} {n : Int} {s : Sh5} {k1 : Int → Prop} {k2 : Int → VI → Prop} (hl : (args x).length ≤ maxLen) (h3 : fbad x s → k1 3) (h : ¬ fbad x s → k2 n x) :
    l18r5 k1 k2 n (str s) ((5 : Nat) : Int) 0 x [x.2.1, x.2.2.1, x.2.2.2.1, x.2.2.2.2.1, (((List.length x.2.2.2.2.2.1) : Nat) : Int)] := by
  have hm := hml
  constructor
  intro I hI
  have hs : (str s).length ≤ 1000 := by
    unfold str
    simp only [List.length_append]
    repeat' split
    all_goals simp
  generalize hV : [x.2.1, x.2.2.1, x.2.2.2.1, x.2.2.2.2.1, (((List.length x.2.2.2.2.2.1) : Nat) : Int)] = V
  have hVl : V.length = 5 := by rw [← hV]; rfl
  have hbad : fbad x s ↔ ∃ i, ∃ h : i < 5, V[i] ≠ 0 ∧ ¬ ∃ b ∈ str s, b.toNat = ([68, 65, 66, 78, 76] : List Nat)[i] := by
    have e0 : (∃ b ∈ str s, b.toNat = 68) ↔ s.1 = true := by obtain ⟨d, a, b, m, l, ⟨⟩⟩ := s; cases d <;> cases a <;> cases b <;> cases m <;> cases l <;> decide
    have e1 : (∃ b ∈ str s, b.toNat = 65) ↔ s.2.1 = true := by obtain ⟨d, a, b, m, l, ⟨⟩⟩ := s; cases d <;> cases a <;> cases b <;> cases m <;> cases l <;> decide
    have e2 : (∃ b ∈ str s, b.toNat = 66) ↔ s.2.2.1 = true := by obtain ⟨d, a, b, m, l, ⟨⟩⟩ := s; cases d <;> cases a <;> cases b <;> cases m <;> cases l <;> decide
    have e3 : (∃ b ∈ str s, b.toNat = 78) ↔ s.2.2.2.1 = true := by obtain ⟨d, a, b, m, l, ⟨⟩⟩ := s; cases d <;> cases a <;> cases b <;> cases m <;> cases l <;> decide
    have e4 : (∃ b ∈ str s, b.toNat = 76) ↔ s.2.2.2.2.1 = true := by obtain ⟨d, a, b, m, l, ⟨⟩⟩ := s; cases d <;> cases a <;> cases b <;> cases m <;> cases l <;> decide
    have hlen : args x ≠ [] ↔ (((List.length x.2.2.2.2.2.1) : Nat) : Int) ≠ 0 := by
      unfold args
      rw [← List.length_pos_iff]; omega
    subst hV
    constructor
    · rintro (⟨q1, q2⟩ | ⟨q1, q2⟩ | ⟨q1, q2⟩ | ⟨q1, q2⟩ | ⟨q1, q2⟩)
      · exact ⟨0, by decide, q2, fun e => by rw [e0.1 e] at q1; cases q1⟩
      · exact ⟨1, by decide, q2, fun e => by rw [e1.1 e] at q1; cases q1⟩
      · exact ⟨2, by decide, q2, fun e => by rw [e2.1 e] at q1; cases q1⟩
      · exact ⟨3, by decide, q2, fun e => by rw [e3.1 e] at q1; cases q1⟩
      · exact ⟨4, by decide, hlen.1 q2, fun e => by rw [e4.1 e] at q1; cases q1⟩
    · have key : ∀ b : Bool, ¬ b = true → b = false := fun b h => by simpa using h
      rintro ⟨i, hi, q1, q2⟩
      match i, hi with
      | 0, _ => exact .inl ⟨key _ fun e => q2 (e0.2 e), q1⟩
      | 1, _ => exact .inr (.inl ⟨key _ fun e => q2 (e1.2 e), q1⟩)
      | 2, _ => exact .inr (.inr (.inl ⟨key _ fun e => q2 (e2.2 e), q1⟩))
      | 3, _ => exact .inr (.inr (.inr (.inl ⟨key _ fun e => q2 (e3.2 e), q1⟩)))
      | 4, _ => exact .inr (.inr (.inr (.inr ⟨key _ fun e => q2 (e4.2 e), hlen.2 q1⟩)))
  clear hV
  have hn : ∀ i, i < 5 → ∀ c : UInt8, ([68, 65, 66, 78, 76] : List UInt8)[i]? = some c → ([68, 65, 66, 78, 76] : List Nat)[i]? = some c.toNat := by
    intro i hi c hc
    match i, hi with
    | 0, _ => simp at hc; subst hc; rfl
    | 1, _ => simp at hc; subst hc; rfl
    | 2, _ => simp at hc; subst hc; rfl
    | 3, _ => simp at hc; subst hc; rfl
    | 4, _ => simp at hc; subst hc; rfl
  refine allInd (N := 5) (p := fun i => ∀ h : i < 5, ¬ (V[i] ≠ 0 ∧ ¬ ∃ b ∈ str s, b.toNat = ([68, 65, 66, 78, 76] : List Nat)[i])) (M := fun i => I n (str s) ((5 : Nat) : Int) (i : Int) x V) (fun hall => hI _ _ _ _ _ _ (brDn (by omega) (h fun e => ?_))) fun i hi hlt ih => hI _ _ _ _ _ _ ?_
  · obtain ⟨i, hi, q⟩ := hbad.1 e
    exact hall i hi hi q
  · rw [wrapS (by omega), Int.toNat_natCast]
    refine brD (by omega) (brD (by omega) (needNth (by omega) (brN (fun e => needAt (by simpa using hi) ?_) fun e => ih fun _ q => q.1 e)))
    have hc : ([68, 65, 66, 78, 76] : List Nat)[i] = (([68, 65, 66, 78, 76] : List UInt8)[i]'(by simpa using hi)).toNat := by
      have := hn i hi _ (List.getElem?_eq_getElem (by simpa using hi))
      rw [List.getElem?_eq_getElem (by simpa using hi)] at this
      exact Option.some.inj this
    refine c43_ok hs (fun q => brF rfl (ih fun _ q2 => q2.2 ?_)) fun q => brT rfl (h3 (hbad.2 ⟨i, hi, e, ?_⟩))
    · rw [hc]; exact q
    · rw [hc]; exact q
theorem l18r23_ok {n : Int} {l : List Int} {k1 : Int → Prop} {k2 : Prop} (hl : l.length ≤ 1000) (h1 : (∃ r ∈ l, r < 0 ∨ n ≤ r) → k1 6) (h2 : (¬ ∃ r ∈ l, r < 0 ∨ n ≤ r) → k2) : l18r23 k1 k2 n (l.length : Int) 0 l := by
  constructor
  intro I hI
  refine allInd (N := l.length) (p := fun i => ∀ h : i < l.length, ¬ (l[i] < 0 ∨ n ≤ l[i])) (M := fun i => I n (l.length : Int) (i : Int) l) (fun h => hI _ _ _ _ (brDn (by omega) (h2 ?_))) fun i hi hlt ih => hI _ _ _ _ ?_
  · rintro ⟨r, hr, hb⟩
    obtain ⟨i, hi, rfl⟩ := List.mem_iff_getElem.1 hr
    exact h i hi hi hb
  · rw [wrapS (by omega), Int.toNat_natCast]
    refine brD (by omega) (brD (by omega) (needNth hi (brP (fun q => h1 ⟨l[i], List.getElem_mem hi, .inl q⟩) fun q => brP (fun q2 => h1 ⟨l[i], List.getElem_mem hi, .inr (by omega)⟩) fun q2 => ih fun _ => by omega)))
theorem j18r20_ok {x : VI} {n : Int} {k : Int → Prop} (h4 : rbad x → k 4) (h6 : ¬ rbad x → nbad x n → k 6) (h0 : ¬ rbad x → ¬ nbad x n → k 0) : j18r20 k n (low x.1) (high x.1) x := by
  have hL : rbad x ↔ 6 < x.2.2.2.2.2.1.length ∨ x.2.2.2.2.1 < low x.1 ∨ high x.1 < x.2.2.2.2.1 := Iff.rfl
  constructor
  refine brP (fun e => h4 (hL.2 (by omega))) fun n1 => brP (fun e => h4 (hL.2 (by omega))) fun n2 => brP (fun e => h4 (hL.2 (by omega))) fun n3 => ?_
  have hr : ¬ rbad x := fun e => by have := hL.1 e; omega
  refine brB (fun e => ?_) fun e => brT (roomS (by omega)) ?_
  · have e : x.2.2.2.2.2.1 = [] := List.isEmpty_iff.1 e
    exact l18r23_ok (l := [x.2.1, x.2.2.1, x.2.2.2.1]) (by simp) (fun h => h6 hr (by unfold nbad args; rw [e, List.append_nil]; exact h)) fun h => h0 hr (by unfold nbad args; rw [e, List.append_nil]; exact h)
  · exact l18r23_ok (l := [x.2.1, x.2.2.1, x.2.2.2.1] ++ x.2.2.2.2.2.1) (by simp; omega) (h6 hr) (h0 hr)
theorem c18_ok {x : VI} {n : Int} {k : Int → Prop} (hl : (args x).length ≤ maxLen) (h : Ins x n k) : c18 x n k := by
  constructor
  refine c42_ok (fun e => brT rfl (h.h1 e)) fun s hs => ?_
  have hne : (str s == ([45] : List UInt8)) = false := by obtain ⟨d, a, b, m, l, ⟨⟩⟩ := s; cases d <;> cases a <;> cases b <;> cases m <;> cases l <;> rfl
  rw [hne]
  refine brF rfl (l18r5_ok hl (h.h3 s hs) fun hf => ?_)
  have hfin := j18r20_ok (x := x) (n := n) (k := k) (h.h4 s hs hf) (h.h6 s hs hf) (h.h0 s hs hf)
  have hlow : low x.1 = if x.1 = 101 ∨ x.1 = 103 ∨ x.1 = 9 ∨ x.1 = 10 ∨ x.1 = 14 then 0 else -2147483648 := rfl
  have hhigh : high x.1 = if x.1 = 101 ∨ x.1 = 103 then 255 else if x.1 = 9 ∨ x.1 = 10 then 31 else if x.1 = 14 then 4095 else 2147483647 := rfl
  refine brE (fun e => ?_) fun n1 => brE (fun e => ?_) fun n2 => brE (fun e => ?_) fun n3 => brE (fun e => ?_) fun n4 => brE (fun e => ?_) fun n5 => ?_
  · rw [if_pos (by omega)] at hlow
    rw [if_pos (by omega)] at hhigh
    rw [hlow, hhigh] at hfin; exact hfin
  · rw [if_pos (by omega)] at hlow
    rw [if_pos (by omega)] at hhigh
    rw [hlow, hhigh] at hfin; exact hfin
  · rw [if_pos (by omega)] at hlow
    rw [if_neg (by omega), if_pos (by omega)] at hhigh
    rw [hlow, hhigh] at hfin; exact hfin
  · rw [if_pos (by omega)] at hlow
    rw [if_neg (by omega), if_pos (by omega)] at hhigh
    rw [hlow, hhigh] at hfin; exact hfin
  · rw [if_pos (by omega)] at hlow
    rw [if_neg (by omega), if_neg (by omega), if_pos (by omega)] at hhigh
    rw [hlow, hhigh] at hfin; exact hfin
  · rw [if_neg (by omega)] at hlow
    rw [if_neg (by omega), if_neg (by omega), if_neg (by omega)] at hhigh
    rw [hlow, hhigh] at hfin; exact hfin
def eok (x : VI) : Prop :=
  (x.1 = 0 ∧ x.2.1 = 0 ∧ x.2.2.2.1 = 0 ∧ x.2.2.2.2.1 = 0 ∧ (args x).length = 0) ∨
  (x.1 = 1 ∧ x.2.1 = 0 ∧ x.2.2.1 = 0 ∧ x.2.2.2.1 = 0 ∧ x.2.2.2.2.1 = 0 ∧ (args x).length = 1) ∨
  (x.1 = 2 ∧ 16 ≤ x.2.1 ∧ x.2.1 ≤ 18 ∧ x.2.2.2.2.1 = 0 ∧ (args x).length = 2) ∨
  (x.1 = 3 ∧ x.2.1 = 0 ∧ x.2.2.1 = 0 ∧ x.2.2.2.1 = 0 ∧ 1 ≤ x.2.2.2.2.1 ∧ x.2.2.2.2.1 ≤ 6 ∧ (args x).length = 0)
def ebad (x : VI) (n : Int) : Prop := x.2.2.1 < 0 ∨ n ≤ x.2.2.1 ∨ x.2.2.2.1 < 0 ∨ n ≤ x.2.2.2.1
def tbad (x : VI) (N : Int) : Prop := ∃ t ∈ args x, t < 1 ∨ N ≤ t
structure EndA (x : VI) (n N : Int) (k : Int → Prop) : Prop where
  h1 : (x.1 < 0 ∨ 3 < x.1) → k 1
  h3 : 0 ≤ x.1 → x.1 ≤ 3 → ¬ eok x → k 3
  h6 : eok x → ebad x n → k 6
  h4 : eok x → ¬ ebad x n → tbad x N → k 4
  h0 : eok x → ¬ ebad x n → ¬ tbad x N → k 0
theorem l29r17_ok {n : Int} {l : List Int} {k1 : Int → Prop} {k2 : Prop} (hl : l.length ≤ 1000) (hn : -9223372036854775807 ≤ n ∧ n ≤ 9223372036854775807) (h1 : (∃ r ∈ l, r < 1 ∨ n ≤ r) → k1 4) (h2 : (¬ ∃ r ∈ l, r < 1 ∨ n ≤ r) → k2) : l29r17 k1 k2 n l (l.length : Int) 0 := by
  constructor
  intro I hI
  refine allInd (N := l.length) (p := fun i => ∀ h : i < l.length, ¬ (l[i] < 1 ∨ n ≤ l[i])) (M := fun i => I n l (l.length : Int) (i : Int)) (fun h => hI _ _ _ _ (brDn (by omega) (h2 ?_))) fun i hi hlt ih => hI _ _ _ _ ?_
  · rintro ⟨r, hr, hb⟩
    obtain ⟨i, hi, rfl⟩ := List.mem_iff_getElem.1 hr
    exact h i hi hi hb
  · rw [wrapS (by omega), show IntKind.wrap .i64 (n - 1) = n - 1 from wrap64 (by omega) (by omega)]
    refine brD (by omega) (needAt hi (c26_ok ?_))
    by_cases hb : 1 ≤ l[i] ∧ l[i] ≤ n - 1
    · rw [decide_eq_true hb]; exact brF rfl (ih fun _ => by omega)
    · rw [decide_eq_false hb]; exact brT rfl (h1 ⟨l[i], List.getElem_mem hi, by omega⟩)
theorem j29r12_ok {x : VI} {n N m : Int} {ok : Bool} {k : Int → Prop} (hn : -9223372036854775807 ≤ n ∧ n ≤ 9223372036854775807) (hN : -9223372036854775807 ≤ N ∧ N ≤ 9223372036854775807) (h0 : 0 ≤ x.1) (h3 : x.1 ≤ 3)
    (hok : eok x ↔ ok = true ∧ ((args x).length : Int) = m) (hm : m ≤ 2) (h : EndA x n N k) : j29r12 k n N m ok x := by
  have hL : ∀ m : Int, ((args x).length : Int) = m ↔ ((x.2.2.2.2.2.1.length : Nat) : Int) = m := fun _ => Iff.rfl
  constructor
  refine brB (fun e => h.h3 h0 h3 fun q => ?_) fun e => brN (fun e2 => h.h3 h0 h3 fun q => e2 (hok.1 q).2) fun e2 => ?_
  · rw [(hok.1 q).1] at e; cases e
  have hok' : eok x := hok.2 ⟨by simpa using e, e2⟩
  rw [show IntKind.wrap .i64 (n - 1) = n - 1 from wrap64 (by omega) (by omega)]
  refine c26_ok ?_
  by_cases ha : 0 ≤ x.2.2.1 ∧ x.2.2.1 ≤ n - 1
  · rw [decide_eq_true ha]
    refine brF rfl (c26_ok ?_)
    by_cases hb : 0 ≤ x.2.2.2.1 ∧ x.2.2.2.1 ≤ n - 1
    · rw [decide_eq_true hb]
      have hne : ¬ ebad x n := by unfold ebad; omega
      exact brF rfl (l29r17_ok (by omega) hN (h.h4 hok' hne) (h.h0 hok' hne))
    · rw [decide_eq_false hb]
      exact brT rfl (h.h6 hok' (by unfold ebad; omega))
  · rw [decide_eq_false ha]
    exact brT rfl (h.h6 hok' (by unfold ebad; omega))
theorem eok0 {x : VI} (h : x.1 = 0) : eok x ↔ (x.2.1 = 0 ∧ x.2.2.2.1 = 0 ∧ x.2.2.2.2.1 = 0 ∧ (args x).length = 0) := by unfold eok; rw [h]; simp
theorem eok1 {x : VI} (h : x.1 = 1) : eok x ↔ (x.2.1 = 0 ∧ x.2.2.1 = 0 ∧ x.2.2.2.1 = 0 ∧ x.2.2.2.2.1 = 0 ∧ (args x).length = 1) := by unfold eok; rw [h]; simp
theorem eok2 {x : VI} (h : x.1 = 2) : eok x ↔ (16 ≤ x.2.1 ∧ x.2.1 ≤ 18 ∧ x.2.2.2.2.1 = 0 ∧ (args x).length = 2) := by unfold eok; rw [h]; simp
theorem eok3 {x : VI} (h : x.1 = 3) : eok x ↔ (x.2.1 = 0 ∧ x.2.2.1 = 0 ∧ x.2.2.2.1 = 0 ∧ 1 ≤ x.2.2.2.2.1 ∧ x.2.2.2.2.1 ≤ 6 ∧ (args x).length = 0) := by unfold eok; rw [h]; simp
theorem c29_ok {x : VI} {n N : Int} {k : Int → Prop} (hn : -9223372036854775807 ≤ n ∧ n ≤ 9223372036854775807) (hN : -9223372036854775807 ≤ N ∧ N ≤ 9223372036854775807) (h : EndA x n N k) : c29 x n N k := by
  have J : ∀ m ok, 0 ≤ x.1 → x.1 ≤ 3 → m ≤ 2 → (eok x ↔ ok = true ∧ ((args x).length : Int) = m) → j29r12 k n N m ok x := fun m ok a b c d => j29r12_ok hn hN a b d c h
  clear hn hN
  have hF : ∀ {p : Prop} {m : Int}, ¬ p → (p ↔ false = true ∧ ((args x).length : Int) = m) := fun h => ⟨fun q => (h q).elim, fun q => by cases q.1⟩
  constructor
  refine brE (fun k0 => ?_) fun k0 => brE (fun k1 => ?_) fun k1 => brE (fun k2 => ?_) fun k2 => brE (fun k3 => ?_) fun k3 => h.h1 (by omega)
  · have hE := eok0 k0
    have g0 : 0 ≤ x.1 := by omega
    have g3 : x.1 ≤ 3 := by omega
    refine brE (fun e1 => brE (fun e2 => J _ _ g0 g3 (by decide) ?_) fun e2 => J _ _ g0 g3 (by decide) (hF fun q => e2 (hE.1 q).2.1)) fun e1 => J _ _ g0 g3 (by decide) (hF fun q => e1 (hE.1 q).1)
    rw [hE, beq_iff_eq]; simp only [e1, e2, true_and]; omega
  · have hE := eok1 k1
    have g0 : 0 ≤ x.1 := by omega
    have g3 : x.1 ≤ 3 := by omega
    refine brE (fun e1 => brE (fun e2 => brE (fun e3 => J _ _ g0 g3 (by decide) ?_) fun e3 => J _ _ g0 g3 (by decide) (hF fun q => e3 (hE.1 q).2.2.1)) fun e2 => J _ _ g0 g3 (by decide) (hF fun q => e2 (hE.1 q).2.1)) fun e1 => J _ _ g0 g3 (by decide) (hF fun q => e1 (hE.1 q).1)
    rw [hE, beq_iff_eq]; simp only [e1, e2, e3, true_and]; omega
  · have hE := eok2 k2
    have g0 : 0 ≤ x.1 := by omega
    have g3 : x.1 ≤ 3 := by omega
    refine brE (fun e1 => J _ _ g0 g3 (by decide) ?_) fun e1 => brE (fun e2 => J _ _ g0 g3 (by decide) ?_) fun e2 => brE (fun e3 => J _ _ g0 g3 (by decide) ?_) fun e3 => J _ _ g0 g3 (by decide) (hF fun q => by have := hE.1 q; omega)
    · rw [hE, beq_iff_eq]; clear hE; omega
    · rw [hE, beq_iff_eq]; clear hE; omega
    · rw [hE, beq_iff_eq]; clear hE; omega
  · have hE := eok3 k3
    have g0 : 0 ≤ x.1 := by omega
    have g3 : x.1 ≤ 3 := by omega
    refine brE (fun e1 => brE (fun e2 => brE (fun e3 => c26_ok (J _ _ g0 g3 (by decide) ?_)) fun e3 => J _ _ g0 g3 (by decide) (hF fun q => e3 (hE.1 q).2.2.1)) fun e2 => J _ _ g0 g3 (by decide) (hF fun q => e2 (hE.1 q).2.1)) fun e1 => J _ _ g0 g3 (by decide) (hF fun q => e1 (hE.1 q).1)
    rw [hE, decide_eq_true_iff]; simp only [e1, e2, e3, true_and]; omega
theorem l19r16_ok {n : Int} {l : List Int} {k1 : Int → Prop} {k2 : Prop} (hl : l.length ≤ 1000) (h1 : (∃ r ∈ l, r < 1 ∨ n ≤ r) → k1 4) (h2 : (¬ ∃ r ∈ l, r < 1 ∨ n ≤ r) → k2) : l19r16 k1 k2 n l (l.length : Int) 0 := by
  constructor
  intro I hI
  refine allInd (N := l.length) (p := fun i => ∀ h : i < l.length, ¬ (l[i] < 1 ∨ n ≤ l[i])) (M := fun i => I n l (l.length : Int) (i : Int)) (fun h => hI _ _ _ _ (brDn (by omega) (h2 ?_))) fun i hi hlt ih => hI _ _ _ _ ?_
  · rintro ⟨r, hr, hb⟩
    obtain ⟨i, hi, rfl⟩ := List.mem_iff_getElem.1 hr
    exact h i hi hi hb
  · rw [wrapS (by omega)]
    exact brD (by omega) (needAt hi (brP (fun q => h1 ⟨l[i], List.getElem_mem hi, .inl q⟩) fun q => brP (fun q2 => h1 ⟨l[i], List.getElem_mem hi, .inr (by omega)⟩) fun q2 => ih fun _ => by omega))
theorem j19r13_ok {x : VI} {n N : Int} {k : Int → Prop} (hok : eok x) (h : EndA x n N k) : j19r13 k n N x := by
  have hl : x.2.2.2.2.2.1.length ≤ 1000 := by
    have : (args x).length ≤ 1000 := by unfold eok at hok; omega
    exact this
  constructor
  refine brP (fun e => h.h6 hok (by unfold ebad; omega)) fun n1 => brP (fun e => h.h6 hok (by unfold ebad; omega)) fun n2 => brP (fun e => h.h6 hok (by unfold ebad; omega)) fun n3 => brP (fun e => h.h6 hok (by unfold ebad; omega)) fun n4 => ?_
  have hne : ¬ ebad x n := by unfold ebad; omega
  exact l19r16_ok hl (h.h4 hok hne) (h.h0 hok hne)
theorem j19s11_ok {x : VI} {n N : Int} {b : Bool} {k : Int → Prop} (h0 : 0 ≤ x.1) (h3 : x.1 ≤ 3) (hb : eok x ↔ b = false) (h : EndA x n N k) : j19s11 (fun z => k z) (fun z12 z13 z14 => j19r13 (fun z15 => k z15) z12 z13 z14) n N b x := by
  constructor
  refine brB (fun e => h.h3 h0 h3 fun q => ?_) fun e => j19r13_ok (hb.2 e) h
  rw [hb.1 q] at e; cases e
theorem l19r6_ok {x : VI} {n N m : Int} {s : List UInt8} {k1 : Int → Prop} {k2 : Int → Int → Int → VI → Prop} (hs : s.length ≤ 1000)
    (h3 : ((x.2.1 ≠ 0 ∧ ¬ ∃ b ∈ s, b.toNat = 79) ∨ (x.2.2.1 ≠ 0 ∧ ¬ ∃ b ∈ s, b.toNat = 65) ∨ (x.2.2.2.1 ≠ 0 ∧ ¬ ∃ b ∈ s, b.toNat = 66) ∨ (x.2.2.2.2.1 ≠ 0 ∧ ¬ ∃ b ∈ s, b.toNat = 78)) → k1 3)
    (h : ¬ ((x.2.1 ≠ 0 ∧ ¬ ∃ b ∈ s, b.toNat = 79) ∨ (x.2.2.1 ≠ 0 ∧ ¬ ∃ b ∈ s, b.toNat = 65) ∨ (x.2.2.2.1 ≠ 0 ∧ ¬ ∃ b ∈ s, b.toNat = 66) ∨ (x.2.2.2.2.1 ≠ 0 ∧ ¬ ∃ b ∈ s, b.toNat = 78)) → k2 n N m x) :
    l19r6 k1 k2 n N s m ((4 : Nat) : Int) 0 x [x.2.1, x.2.2.1, x.2.2.2.1, x.2.2.2.2.1] := by
  constructor
  intro I hI
  have hn : ∀ i, i < 4 → ∀ c : UInt8, ([79, 65, 66, 78] : List UInt8)[i]? = some c → ([79, 65, 66, 78] : List Nat)[i]? = some c.toNat := by
    intro i hi c hc
    match i, hi with
    | 0, _ => simp at hc; subst hc; rfl
    | 1, _ => simp at hc; subst hc; rfl
    | 2, _ => simp at hc; subst hc; rfl
    | 3, _ => simp at hc; subst hc; rfl
  generalize hV : [x.2.1, x.2.2.1, x.2.2.2.1, x.2.2.2.2.1] = V
  have hVl : V.length = 4 := by rw [← hV]; rfl
  have hbad : ((x.2.1 ≠ 0 ∧ ¬ ∃ b ∈ s, b.toNat = 79) ∨ (x.2.2.1 ≠ 0 ∧ ¬ ∃ b ∈ s, b.toNat = 65) ∨ (x.2.2.2.1 ≠ 0 ∧ ¬ ∃ b ∈ s, b.toNat = 66) ∨ (x.2.2.2.2.1 ≠ 0 ∧ ¬ ∃ b ∈ s, b.toNat = 78)) ↔
      ∃ i, ∃ h : i < 4, V[i] ≠ 0 ∧ ¬ ∃ b ∈ s, b.toNat = ([79, 65, 66, 78] : List Nat)[i] := by
    subst hV
    constructor
    · rintro (q | q | q | q)
      · exact ⟨0, by decide, q⟩
      · exact ⟨1, by decide, q⟩
      · exact ⟨2, by decide, q⟩
      · exact ⟨3, by decide, q⟩
    · rintro ⟨i, hi, q⟩
      match i, hi with
      | 0, _ => exact .inl q
      | 1, _ => exact .inr (.inl q)
      | 2, _ => exact .inr (.inr (.inl q))
      | 3, _ => exact .inr (.inr (.inr q))
  clear hV
  refine allInd (N := 4) (p := fun i => ∀ h : i < 4, ¬ (V[i] ≠ 0 ∧ ¬ ∃ b ∈ s, b.toNat = ([79, 65, 66, 78] : List Nat)[i])) (M := fun i => I n N s m ((4 : Nat) : Int) (i : Int) x V) (fun hall => hI _ _ _ _ _ _ _ _ (brDn (by omega) (h fun e => ?_))) fun i hi hlt ih => hI _ _ _ _ _ _ _ _ ?_
  · obtain ⟨i, hi, q⟩ := hbad.1 e
    exact hall i hi hi q
  · rw [wrapS (by omega), Int.toNat_natCast]
    refine brD (by omega) (brD (by omega) (needNth (by omega) (brN (fun e => needAt (by simpa using hi) ?_) fun e => ih fun _ q => q.1 e)))
    have hc : ([79, 65, 66, 78] : List Nat)[i] = (([79, 65, 66, 78] : List UInt8)[i]'(by simpa using hi)).toNat := by
      have := hn i hi _ (List.getElem?_eq_getElem (by simpa using hi))
      rw [List.getElem?_eq_getElem (by simpa using hi)] at this
      exact Option.some.inj this
    refine c43_ok hs (fun q => brF rfl (ih fun _ q2 => q2.2 ?_)) fun q => brT rfl (h3 (hbad.2 ⟨i, hi, e, ?_⟩))
    · rw [hc]; exact q
    · rw [hc]; exact q
theorem c19_ok {x : VI} {n N : Int} {k : Int → Prop} (hl : (args x).length ≤ maxLen) (h : EndA x n N k) : c19 x n N k := by
  have J : ∀ b, 0 ≤ x.1 → x.1 ≤ 3 → (eok x ↔ b = false) → j19s11 (fun z => k z) (fun z12 z13 z14 => j19r13 (fun z15 => k z15) z12 z13 z14) n N b x := fun b a c d => j19s11_ok a c d h
  have hA : ((x.2.2.2.2.2.1.length : Nat) : Int) = ((args x).length : Int) := rfl
  have hT : ¬ eok x → (eok x ↔ true = false) := fun h => ⟨fun q => (h q).elim, fun q => by cases q⟩
  have hF : eok x → (eok x ↔ false = false) := fun h => ⟨fun _ => rfl, fun _ => h⟩
  constructor
  refine brP (fun e => h.h1 (by omega)) fun q0 => brP (fun e => h.h1 (by omega)) fun q1 => brD (by omega) ?_
  have hx : x.1 = 0 ∨ x.1 = 1 ∨ x.1 = 2 ∨ x.1 = 3 := by omega
  have g0 : 0 ≤ x.1 := by omega
  have g3 : x.1 ≤ 3 := by omega
  clear q0 q1 hl
  rcases hx with hx | hx | hx | hx
  · have hE := eok0 hx
    rw [hx]
    refine brD (by decide) ?_
    refine l19r6_ok (s := [65]) (m := 0) (by decide) (fun e => h.h3 g0 g3 fun q => ?_) fun e => ?_
    · have := hE.1 q; clear hE; simp at e; omega
    · rw [hA]
      simp at e
      refine brN (fun e1 => J _ g0 g3 (hT fun q => ?_)) fun e1 => brE (fun e2 => ?_) fun e2 => brE (fun e3 => ?_) fun e3 => J _ g0 g3 (hF (hE.2 ?_))
      · have := hE.1 q; clear hE; omega
      · omega
      · omega
      · clear hE; omega
  · have hE := eok1 hx
    rw [hx]
    refine brD (by decide) ?_
    refine l19r6_ok (s := []) (m := 1) (by decide) (fun e => h.h3 g0 g3 fun q => ?_) fun e => ?_
    · have := hE.1 q; clear hE; simp at e; omega
    · rw [hA]
      simp at e
      refine brN (fun e1 => J _ g0 g3 (hT fun q => ?_)) fun e1 => brE (fun e2 => ?_) fun e2 => brE (fun e3 => ?_) fun e3 => J _ g0 g3 (hF (hE.2 ?_))
      · have := hE.1 q; clear hE; omega
      · omega
      · omega
      · clear hE; omega
  · have hE := eok2 hx
    rw [hx]
    refine brD (by decide) ?_
    refine l19r6_ok (s := [79, 65, 66]) (m := 2) (by decide) (fun e => h.h3 g0 g3 fun q => ?_) fun e => ?_
    · have := hE.1 q; clear hE; simp at e; omega
    · rw [hA]
      simp at e
      refine brN (fun e1 => J _ g0 g3 (hT fun q => ?_)) fun e1 => brE (fun e2 => ?_) fun e2 => ?_
      · have := hE.1 q; clear hE; omega
      · refine brP (fun e3 => J _ g0 g3 (hT fun q => ?_)) fun e3 => brP (fun e4 => J _ g0 g3 (hT fun q => ?_)) fun e4 => brE (fun e5 => ?_) fun e5 => J _ g0 g3 (hF (hE.2 ?_))
        · have := hE.1 q; clear hE; omega
        · have := hE.1 q; clear hE; omega
        · omega
        · clear hE; omega
      · exact (e2 hx).elim
  · have hE := eok3 hx
    rw [hx]
    refine brD (by decide) ?_
    refine l19r6_ok (s := [78]) (m := 0) (by decide) (fun e => h.h3 g0 g3 fun q => ?_) fun e => ?_
    · have := hE.1 q; clear hE; simp at e; omega
    · rw [hA]
      simp at e
      refine brN (fun e1 => J _ g0 g3 (hT fun q => ?_)) fun e1 => brE (fun e2 => ?_) fun e2 => ?_
      · have := hE.1 q; clear hE; omega
      · omega
      · refine brE (fun e3 => brP (fun e4 => J _ g0 g3 (hT fun q => ?_)) fun e4 => J _ g0 g3 ?_) fun e3 => ?_
        · have := hE.1 q; clear hE; omega
        · rw [hE, decide_eq_false_iff_not]; clear hE; omega
        · exact (e3 hx).elim
open Classical in
noncomputable def insErr (n : Int) (x : VI) : Int :=
  match shp x.1 with
  | none => 1
  | some s => if fbad x s then 3 else if rbad x then 4 else if nbad x n then 6 else 0
theorem ins_of {x : VI} {n : Int} {k : Int → Prop} (h : k (insErr n x)) : Ins x n k := by
  unfold insErr at h
  refine ⟨fun e => ?_, fun s e e1 => ?_, fun s e e1 e2 => ?_, fun s e e1 e2 e3 => ?_, fun s e e1 e2 e3 => ?_⟩ <;> rw [e] at h <;> dsimp only at h
  · exact h
  · rw [if_pos e1] at h; exact h
  · rw [if_neg e1, if_pos e2] at h; exact h
  · rw [if_neg e1, if_neg e2, if_pos e3] at h; exact h
  · rw [if_neg e1, if_neg e2, if_neg e3] at h; exact h
open Classical in
noncomputable def endErr (n N : Int) (x : VI) : Int :=
  if x.1 < 0 ∨ 3 < x.1 then 1 else if ¬ eok x then 3 else if ebad x n then 6 else if tbad x N then 4 else 0
theorem eok_kind {x : VI} (h : eok x) : ¬ (x.1 < 0 ∨ 3 < x.1) := by unfold eok at h; omega
theorem end_of {x : VI} {n N : Int} {k : Int → Prop} (h : k (endErr n N x)) : EndA x n N k := by
  unfold endErr at h
  refine ⟨fun e => ?_, fun e1 e2 e3 => ?_, fun e1 e2 => ?_, fun e1 e2 e3 => ?_, fun e1 e2 e3 => ?_⟩
  · rw [if_pos e] at h; exact h
  · rw [if_neg (by omega), if_pos e3] at h; exact h
  · rw [if_neg (eok_kind e1), if_neg (fun h => h e1), if_pos e2] at h; exact h
  · rw [if_neg (eok_kind e1), if_neg (fun h => h e1), if_neg e2, if_pos e3] at h; exact h
  · rw [if_neg (eok_kind e1), if_neg (fun h => h e1), if_neg e2, if_neg e3] at h; exact h
theorem ins_good {n : Nat} (hn : 0 < n) {x : VI} (h : insErr (n : Int) x = 0) : VOk n x := by
  unfold insErr at h
  split at h
  · cases h
  · rename_i s hs
    split at h
    · cases h
    · split at h
      · cases h
      · rename_i h4
        split at h
        · cases h
        · rename_i h6
          have hin : ∀ r ∈ [x.2.1, x.2.2.1, x.2.2.2.1] ++ args x, 0 ≤ r ∧ r < (n : Int) := fun r hr => by
            refine ⟨?_, ?_⟩
            · exact Int.not_lt.1 fun q => h6 ⟨r, hr, .inl q⟩
            · exact Int.not_le.1 fun q => h6 ⟨r, hr, .inr q⟩
          have hl : (args x).length ≤ 6 := by unfold rbad at h4; omega
          unfold args at hl
          refine ⟨by omega, fun r hr => hin r ?_, ?_⟩
          · unfold uses at hr
            rw [List.mem_filter] at hr
            have := hr.1
            simp only [List.mem_append, List.mem_cons, List.not_mem_nil, or_false] at this ⊢
            rcases this with (e | e) | e
            · exact .inl (.inr (.inl e))
            · exact .inl (.inr (.inr e))
            · exact .inr e
          · have := hin x.2.1 (by simp)
            unfold dfn
            split
            · exact ⟨by omega, by omega⟩
            · exact this
theorem end_good {n N : Nat} {b : BL} (h : endErr (n : Int) (N : Int) b.2.1 = 0) : InR n (ends b) ∧ InR N (tos b) ∧ (tos b).length ≤ maxLen := by
  unfold endErr at h
  split at h
  · cases h
  · split at h
    · cases h
    · rename_i hk hok
      split at h
      · cases h
      · rename_i he
        split at h
        · cases h
        · rename_i ht
          refine ⟨fun r hr => ?_, fun t ht2 => ?_, ?_⟩
          · unfold ends nz at hr
            rw [List.mem_filter] at hr
            have := hr.1
            simp only [List.mem_cons, List.not_mem_nil, or_false] at this
            unfold ebad at he
            rcases this with e | e <;> omega
          · have : ¬ (t < 1 ∨ (N : Int) ≤ t) := fun q => ht ⟨t, ht2, q⟩
            omega
          · have : (args b.2.1).length ≤ 2 := by
              have := Classical.not_not.1 hok
              unfold eok at this; omega
            have h2 : (tos b).length = (args b.2.1).length := rfl
            rw [h2, hml]; omega
noncomputable def errs (g : VI → Int) : List VI → Int
  | [] => 0
  | x :: r => if g x ≠ 0 then g x else errs g r
noncomputable def bErr (n N : Int) : Int → List BL → Int
  | _, [] => 0
  | m, b :: r => if 4096 < m + (b.1.length : Int) then 2 else if errs (insErr n) b.1 ≠ 0 then errs (insErr n) b.1 else if endErr n N b.2.1 ≠ 0 then endErr n N b.2.1 else bErr n N (m + (b.1.length : Int)) r
noncomputable def pErr (n : Int) : List Int → List Int → Int
  | _, [] => 0
  | q, p :: r => if p < 1 ∨ n ≤ p then 6 else if p ∈ q then 7 else pErr n (q ++ [p]) r
def Lv (f : FN) (i r : Nat) : Prop := ∀ X, Closed f X → X i r
open Classical in
noncomputable def lErr (f : FN) : Int := if ∃ r : Nat, 1 ≤ r ∧ (r : Int) < f.2.2.1 ∧ Lv f 0 r ∧ (r : Int) ∉ f.2.1 then 12 else 0
noncomputable def fnErr (f : FN) : Int :=
  if 6 < f.2.1.length then 2 else if 4096 < (bls f).length then 2 else if f.2.2.1 < 1 ∨ 8192 < f.2.2.1 then 2 else if (bls f).length = 0 then 3 else
  if pErr f.2.2.1 [] f.2.1 ≠ 0 then pErr f.2.2.1 [] f.2.1 else if bErr f.2.2.1 ((bls f).length : Int) 0 (bls f) ≠ 0 then bErr f.2.2.1 ((bls f).length : Int) 0 (bls f) else lErr f
theorem errs_good {g : VI → Int} : ∀ {l : List VI}, errs g l = 0 → ∀ x ∈ l, g x = 0
  | [], _, x, hx => by simp at hx
  | y :: l, h, x, hx => by
    rw [errs] at h
    split at h
    · rename_i e; exact (e h).elim
    · rename_i e
      rcases List.mem_cons.1 hx with rfl | hx
      · exact Classical.not_not.1 e
      · exact errs_good h x hx
theorem bErr_good {n N : Int} : ∀ {l : List BL} {m : Int}, bErr n N m l = 0 → ∀ b ∈ l, errs (insErr n) b.1 = 0 ∧ endErr n N b.2.1 = 0
  | [], _, _, b, hb => by simp at hb
  | c :: l, m, h, b, hb => by
    rw [bErr] at h
    split at h
    · cases h
    · split at h
      · rename_i e; exact (e h).elim
      · split at h
        · rename_i e; exact (e h).elim
        · rename_i e1 e2
          rcases List.mem_cons.1 hb with rfl | hb
          · exact ⟨Classical.not_not.1 e1, Classical.not_not.1 e2⟩
          · exact bErr_good h b hb
theorem lv_nd {f : FN} {i r : Nat} (h0 : r ≠ 0) : Lv f i r ↔ ∀ X, Closed f X → Nd f X i 0 r := by
  constructor
  · intro h X hX
    have hc : Closed f (Fb f X) := fun j q hq => Fb_mono (fun _ _ => hX _ _) hq
    exact (fb_nd h0).1 (h _ hc)
  · intro h X hX
    exact hX _ _ ((fb_nd h0).2 (h X hX))
theorem lv_at {f : FN} {n : Nat} {B : BB} (h : Rd f n B) (hc : Closed f (At B)) {i r : Nat} : At B i r ↔ Lv f i r := ⟨fun q X hX => h.low X hX _ _ q, fun q => q _ hc⟩
structure Szf (f : FN) : Prop where
  par : f.2.1.length ≤ maxLen
  reg : -9223372036854775808 ≤ f.2.2.1 ∧ f.2.2.1 ≤ 9223372036854775807
  ins : ∀ b ∈ bls f, b.1.length ≤ 140737488355328
  arg : ∀ b ∈ bls f, ∀ x ∈ b.1, (args x).length ≤ maxLen
  to : ∀ b ∈ bls f, (args b.2.1).length ≤ maxLen
theorem l12r21_ok {n m u v w : Int} {l : List BL} {f : FN} {b : BL} {k1 : Int → Prop} {k2 : Int → List BL → Int → Int → FN → BL → Prop} (hn : f.2.2.1 = n) (hn2 : -9223372036854775807 ≤ n ∧ n ≤ 9223372036854775807) (hl : b.1.length ≤ 140737488355328)
    (h1 : errs (insErr n) b.1 ≠ 0 → k1 (errs (insErr n) b.1)) (h2 : errs (insErr n) b.1 = 0 → k2 m l u v f b) : l12r21 k1 k2 m l u v b.1 (b.1.length : Int) 0 f b := by
  constructor
  intro I hI
  have key := upInd (N := b.1.length) (M := fun j => (errs (insErr n) (b.1.drop j) ≠ 0 → k1 (errs (insErr n) (b.1.drop j))) → (errs (insErr n) (b.1.drop j) = 0 → k2 m l u v f b) → I m l u v b.1 (b.1.length : Int) (j : Int) f b)
    (by
      intro h1 h2
      apply hI
      rw [List.drop_length] at h2
      exact brDn (by omega) (h2 rfl))
    (by
      intro j hj ih h1 h2
      apply hI
      rw [drop_cons hj, errs] at h1 h2
      rw [wrapS (by omega), hn]
      refine brD (by omega) (needAt hj (c28_ok hn2 (ins_of ?_)))
      by_cases e : insErr n b.1[j] = 0
      · rw [if_neg (fun h => h e)] at h1 h2
        exact brF (by rw [e]; rfl) (ih h1 h2)
      · rw [if_pos e] at h1
        exact brT (by simpa using e) (h1 e))
    0 (Nat.zero_le _)
  exact key h1 h2
theorem l7r25_ok {n m u v w : Int} {l : List BL} {f : FN} {b : BL} {k1 : Int → Prop} {k2 : Int → List BL → Int → Int → FN → BL → Prop} (hn : f.2.2.1 = n) (ha : ∀ x ∈ b.1, (args x).length ≤ maxLen) (hl : b.1.length ≤ 140737488355328)
    (h1 : errs (insErr n) b.1 ≠ 0 → k1 (errs (insErr n) b.1)) (h2 : errs (insErr n) b.1 = 0 → k2 m l u v f b) : l7r25 k1 k2 m l u v b.1 (b.1.length : Int) 0 f b := by
  constructor
  intro I hI
  have key := upInd (N := b.1.length) (M := fun j => (errs (insErr n) (b.1.drop j) ≠ 0 → k1 (errs (insErr n) (b.1.drop j))) → (errs (insErr n) (b.1.drop j) = 0 → k2 m l u v f b) → I m l u v b.1 (b.1.length : Int) (j : Int) f b)
    (by
      intro h1 h2
      apply hI
      rw [List.drop_length] at h2
      exact brDn (by omega) (h2 rfl))
    (by
      intro j hj ih h1 h2
      apply hI
      rw [drop_cons hj, errs] at h1 h2
      rw [wrapS (by omega), hn]
      refine brD (by omega) (needAt hj (c18_ok (ha _ (List.getElem_mem hj)) (ins_of ?_)))
      by_cases e : insErr n b.1[j] = 0
      · rw [if_neg (fun h => h e)] at h1 h2
        exact brF (by rw [e]; rfl) (ih h1 h2)
      · rw [if_pos e] at h1
        exact brT (by simpa using e) (h1 e))
    0 (Nat.zero_le _)
  exact key h1 h2
theorem l12r15_ok {f : FN} {k1 : Int → Prop} {k2 : FN → Prop} (hz : Szf f) (hn2 : 1 ≤ f.2.2.1 ∧ f.2.2.1 ≤ 8192) (hb : (bls f).length ≤ 4096)
    (h1 : bErr f.2.2.1 ((bls f).length : Int) 0 (bls f) ≠ 0 → k1 (bErr f.2.2.1 ((bls f).length : Int) 0 (bls f))) (h2 : bErr f.2.2.1 ((bls f).length : Int) 0 (bls f) = 0 → k2 f) : l12r15 k1 k2 0 (bls f) ((bls f).length : Int) 0 f := by
  have hb2 : f.2.2.2.1.length ≤ 4096 := hb
  constructor
  intro I hI
  have key := upInd (N := (bls f).length) (M := fun j => ∀ m : Int, 0 ≤ m → m ≤ 4096 → (bErr f.2.2.1 ((bls f).length : Int) m ((bls f).drop j) ≠ 0 → k1 (bErr f.2.2.1 ((bls f).length : Int) m ((bls f).drop j))) → (bErr f.2.2.1 ((bls f).length : Int) m ((bls f).drop j) = 0 → k2 f) → I m (bls f) ((bls f).length : Int) (j : Int) f)
    (by
      intro m _ _ h1 h2
      apply hI
      rw [List.drop_length] at h2
      exact brDn (by omega) (h2 rfl))
    (by
      intro j hj ih m m0 m1 h1 h2
      apply hI
      have hm := List.getElem_mem hj
      have hl := hz.ins _ hm
      rw [drop_cons hj, bErr] at h1 h2
      refine brD (by omega) (needAt hj ?_)
      rw [wrap64 (a := m + _) (by omega) (by omega)]
      refine brP (fun e => ?_) fun e => ?_
      · rw [if_pos (by omega)] at h1
        exact h1 (by decide)
      · rw [if_neg (by omega)] at h1 h2
        refine l12r21_ok (w := 0) rfl (by omega) hl (fun e1 => ?_) fun e1 => c29_ok (by omega) (by omega) (end_of ?_)
        · rw [if_pos e1] at h1
          exact h1 e1
        · rw [if_neg (fun h => h e1)] at h1 h2
          show br (endErr f.2.2.1 ((bls f).length : Int) ((bls f)[j]).2.1 != 0) _ _
          refine brN (fun e2 => ?_) fun e2 => ?_
          · rw [if_pos e2] at h1
            exact h1 e2
          · rw [if_neg (fun h => h e2)] at h1 h2
            rw [wrapS (by omega)]
            exact ih _ (by omega) (by omega) h1 h2)
    0 (Nat.zero_le _)
  exact key 0 (by decide) (by decide) h1 h2
theorem l7r19_ok {f : FN} {k1 : Int → Prop} {k2 : FN → Prop} (hz : Szf f) (hn2 : 1 ≤ f.2.2.1 ∧ f.2.2.1 ≤ 8192) (hb : (bls f).length ≤ 4096)
    (h1 : bErr f.2.2.1 ((bls f).length : Int) 0 (bls f) ≠ 0 → k1 (bErr f.2.2.1 ((bls f).length : Int) 0 (bls f))) (h2 : bErr f.2.2.1 ((bls f).length : Int) 0 (bls f) = 0 → k2 f) : l7r19 k1 k2 0 (bls f) ((bls f).length : Int) 0 f := by
  constructor
  intro I hI
  have key := upInd (N := (bls f).length) (M := fun j => ∀ m : Int, 0 ≤ m → m ≤ 4096 → (bErr f.2.2.1 ((bls f).length : Int) m ((bls f).drop j) ≠ 0 → k1 (bErr f.2.2.1 ((bls f).length : Int) m ((bls f).drop j))) → (bErr f.2.2.1 ((bls f).length : Int) m ((bls f).drop j) = 0 → k2 f) → I m (bls f) ((bls f).length : Int) (j : Int) f)
    (by
      intro m _ _ h1 h2
      apply hI
      rw [List.drop_length] at h2
      exact brDn (by omega) (h2 rfl))
    (by
      intro j hj ih m m0 m1 h1 h2
      apply hI
      have hm := List.getElem_mem hj
      have hl := hz.ins _ hm
      rw [drop_cons hj, bErr] at h1 h2
      refine brD (by omega) (needAt hj ?_)
      rw [wrap64 (a := m + _) (by omega) (by omega)]
      refine brP (fun e => ?_) fun e => ?_
      · rw [if_pos (by omega)] at h1
        exact h1 (by decide)
      · rw [if_neg (by omega)] at h1 h2
        refine l7r25_ok (w := 0) rfl (hz.arg _ hm) hl (fun e1 => ?_) fun e1 => c19_ok (hz.to _ hm) (end_of ?_)
        · rw [if_pos e1] at h1
          exact h1 e1
        · rw [if_neg (fun h => h e1)] at h1 h2
          show br (endErr f.2.2.1 ((bls f).length : Int) ((bls f)[j]).2.1 != 0) _ _
          refine brN (fun e2 => ?_) fun e2 => ?_
          · rw [if_pos e2] at h1
            exact h1 e2
          · rw [if_neg (fun h => h e2)] at h1 h2
            rw [wrapS (by omega)]
            exact ih _ (by omega) (by omega) h1 h2)
    0 (Nat.zero_le _)
  exact key 0 (by decide) (by decide) h1 h2
theorem l12r6_ok {f : FN} {k1 : Int → Prop} {k2 : FN → Prop} (hz : Szf f) (hn2 : 1 ≤ f.2.2.1 ∧ f.2.2.1 ≤ 8192)
    (h1 : pErr f.2.2.1 [] f.2.1 ≠ 0 → k1 (pErr f.2.2.1 [] f.2.1)) (h2 : pErr f.2.2.1 [] f.2.1 = 0 → k2 f) : l12r6 k1 k2 f.2.1 (f.2.1.length : Int) 0 f := by
  have hm := hml
  have hp := hz.par
  constructor
  intro I hI
  have key := upInd (N := f.2.1.length) (M := fun j => (pErr f.2.2.1 (f.2.1.take j) (f.2.1.drop j) ≠ 0 → k1 (pErr f.2.2.1 (f.2.1.take j) (f.2.1.drop j))) → (pErr f.2.2.1 (f.2.1.take j) (f.2.1.drop j) = 0 → k2 f) → I f.2.1 (f.2.1.length : Int) (j : Int) f)
    (by
      intro h1 h2
      apply hI
      rw [List.drop_length] at h2
      exact brDn (by omega) (h2 rfl))
    (by
      intro j hj ih h1 h2
      apply hI
      rw [drop_cons hj, pErr, ← List.take_succ_eq_append_getElem hj] at h1 h2
      rw [wrapS (by omega), wrap64 (a := f.2.2.1 - 1) (by omega) (by omega), Int.toNat_natCast, List.drop_zero]
      refine brD (by omega) (needAt hj (c26_ok ?_))
      by_cases e : 1 ≤ f.2.1[j] ∧ f.2.1[j] ≤ f.2.2.1 - 1
      · rw [decide_eq_true e]
        rw [if_neg (by omega)] at h1 h2
        refine brF rfl (brD (by omega) (c27_ok (by rw [List.length_take]; omega) (fun e2 => ?_) fun e2 => ?_))
        · rw [if_pos e2] at h1
          exact brT rfl (h1 (by decide))
        · rw [if_neg e2] at h1 h2
          exact brF rfl (ih h1 h2)
      · rw [decide_eq_false e]
        rw [if_pos (by omega)] at h1
        exact brT rfl (h1 (by decide)))
    0 (Nat.zero_le _)
  exact key h1 h2
theorem l7r11_ok {p u v : Int} {l q : List Int} {f : FN} {k1 : Int → Prop} {k2 : List Int → Int → Int → FN → Prop} (hq : q.length ≤ maxLen) (h1 : p ∈ q → k1 7) (h2 : p ∉ q → k2 l u v f) : l7r11 k1 k2 p l u v q (q.length : Int) 0 f := by
  have hm := hml
  constructor
  intro I hI
  refine allInd (N := q.length) (p := fun i => ∀ h : i < q.length, q[i] ≠ p) (M := fun i => I p l u v q (q.length : Int) (i : Int) f) (fun h => hI _ _ _ _ _ _ _ _ (brDn (by omega) (h2 fun hm => ?_))) fun i hi hlt ih => hI _ _ _ _ _ _ _ _ ?_
  · obtain ⟨i, hi, e⟩ := List.mem_iff_getElem.1 hm
    exact h i hi hi e
  · rw [wrapS (by omega)]
    exact brD (by omega) (needAt hi (brE (fun e => h1 (e ▸ List.getElem_mem hi)) fun e => ih fun _ e2 => e e2.symm))
theorem l7r6_ok {f : FN} {k1 : Int → Prop} {k2 : FN → Prop} (hz : Szf f)
    (h1 : pErr f.2.2.1 [] f.2.1 ≠ 0 → k1 (pErr f.2.2.1 [] f.2.1)) (h2 : pErr f.2.2.1 [] f.2.1 = 0 → k2 f) : l7r6 k1 k2 f.2.1 (f.2.1.length : Int) 0 f := by
  have hm := hml
  have hp := hz.par
  constructor
  intro I hI
  have key := upInd (N := f.2.1.length) (M := fun j => (pErr f.2.2.1 (f.2.1.take j) (f.2.1.drop j) ≠ 0 → k1 (pErr f.2.2.1 (f.2.1.take j) (f.2.1.drop j))) → (pErr f.2.2.1 (f.2.1.take j) (f.2.1.drop j) = 0 → k2 f) → I f.2.1 (f.2.1.length : Int) (j : Int) f)
    (by
      intro h1 h2
      apply hI
      rw [List.drop_length] at h2
      exact brDn (by omega) (h2 rfl))
    (by
      intro j hj ih h1 h2
      apply hI
      rw [drop_cons hj, pErr, ← List.take_succ_eq_append_getElem hj] at h1 h2
      rw [Int.toNat_natCast, List.drop_zero]
      refine brD (by omega) (needAt hj (brP (fun e => ?_) fun e => brP (fun e2 => ?_) fun e2 => brD (by omega) ?_))
      · rw [if_pos (by omega)] at h1
        exact h1 (by decide)
      · rw [if_pos (by omega)] at h1
        exact h1 (by decide)
      · rw [if_neg (by omega)] at h1 h2
        refine l7r11_ok (by rw [List.length_take]; omega) (fun e3 => ?_) fun e3 => ?_
        · rw [if_pos e3] at h1
          exact h1 (by decide)
        · rw [if_neg e3] at h1 h2
          rw [wrapS (by omega)]
          exact ih h1 h2)
    0 (Nat.zero_le _)
  exact key h1 h2
theorem regInd {n : Nat} {M : Nat → Prop} (hn : 1 ≤ n) (hN : M n) (hs : ∀ i, 1 ≤ i → i < n → M (i + 1) → M i) : M 1 := by
  have key : ∀ d i, d + i = n → 1 ≤ i → M i := by
    intro d
    induction d with
    | zero => intro i h _; have : i = n := by omega
              subst this; exact hN
    | succ d ih => intro i h h1; exact hs i h1 (by omega) (ih (i + 1) (by omega) (by omega))
  exact key (n - 1) 1 (by omega) (Nat.le_refl _)
theorem lErr_12 {f : FN} {r : Nat} (h1 : 1 ≤ r) (h2 : (r : Int) < f.2.2.1) (h3 : Lv f 0 r) (h4 : (r : Int) ∉ f.2.1) : lErr f = 12 := by
  unfold lErr; rw [if_pos ⟨r, h1, h2, h3, h4⟩]
theorem lErr_0 {f : FN} (h : ∀ r : Nat, 1 ≤ r → (r : Int) < f.2.2.1 → ¬ (Lv f 0 r ∧ (r : Int) ∉ f.2.1)) : lErr f = 0 := by
  unfold lErr; rw [if_neg]; rintro ⟨r, h1, h2, h3⟩; exact h r h1 h2 h3
theorem l12r33_ok {f : FN} {n : Nat} (hf : FOk f n) (hp : f.2.1.length ≤ maxLen) (hb0 : 0 < (bls f).length) {B : BB} (hB : Rd f n B) (hc : Closed f (At B)) {k1 : Int → Prop} {k2 : Prop}
    (h1 : lErr f = 12 → k1 12) (h2 : lErr f = 0 → k2) : l12r33 k1 k2 1 f B := by
  have hr := hf.regs
  have hnl := hf.nle
  have hlen : 0 < B.length := by rw [hB.len]; exact hb0
  have hrow := hB.row _ (List.getElem_mem hlen)
  constructor
  intro I hI
  have key := regInd (n := n) (M := fun i => (∀ r : Nat, 1 ≤ r → r < i → ¬ (Lv f 0 r ∧ (r : Int) ∉ f.2.1)) → I (i : Int) f B) hf.pos
    (by
      intro h
      apply hI
      exact brDn (by omega) (h2 (lErr_0 fun r q1 q2 => h r q1 (by omega))))
    (by
      intro i hi1 hi ih h
      apply hI
      have hstep : ¬ (Lv f 0 i ∧ (i : Int) ∉ f.2.1) → I ((i + 1 : Nat) : Int) f B := fun hn => ih fun r q1 q2 => by
        by_cases e : r = i
        · rw [e]; exact hn
        · exact h r q1 (by omega)
      rw [wrapS (by omega)]
      have hat : At B 0 i ↔ (B[0])[i]'(by omega) = true := by
        unfold At Tr
        rw [List.getElem?_eq_getElem hlen]
        constructor
        · rintro ⟨y, e, q⟩
          obtain rfl := Option.some.inj e
          rw [List.getElem?_eq_getElem (by omega)] at q
          exact Option.some.inj q
        · exact fun q => ⟨_, rfl, by rw [List.getElem?_eq_getElem (by omega), q]⟩
      have hset : B.set 0 B[0] = B := set_self (List.getElem?_eq_getElem hlen)
      refine brD (by omega) (brD (by omega) (needNth hlen (needNth hlen (brD (by omega) (needNth (i := i) (by omega) (brB (fun e => c27_ok hp (fun q => brF rfl (hset.symm ▸ hstep fun w => w.2 q)) fun q => brT rfl (h1 (lErr_12 hi1 (by omega) ((lv_at hB hc).1 (hat.2 e)) q))) fun e => hset.symm ▸ hstep fun w => ?_))))))
      have := hat.1 ((lv_at hB hc).2 w.1)
      rw [this] at e; cases e)
  exact key fun r q1 q2 => absurd q1 (by omega)
theorem l7r36_ok {f : FN} {n : Nat} (hf : FOk f n) (hp : f.2.1.length ≤ maxLen) (hb0 : 0 < (bls f).length) {k1 : Int → Prop} {k2 : Prop}
    (h1 : lErr f = 12 → k1 12) (h2 : lErr f = 0 → k2) : l7r36 k1 k2 1 f := by
  have hr := hf.regs
  have hnl := hf.nle
  constructor
  intro I hI
  have key := regInd (n := n) (M := fun i => (∀ r : Nat, 1 ≤ r → r < i → ¬ (Lv f 0 r ∧ (r : Int) ∉ f.2.1)) → I (i : Int) f) hf.pos
    (by
      intro h
      apply hI
      exact brDn (by omega) (h2 (lErr_0 fun r q1 q2 => h r q1 (by omega))))
    (by
      intro i hi1 hi ih h
      apply hI
      have hstep : ¬ (Lv f 0 i ∧ (i : Int) ∉ f.2.1) → I ((i + 1 : Nat) : Int) f := fun hn => ih fun r q1 q2 => by
        by_cases e : r = i
        · rw [e]; exact hn
        · exact h r q1 (by omega)
      rw [wrapS (by omega)]
      refine brD (by omega) (c20_ok hf (i := 0) (a := 0) (by omega) hb0 (by decide) (fun e => brT rfl (c21_ok hp (fun q => brF rfl (hstep fun w => w.2 q)) fun q => brT rfl (h1 (lErr_12 hi1 (by omega) ((lv_nd (by omega)).2 e) q)))) fun ⟨X, hX, e⟩ => brF rfl (hstep fun w => ?_))
      exact e ((lv_nd (by omega)).1 w.1 X hX))
  exact key fun r q1 q2 => absurd q1 (by omega)
theorem fok_of {f : FN} (h1 : (bls f).length ≤ 4096) (h2 : 1 ≤ f.2.2.1) (h3 : f.2.2.1 ≤ 8192) (hz : Szf f) (h4 : bErr f.2.2.1 ((bls f).length : Int) 0 (bls f) = 0) : FOk f f.2.2.1.toNat := by
  have e : ((f.2.2.1.toNat : Nat) : Int) = f.2.2.1 := Int.toNat_of_nonneg (by omega)
  rw [← e] at h4
  refine ⟨e.symm, by omega, by omega, h1, fun b hb => ⟨?_, fun x hx => ?_⟩, fun b hb => ?_⟩
  · have := hz.ins b hb; rw [hml]; omega
  · exact ins_good (by omega) (errs_good (bErr_good h4 b hb).1 x hx)
  · exact end_good (bErr_good h4 b hb).2
theorem c12_ok {f : FN} {k : Int → Prop} (hz : Szf f) (h : k (fnErr f)) : c12 f k := by
  have hreg := hz.reg
  constructor
  unfold fnErr at h
  have hb2 : (bls f).length = f.2.2.2.1.length := rfl
  refine brP (fun e => ?_) fun e1 => brP (fun e => ?_) fun e2 => c26_ok ?_
  · rw [if_pos (by omega)] at h; exact h
  · rw [if_neg (by omega), if_pos (by omega)] at h; exact h
  rw [if_neg (by omega), if_neg (by omega)] at h
  by_cases e3 : 1 ≤ f.2.2.1 ∧ f.2.2.1 ≤ 8192
  · rw [decide_eq_true e3]
    rw [if_neg (by omega)] at h
    refine brF rfl (brE (fun e => ?_) fun e4 => ?_)
    · rw [if_pos (by omega)] at h; exact h
    · rw [if_neg (by omega)] at h
      refine l12r6_ok hz e3 (fun e5 => ?_) fun e5 => l12r15_ok hz e3 (by omega) (fun e6 => ?_) fun e6 => ?_
      · rw [if_pos e5] at h; exact h
      · rw [if_neg (fun h => h e5), if_pos e6] at h; exact h
      · rw [if_neg (fun h => h e5), if_neg (fun h => h e6)] at h
        have hf := fok_of (by omega) e3.1 e3.2 hz e6
        refine c30_ok hf fun B hB hc => l12r33_ok hf hz.par (by omega) hB hc (fun e => ?_) fun e => ?_
        · rw [e] at h; exact h
        · rw [e] at h; exact h
  · rw [decide_eq_false e3]
    rw [if_pos (by omega)] at h
    exact brT rfl h
theorem c7_ok {f : FN} {k : Int → Prop} (hz : Szf f) (h : k (fnErr f)) : c7 f k := by
  have hreg := hz.reg
  constructor
  unfold fnErr at h
  have hb2 : (bls f).length = f.2.2.2.1.length := rfl
  refine brP (fun e => ?_) fun e1 => brP (fun e => ?_) fun e2 => brP (fun e => ?_) fun e3 => brP (fun e => ?_) fun e3' => brE (fun e => ?_) fun e4 => ?_
  · rw [if_pos (by omega)] at h; exact h
  · rw [if_neg (by omega), if_pos (by omega)] at h; exact h
  · rw [if_neg (by omega), if_neg (by omega), if_pos (by omega)] at h; exact h
  · rw [if_neg (by omega), if_neg (by omega), if_pos (by omega)] at h; exact h
  · rw [if_neg (by omega), if_neg (by omega), if_neg (by omega), if_pos (by omega)] at h; exact h
  rw [if_neg (by omega), if_neg (by omega), if_neg (by omega), if_neg (by omega)] at h
  refine l7r6_ok hz (fun e5 => ?_) fun e5 => l7r19_ok hz (by omega) (by omega) (fun e6 => ?_) fun e6 => ?_
  · rw [if_pos e5] at h; exact h
  · rw [if_neg (fun h => h e5), if_pos e6] at h; exact h
  · rw [if_neg (fun h => h e5), if_neg (fun h => h e6)] at h
    have hf := fok_of (by omega) (by omega) (by omega) hz e6
    refine l7r36_ok hf hz.par (by omega) (fun e => ?_) fun e => ?_
    · rw [e] at h; exact h
    · rw [e] at h; exact h
theorem fnErr_good {f : FN} (hz : Szf f) (h : fnErr f = 0) : FOk f f.2.2.1.toNat ∧ 0 < (bls f).length := by
  unfold fnErr at h
  by_cases e1 : 6 < f.2.1.length
  · rw [if_pos e1] at h; cases h
  by_cases e2 : 4096 < (bls f).length
  · rw [if_neg e1, if_pos e2] at h; cases h
  by_cases e3 : f.2.2.1 < 1 ∨ 8192 < f.2.2.1
  · rw [if_neg e1, if_neg e2, if_pos e3] at h; cases h
  by_cases e4 : (bls f).length = 0
  · rw [if_neg e1, if_neg e2, if_neg e3, if_pos e4] at h; cases h
  rw [if_neg e1, if_neg e2, if_neg e3, if_neg e4] at h
  by_cases e5 : pErr f.2.2.1 [] f.2.1 = 0
  · rw [if_neg (fun h => h e5)] at h
    by_cases e6 : bErr f.2.2.1 ((bls f).length : Int) 0 (bls f) = 0
    · exact ⟨fok_of (by omega) (by omega) (by omega) hz e6, by omega⟩
    · rw [if_pos e6] at h; exact (e6 h).elim
  · rw [if_pos e5] at h; exact (e5 h).elim
def EndsOf (f : FN) (n : Nat) (B E : BB) (j : Nat) : Prop := E.length = j ∧ ∀ i, i < j → ∃ s b, E[i]? = some s ∧ (bls f)[i]? = some b ∧ s.length = n ∧ ∀ r, Tr s r ↔ ∃ t ∈ tos b, At B t.toNat r
theorem l31r6_ok {f : FN} {n : Nat} (hf : FOk f n) {B : BB} (hB : Rd f n B) {k : BB → BB → Prop} (h : ∀ E, EndsOf f n B E (bls f).length → k B E) : l31r6 k ((bls f).length : Int) 0 f B [] := by
  have hb := hf.ble
  constructor
  intro I hI
  have key := upInd (N := (bls f).length) (M := fun j => ∀ E, EndsOf f n B E j → I ((bls f).length : Int) (j : Int) f B E)
    (by
      intro E hE
      apply hI
      exact brDn (by omega) (h E hE))
    (by
      intro j hj ih E ⟨h1, h2⟩
      apply hI
      refine brD (by omega) (c47_ok hf hj hB.row hB.len fun s s1 s2 => brT (roomS (by omega)) ?_)
      rw [wrapS (by omega)]
      have hset : (E ++ List.replicate 1 ([] : List Bool)).set (E.length + 0) s = E ++ [s] := by simp
      rw [hset]
      refine ih _ ⟨by simp [h1], fun i hi => ?_⟩
      by_cases e : i = j
      · subst e
        exact ⟨s, _, by rw [List.getElem?_append_right (by omega), h1]; simp, List.getElem?_eq_getElem hj, s1, s2⟩
      · obtain ⟨s', b, g1, g2⟩ := h2 i (by omega)
        exact ⟨s', b, by rw [List.getElem?_append_left (by omega)]; exact g1, g2⟩)
    0 (Nat.zero_le _)
  exact key [] ⟨rfl, fun i hi => absurd hi (by omega)⟩
theorem c31_ok {f : FN} (hz : Szf f) {k : Int → BB → BB → Prop} (h1 : fnErr f ≠ 0 → k (fnErr f) [] [])
    (h2 : fnErr f = 0 → ∀ B E, Rd f f.2.2.1.toNat B → Closed f (At B) → EndsOf f f.2.2.1.toNat B E (bls f).length → k 0 B E) : c31 f k := by
  constructor
  refine c12_ok hz (brN (fun e => h1 e) fun e => ?_)
  obtain ⟨hf, _⟩ := fnErr_good hz e
  exact c30_ok hf fun B hB hc => l31r6_ok hf hB fun E hE => h2 e B E hB hc hE
theorem c20_lv {f : FN} {n : Nat} (hf : FOk f n) {r i : Nat} {k : Bool → Prop} (h0 : r ≠ 0) (hi : i < (bls f).length) (hT : Lv f i r → k true) (hF : ¬ Lv f i r → k false) : c20 f (i : Int) 0 (r : Int) k :=
  c20_ok hf (a := 0) h0 hi (by decide) (fun e => hT ((lv_nd h0).2 e)) fun ⟨X, hX, e⟩ => hF fun q => e ((lv_nd h0).1 q X hX)
theorem l5r3_ok {l : List BL} {f : FN} {k : Int → FN → Prop} (hl : l.length ≤ maxLen) (h : ∀ z, k z f) : l5r3 k 0 l (l.length : Int) 0 f := by
  have hm := hml
  constructor
  intro I hI
  have key := upInd (N := l.length) (M := fun j => ∀ z, I z l (l.length : Int) (j : Int) f)
    (fun z => hI _ _ _ _ _ (brDn (by omega) (h z)))
    (fun j hj ih z => hI _ _ _ _ _ (brD (by omega) (needAt hj (by rw [wrapS (by omega)]; exact ih _))))
    0 (Nat.zero_le _)
  exact key 0
theorem c5_ok {f : FN} {k : Bool → Prop} (hl : (bls f).length ≤ maxLen) (h1 : k true) (h2 : k false) : c5 f k := by
  constructor
  refine l5r3_ok (l := bls f) hl fun z => brA (brA ?_ h2) h2
  cases decide (z ≤ 60) with
  | true => exact h1
  | false => exact h2
abbrev same1 : FN := (0, [1], 2, [([], (0, 0, 1, 0, 0, [], ()), ())], ())
theorem same1_sz : Szf same1 := by
  refine ⟨by decide, by decide, fun b hb => ?_, fun b hb x hx => ?_, fun b hb => ?_⟩ <;> obtain rfl := List.mem_singleton.1 hb
  · decide
  · cases hx
  · decide
theorem same1_lv {r : Nat} : Lv same1 0 r ↔ r = 1 := by
  constructor
  · intro h
    have := h (fun i r => r = 1) fun i r hr => by
      obtain ⟨b, hb, h0, hl⟩ := hr
      have hb2 : b ∈ bls same1 := List.mem_of_getElem? hb
      obtain rfl := List.mem_singleton.1 hb2
      rcases hl with ⟨t, ht, _⟩ | hl
      · cases ht
      · have := (mem_ends h0).1 hl
        dsimp at this
        omega
    exact this
  · rintro rfl
    intro X hX
    exact hX _ _ ⟨_, rfl, by decide, .inr ((mem_ends (by decide)).2 (.inl rfl))⟩
theorem same1_err : fnErr same1 = 0 := by
  unfold fnErr
  rw [if_neg (by decide), if_neg (by decide), if_neg (by decide), if_neg (by decide)]
  have e1 : pErr same1.2.2.1 [] same1.2.1 = 0 := by
    show (if (1 : Int) < 1 ∨ (2 : Int) ≤ 1 then (6 : Int) else if (1 : Int) ∈ ([] : List Int) then 7 else 0) = 0
    rw [if_neg (by decide), if_neg (by decide)]
  have e2 : bErr same1.2.2.1 ((bls same1).length : Int) 0 (bls same1) = 0 := by
    show bErr 2 1 0 [(([] : List VI), ((0, 0, 1, 0, 0, [], ()) : VI), ())] = 0
    have e3 : endErr 2 1 ((0, 0, 1, 0, 0, [], ()) : VI) = 0 := by
      unfold endErr
      rw [if_neg (by decide), if_neg (fun h => h (.inl (by decide))), if_neg (by unfold ebad; decide), if_neg (by rintro ⟨t, ht, _⟩; cases ht)]
    rw [bErr, if_neg (by decide)]
    rw [if_neg (fun h => h rfl), if_neg (fun h => h e3)]
    rfl
  rw [if_neg (fun h => h e1), if_neg (fun h => h e2)]
  refine lErr_0 fun r h1 h2 h3 => h3.2 ?_
  have := same1_lv.1 h3.1
  subst this
  exact List.mem_singleton.2 rfl
theorem tr_get {s : List Bool} {r : Nat} (hr : r < s.length) : Tr s r ↔ s[r] = true := by
  unfold Tr
  rw [List.getElem?_eq_getElem hr]
  exact ⟨fun q => Option.some.inj q, fun q => by rw [q]⟩
theorem bool_eq {a : Bool} (h : ¬ a = true) : a = false := by simpa using h
theorem brAA {a : Nat} {x y : Prop} (h : x) : br ((decide (a = a)) && true) x y := brT (by simp) h
structure Sq (n : Nat) (R : BB) : Prop where
  len : R.length = n
  row : ∀ y ∈ R, y.length = n
theorem Sq.get {n : Nat} {R : BB} (h : Sq n R) {i : Nat} (hi : i < R.length) : (R[i]).length = n := h.row _ (List.getElem_mem hi)
theorem Sq.set {n : Nat} {R : BB} (h : Sq n R) {i : Nat} {y : List Bool} (hy : y.length = n) : Sq n (R.set i y) := by
  refine ⟨by simp [h.len], fun z hz => ?_⟩
  rcases List.mem_or_eq_of_mem_set hz with hz | rfl
  · exact h.row z hz
  · exact hy
theorem at_here {R : BB} {i j : Nat} (hi : i < R.length) : At R i j ↔ Tr R[i] j := by
  unfold At
  rw [List.getElem?_eq_getElem hi]
  exact ⟨fun ⟨y, e, q⟩ => (Option.some.inj e) ▸ q, fun q => ⟨_, rfl, q⟩⟩
theorem add_at {n d b : Nat} {R : BB} (hR : Sq n R) (hd : d < R.length) (hb : b < R.length) (hne : d ≠ b) :
    Sq n ((R.set b (R[b].set d true)).set d (R[d].set b true)) ∧ ∀ i j, At ((R.set b (R[b].set d true)).set d (R[d].set b true)) i j ↔ At R i j ∨ ((i = d ∧ j = b) ∨ (i = b ∧ j = d)) := by
  have h1 := hR.get hd
  have h2 := hR.get hb
  have h3 := hR.len
  refine ⟨(hR.set (by simp [h2])).set (by simp [h1]), fun i j => ?_⟩
  rw [at_set (by simp; omega), at_set hb, tr_set (by omega), tr_set (by omega)]
  by_cases e1 : i = d
  · subst e1
    rw [at_here hd]
    constructor
    · rintro (⟨_, ⟨e, _⟩ | ⟨_, e⟩⟩ | ⟨e, _⟩)
      · exact .inr (.inl ⟨rfl, e⟩)
      · exact .inl e
      · exact absurd rfl e
    · rintro (e | ⟨_, e⟩ | ⟨e, _⟩)
      · left
        refine ⟨rfl, ?_⟩
        by_cases q : j = b
        · exact .inl ⟨q, rfl⟩
        · exact .inr ⟨q, e⟩
      · exact .inl ⟨rfl, .inl ⟨e, rfl⟩⟩
      · exact absurd e hne
  · by_cases e2 : i = b
    · subst e2
      rw [at_here hb]
      constructor
      · rintro (⟨e, _⟩ | ⟨_, ⟨_, ⟨e, _⟩ | ⟨_, e⟩⟩ | ⟨e, _⟩⟩)
        · exact absurd e e1
        · exact .inr (.inr ⟨rfl, e⟩)
        · exact .inl e
        · exact absurd rfl e
      · rintro (e | ⟨e, _⟩ | ⟨_, e⟩)
        · refine .inr ⟨e1, .inl ⟨rfl, ?_⟩⟩
          by_cases q : j = d
          · exact .inl ⟨q, rfl⟩
          · exact .inr ⟨q, e⟩
        · exact absurd e e1
        · exact .inr ⟨e1, .inl ⟨rfl, .inl ⟨e, rfl⟩⟩⟩
    · constructor
      · rintro (⟨e, _⟩ | ⟨_, ⟨e, _⟩ | ⟨_, e⟩⟩)
        · exact absurd e e1
        · exact absurd e e2
        · exact .inl e
      · rintro (e | ⟨e, _⟩ | ⟨e, _⟩)
        · exact .inr ⟨e1, .inr ⟨e2, e⟩⟩
        · exact absurd e e1
        · exact absurd e e2
def Pr (d b i j : Nat) : Prop := d ≠ b ∧ d ≠ 0 ∧ b ≠ 0 ∧ ((i = d ∧ j = b) ∨ (i = b ∧ j = d))
theorem c38_ok {n d b : Nat} {R : BB} {A1 A2 : List Bool} {M : LM} {k : BB → List Bool → List Bool → LM → Prop} (hR : Sq n R) (hd : d < n) (hb : b < n)
    (h : ∀ R', Sq n R' → (∀ i j, At R' i j ↔ At R i j ∨ Pr d b i j) → k R' A1 A2 M) : c38 (d : Int) (b : Int) R A1 A2 M k := by
  have hl := hR.len
  have hd' : d < R.length := by omega
  have hb' : b < R.length := by omega
  have h1 := hR.get hd'
  have h2 := hR.get hb'
  have same : (d = b ∨ d = 0 ∨ b = 0) → k R A1 A2 M := fun e => h R hR fun i j => ⟨.inl, fun q => q.elim id fun q => by obtain ⟨q1, q2, q3, _⟩ := q; omega⟩
  constructor
  rw [Int.toNat_natCast, Int.toNat_natCast]
  refine brN (fun e1 => brN (fun e2 => brN (fun e3 => ?_) fun e3 => same (by omega)) fun e2 => same (by omega)) fun e1 => same (by omega)
  have hne : d ≠ b := by omega
  refine brD (by omega) (brD (by omega) ⟨?_, ?_⟩)
  · repeat' (first | refine brT rfl ?_ | refine brT (eqT_self _ _) ?_ | refine brAA ?_ | (refine brD ?_ ?_; focus omega) | (refine brDn ?_ ?_; focus omega) | (refine needNth ?_ ?_; focus omega))
    obtain ⟨g1, g2⟩ := add_at hR hd' hb' hne
    exact h _ g1 fun i j => by rw [g2 i j]; unfold Pr; exact ⟨fun q => q.imp id fun q => ⟨hne, by omega, by omega, q⟩, fun q => q.imp id fun q => q.2.2.2⟩
  · repeat' (first | refine brT rfl ?_ | refine brT (eqT_self _ _) ?_ | refine brAA ?_ | (refine brD ?_ ?_; focus omega) | (refine brDn ?_ ?_; focus omega) | (refine needNth ?_ ?_; focus omega))
    obtain ⟨g1, g2⟩ := add_at hR hb' hd' (fun e => hne e.symm)
    exact h _ g1 fun i j => by rw [g2 i j]; unfold Pr; exact ⟨fun q => q.imp id fun q => ⟨hne, by omega, by omega, q.symm⟩, fun q => q.imp id fun q => q.2.2.2.symm⟩
theorem c35_ok {n d e : Nat} {l : List Bool} {R : BB} {A1 A2 : List Bool} {M : LM} {k : BB → List Bool → List Bool → LM → Prop} (hn : n ≤ 8192) (hR : Sq n R) (hl : l.length = n) (hd : d < n)
    (h : ∀ R', Sq n R' → (∀ i j, At R' i j ↔ At R i j ∨ ∃ r, Tr l r ∧ r ≠ e ∧ Pr d r i j) → k R' A1 A2 M) : c35 (d : Int) (e : Int) l R A1 A2 M k := by
  constructor
  constructor
  intro I hI
  have key := upInd (N := l.length) (M := fun m => ∀ R', Sq n R' → (∀ i j, At R' i j ↔ At R i j ∨ ∃ r, r < m ∧ Tr l r ∧ r ≠ e ∧ Pr d r i j) → I (d : Int) (e : Int) l (l.length : Int) (m : Int) R' A1 A2 M)
    (by
      intro R' h1 h2
      apply hI
      refine brDn (by omega) (h R' h1 fun i j => ?_)
      rw [h2 i j]
      exact ⟨fun q => q.imp id fun ⟨r, _, q⟩ => ⟨r, q⟩, fun q => q.imp id fun ⟨r, q⟩ => ⟨r, tr_lt q.1, q⟩⟩)
    (by
      intro m hm ih R' h1 h2
      apply hI
      have hT : Tr l m ↔ l[m] = true := tr_get hm
      have same : (¬ (Tr l m ∧ m ≠ e)) → I (d : Int) (e : Int) l (l.length : Int) ((m + 1 : Nat) : Int) R' A1 A2 M := fun hn => ih R' h1 fun i j => by
        rw [h2 i j]
        refine ⟨fun q => q.imp id fun ⟨r, q1, q⟩ => ⟨r, by omega, q⟩, fun q => q.imp id fun ⟨r, q1, q2, q3, q⟩ => ⟨r, ?_, q2, q3, q⟩⟩
        by_cases e : r = m
        · subst e; exact (hn ⟨q2, q3⟩).elim
        · omega
      rw [wrapS (by omega)]
      refine brD (by omega) (needAt hm (brB (fun q => brN (fun q2 => ?_) fun q2 => same fun w => w.2 (by omega)) fun q => same fun w => by rw [hT.1 w.1] at q; cases q))
      refine c38_ok h1 hd (by omega) fun R2 g1 g2 => ih R2 g1 fun i j => ?_
      rw [g2 i j, h2 i j]
      constructor
      · rintro ((w | ⟨r, w1, w2⟩) | w)
        · exact .inl w
        · exact .inr ⟨r, by omega, w2⟩
        · exact .inr ⟨m, by omega, hT.2 q, by omega, w⟩
      · rintro (w | ⟨r, w1, w2⟩)
        · exact .inl (.inl w)
        · by_cases e : r = m
          · subst e; exact .inr w2.2.2
          · exact .inl (.inr ⟨r, by omega, w2⟩))
    0 (Nat.zero_le _)
  exact key R hR fun i j => ⟨.inl, fun q => q.elim id fun ⟨r, q, _⟩ => absurd q (by omega)⟩
theorem c32_ok {n : Nat} {l A2 A1 : List Bool} {R : BB} {M : LM} {rs : List Int} {k : List Bool → BB → List Bool → List Bool → LM → Prop} (hrs : rs.length ≤ maxLen) (hr : InR n rs) (hl : l.length = n) (hA : A2.length = n)
    (h : ∀ l' A', l'.length = n → (∀ r, Tr l' r ↔ Tr l r ∨ (r : Int) ∈ rs) → A'.length = n → (∀ r, Tr A' r ↔ Tr A2 r ∨ (r : Int) ∈ rs) → k l' R A1 A' M) : c32 rs l R A1 A2 M k := by
  have hm := hml
  constructor
  constructor
  intro I hI
  have key := upInd (N := rs.length) (M := fun m => ∀ l' A', l'.length = n → (∀ r, Tr l' r ↔ Tr l r ∨ (r : Int) ∈ rs.take m) → A'.length = n → (∀ r, Tr A' r ↔ Tr A2 r ∨ (r : Int) ∈ rs.take m) → I rs (rs.length : Int) (m : Int) l' R A1 A' M)
    (by
      intro l' A' h1 h2 h3 h4
      apply hI
      rw [List.take_length] at h2 h4
      exact brDn (by omega) (h l' A' h1 h2 h3 h4))
    (by
      intro m hm ih l' A' h1 h2 h3 h4
      apply hI
      have hrm := hr _ (List.getElem_mem hm)
      obtain ⟨p, hp⟩ : ∃ p : Nat, rs[m] = (p : Int) := ⟨rs[m].toNat, by omega⟩
      have fin : I rs (rs.length : Int) ((m + 1 : Nat) : Int) (l'.set p true) R A1 (A'.set p true) M := by
        have one : ∀ s : List Bool, s.length = n → ∀ s0 : List Bool, (∀ r, Tr s r ↔ Tr s0 r ∨ (r : Int) ∈ rs.take m) → ∀ r, Tr (s.set p true) r ↔ Tr s0 r ∨ (r : Int) ∈ rs.take (m + 1) := by
          intro s hs s0 h0 r
          rw [tr_set (by omega), mem_take_succ hm, h0 r, hp]
          constructor
          · rintro (⟨q, _⟩ | ⟨_, q | q⟩)
            · exact .inr (.inr (by rw [q]))
            · exact .inl q
            · exact .inr (.inl q)
          · rintro (q | q | q)
            · by_cases e : r = p
              · exact .inl ⟨e, rfl⟩
              · exact .inr ⟨e, .inl q⟩
            · by_cases e : r = p
              · exact .inl ⟨e, rfl⟩
              · exact .inr ⟨e, .inr q⟩
            · exact .inl ⟨by omega, rfl⟩
        exact ih _ _ (by simp [h1]) (one l' h1 l h2) (by simp [h3]) (one A' h3 A2 h4)
      rw [wrapS (by omega)]
      refine brD (by omega) (needAt hm ?_)
      rw [hp, Int.toNat_natCast]
      rw [hp] at hrm
      constructor
      · repeat' (first | refine brT rfl ?_ | refine brT (eqT_self _ _) ?_ | refine brAA ?_ | (refine brD ?_ ?_; focus omega) | (refine brDn ?_ ?_; focus omega) | (refine needNth ?_ ?_; focus omega))
        exact fin
      · repeat' (first | refine brT rfl ?_ | refine brT (eqT_self _ _) ?_ | refine brAA ?_ | (refine brD ?_ ?_; focus omega) | (refine brDn ?_ ?_; focus omega) | (refine needNth ?_ ?_; focus omega))
        exact fin)
    0 (Nat.zero_le _)
  exact key l A2 hl (fun r => by simp) hA (fun r => by simp)
theorem l13r26_ok {n : Nat} {l A1 A2 : List Bool} {R C D : BB} {M : LM} {s1 s3 s4 : Int} {s2 : List BL} {f : FN} {s14 : Nat} {b : BL} {x : VI}
    {k : Int → List BL → Int → Int → FN → BB → List Bool → List Bool → LM → BB → BB → Nat → List Bool → BL → VI → Prop} (hn : n ≤ 8192) (hl : l.length = n) (hA : A1.length = n)
    (h : ∀ A', A'.length = n → (∀ r, Tr A' r ↔ Tr A1 r ∨ Tr l r) → k s1 s2 s3 s4 f R A' A2 M C D s14 l b x) : l13r26 k s1 s2 s3 s4 (l.length : Int) 0 f R A1 A2 M C D s14 l b x := by
  constructor
  intro I hI
  have key := upInd (N := l.length) (M := fun m => ∀ A', A'.length = n → (∀ r, Tr A' r ↔ Tr A1 r ∨ (Tr l r ∧ r < m)) → I s1 s2 s3 s4 (l.length : Int) (m : Int) f R A' A2 M C D s14 l b x)
    (by
      intro A' h1 h2
      apply hI
      refine brDn (by omega) (h A' h1 fun r => ?_)
      rw [h2 r]
      exact ⟨fun q => q.imp id And.left, fun q => q.imp id fun q => ⟨q, tr_lt q⟩⟩)
    (by
      intro m hm ih A' h1 h2
      apply hI
      have hm' : m < A'.length := by omega
      have e1 : Tr l m ↔ l[m] = true := tr_get hm
      have e2 : Tr A' m ↔ A'[m] = true := tr_get hm'
      have finT : A'[m] = true → I s1 s2 s3 s4 (l.length : Int) ((m + 1 : Nat) : Int) f R (A'.set m true) A2 M C D s14 l b x := fun q => ih _ (by simp [h1]) fun r => by
        rw [tr_set hm', h2 r]
        have q' := (h2 m).1 (e2.2 q)
        constructor
        · rintro (⟨rfl, _⟩ | ⟨_, w | w⟩)
          · exact q'.imp id fun w => ⟨w.1, by omega⟩
          · exact .inl w
          · exact .inr ⟨w.1, by omega⟩
        · intro w
          by_cases e : r = m
          · exact .inl ⟨e, rfl⟩
          · exact .inr ⟨e, w.imp id fun w => ⟨w.1, by omega⟩⟩
      have finF : ¬ A'[m] = true → I s1 s2 s3 s4 (l.length : Int) ((m + 1 : Nat) : Int) f R (A'.set m l[m]) A2 M C D s14 l b x := fun q => ih _ (by simp [h1]) fun r => by
        have q' : ¬ Tr A1 m := fun w => q (e2.1 ((h2 m).2 (.inl w)))
        rw [tr_set hm', h2 r]
        constructor
        · rintro (⟨rfl, w⟩ | ⟨_, w | w⟩)
          · exact .inr ⟨e1.2 w, by omega⟩
          · exact .inl w
          · exact .inr ⟨w.1, by omega⟩
        · intro w
          by_cases e : r = m
          · subst e
            rcases w with w | w
            · exact (q' w).elim
            · exact .inl ⟨rfl, e1.1 w.1⟩
          · exact .inr ⟨e, w.imp id fun w => ⟨w.1, by omega⟩⟩
      rw [wrapS (by omega), Int.toNat_natCast]
      refine brD (by omega) (brD (by omega) (needNth hm ?_))
      constructor
      · repeat' (first | refine brT rfl ?_ | refine brT (eqT_self _ _) ?_ | refine brAA ?_ | (refine brD ?_ ?_; focus omega) | (refine brDn ?_ ?_; focus omega) | (refine needNth ?_ ?_; focus omega))
        refine brB (fun q => ?_) fun q => ?_
        · repeat' (first | refine brT rfl ?_ | refine brT (eqT_self _ _) ?_ | refine brAA ?_ | (refine brD ?_ ?_; focus omega) | (refine brDn ?_ ?_; focus omega) | (refine needNth ?_ ?_; focus omega))
          exact finT q
        · repeat' (first | refine brT rfl ?_ | refine brT (eqT_self _ _) ?_ | refine brAA ?_ | (refine brD ?_ ?_; focus omega) | (refine brDn ?_ ?_; focus omega) | (refine needNth ?_ ?_; focus omega))
          exact finF (by rw [q]; decide)
      · repeat' (first | refine brT rfl ?_ | refine brT (eqT_self _ _) ?_ | refine brAA ?_ | (refine brD ?_ ?_; focus omega) | (refine brDn ?_ ?_; focus omega) | (refine needNth ?_ ?_; focus omega))
        refine brB (fun q => ?_) fun q => ?_
        · repeat' (first | refine brT rfl ?_ | refine brT (eqT_self _ _) ?_ | refine brAA ?_ | (refine brD ?_ ?_; focus omega) | (refine brDn ?_ ?_; focus omega) | (refine needNth ?_ ?_; focus omega))
          refine brT (by rw [q]; rfl) ?_
          repeat' (first | refine brT rfl ?_ | refine brT (eqT_self _ _) ?_ | refine brAA ?_ | (refine brD ?_ ?_; focus omega) | (refine brDn ?_ ?_; focus omega) | (refine needNth ?_ ?_; focus omega))
          exact finT q
        · repeat' (first | refine brT rfl ?_ | refine brT (eqT_self _ _) ?_ | refine brAA ?_ | (refine brD ?_ ?_; focus omega) | (refine brDn ?_ ?_; focus omega) | (refine needNth ?_ ?_; focus omega))
          refine brT (by rw [q]; rfl) ?_
          repeat' (first | refine brT rfl ?_ | refine brT (eqT_self _ _) ?_ | refine brAA ?_ | (refine brD ?_ ?_; focus omega) | (refine brDn ?_ ?_; focus omega) | (refine needNth ?_ ?_; focus omega))
          exact finF (by rw [q]; decide))
    0 (Nat.zero_le _)
  exact key A1 hA fun r => ⟨.inl, fun q => q.elim id fun q => absurd q.2 (by omega)⟩
def Cl (x : VI) : Prop := x.1 = 101 ∨ x.1 = 102
theorem c36_ok {x : VI} {k : Bool → Prop} (h1 : Cl x → k true) (h2 : ¬ Cl x → k false) : c36 x.1 k := by
  constructor
  refine brE (fun e => h1 (.inl e)) fun e => ?_
  cases hb : (x.1 == 102) with
  | true => exact h1 (.inr (by simpa using hb))
  | false => exact h2 fun q => q.elim e fun q => by rw [q] at hb; cases hb
theorem j13r24_ok {n : Nat} {l A1 A2 : List Bool} {R C D : BB} {M : LM} {s1 s3 s4 : Int} {s2 : List BL} {f : FN} {s14 : Nat} {b : BL} {x : VI}
    {k : Int → List BL → Int → Int → FN → BB → List Bool → List Bool → LM → BB → BB → Nat → List Bool → BL → Prop} (hn : n ≤ 8192) (hl : l.length = n) (hA : A1.length = n) (hA2 : A2.length = n) (hx : VOk n x)
    (h : ∀ l' A1' A2', l'.length = n → (∀ r : Nat, Tr l' r ↔ Tr l r ∨ (r : Int) ∈ uses x) → A1'.length = n → (∀ r, Tr A1' r ↔ Tr A1 r ∨ (Cl x ∧ Tr l r)) → A2'.length = n → (∀ r : Nat, Tr A2' r ↔ Tr A2 r ∨ (r : Int) ∈ uses x) →
      k s1 s2 s3 s4 f R A1' A2' M C D s14 l' b) : j13r24 k s1 s2 s3 s4 f R A1 A2 M C D s14 l b x := by
  have hm := hml
  obtain ⟨v1, v2, v3, v4⟩ := hx
  have hu := uses_len (x := x)
  constructor
  have mk : ∀ A1', A1'.length = n → (∀ r, Tr A1' r ↔ Tr A1 r ∨ (Cl x ∧ Tr l r)) → c37 x
     (fun z32 => c32 z32 l R A1' A2 M (fun z33 z34 z35 z36 z37 => k s1 s2 s3 s4 f z34 z35 z36 z37 C D s14 z33 b))
     (fun z38 z39 z40 z41 => c32 (List.take z39 (List.drop z38 z41)) l R A1' A2 M (fun z42 z43 z44 z45 z46 => k s1 s2 s3 s4 f z43 z44 z45 z46 C D s14 z42 b)) := by
    intro A1' q1 q2
    refine c37_ok v1 (c32_ok (by omega) v2 hl hA2 fun l' A' w1 w2 w3 w4 => h l' A1' A' w1 w2 q1 q2 w3 w4) fun len cap row hs => ?_
    have e : List.take len (List.drop 0 row) = uses x := by rw [List.drop_zero]; exact hs.2.2.2
    rw [e]
    exact c32_ok (by omega) v2 hl hA2 fun l' A' w1 w2 w3 w4 => h l' A1' A' w1 w2 q1 q2 w3 w4
  refine c36_ok (fun hc => brT rfl ?_) fun hc => brF rfl ?_
  · exact l13r26_ok hn hl hA fun A' q1 q2 => mk A' q1 fun r => by rw [q2 r]; exact ⟨fun q => q.imp id fun q => ⟨hc, q⟩, fun q => q.imp id And.right⟩
  · exact mk A1 hA fun r => ⟨.inl, fun q => q.elim id fun q => (hc q.1).elim⟩
theorem j13r22_ok {n d e : Nat} {l A1 A2 : List Bool} {R C D : BB} {M : LM} {s1 s3 s4 : Int} {s2 : List BL} {f : FN} {s14 : Nat} {b : BL} {x : VI}
    {k : Int → List BL → Int → Int → FN → BB → List Bool → List Bool → LM → BB → BB → Nat → List Bool → BL → Prop} (hn : n ≤ 8192) (hR : Sq n R) (hl : l.length = n) (hA : A1.length = n) (hA2 : A2.length = n) (hx : VOk n x) (hd : dfn x = (d : Int))
    (h : ∀ R' l' A1' A2', Sq n R' → (∀ i j, At R' i j ↔ At R i j ∨ ∃ r, Tr l r ∧ r ≠ e ∧ Pr d r i j) → l'.length = n → (∀ r : Nat, Tr l' r ↔ (r : Int) ∈ uses x ∨ (r ≠ d ∧ Tr l r)) → A1'.length = n → (∀ r, Tr A1' r ↔ Tr A1 r ∨ (Cl x ∧ r ≠ d ∧ Tr l r)) →
      A2'.length = n → (∀ r : Nat, Tr A2' r ↔ Tr A2 r ∨ r = d ∨ (r : Int) ∈ uses x) → k s1 s2 s3 s4 f R' A1' A2' M C D s14 l' b) :
    j13r22 k s1 (d : Int) (e : Int) s2 s3 s4 f R A1 A2 M C D s14 l b x := by
  have hdn : d < n := by have := hx.2.2.2; omega
  constructor
  refine c35_ok hn hR hl hdn fun R' r1 r2 => ?_
  have fin : j13r24 (fun z24 z25 z26 z27 z28 z29 z30 z31 z32 z33 z34 z35 z36 z37 => k z24 z25 z26 z27 z28 z29 z30 z31 z32 z33 z34 z35 z36 z37) s1 s2 s3 s4 f R' A1 (A2.set d true) M C D s14 (l.set d false) b x := by
    refine j13r24_ok hn (by simp [hl]) hA (by simp [hA2]) hx fun l' A1' A2' q1 q2 q3 q4 q5 q6 => h R' l' A1' A2' r1 r2 q1 (fun r => ?_) q3 (fun r => ?_) q5 fun r => ?_
    · rw [q2 r, tr_set (by omega)]
      constructor
      · rintro ((⟨_, w⟩ | w) | w)
        · cases w
        · exact .inr w
        · exact .inl w
      · rintro (w | w)
        · exact .inr w
        · exact .inl (.inr w)
    · rw [q4 r, tr_set (by omega)]
      constructor
      · rintro (w | ⟨w, ⟨_, w2⟩ | w2⟩)
        · exact .inl w
        · cases w2
        · exact .inr ⟨w, w2⟩
      · rintro (w | ⟨w, w2⟩)
        · exact .inl w
        · exact .inr ⟨w, .inr w2⟩
    · rw [q6 r, tr_set (by omega)]
      constructor
      · rintro ((⟨w, _⟩ | ⟨_, w⟩) | w)
        · exact .inr (.inl w)
        · exact .inl w
        · exact .inr (.inr w)
      · rintro (w | w | w)
        · by_cases q : r = d
          · exact .inl (.inl ⟨q, rfl⟩)
          · exact .inl (.inr ⟨q, w⟩)
        · exact .inl (.inl ⟨w, rfl⟩)
        · exact .inr w
  rw [Int.toNat_natCast]
  refine ⟨?_, ?_⟩
  · repeat' (first | refine brT rfl ?_ | refine brT (eqT_self _ _) ?_ | refine brAA ?_ | (refine brD ?_ ?_; focus omega) | (refine brDn ?_ ?_; focus omega) | (refine needNth ?_ ?_; focus omega))
    refine ⟨?_, ?_⟩
    · repeat' (first | refine brT rfl ?_ | refine brT (eqT_self _ _) ?_ | refine brAA ?_ | (refine brD ?_ ?_; focus omega) | (refine brDn ?_ ?_; focus omega) | (refine needNth ?_ ?_; focus omega))
      exact fin
    · repeat' (first | refine brT rfl ?_ | refine brT (eqT_self _ _) ?_ | refine brAA ?_ | (refine brD ?_ ?_; focus omega) | (refine brDn ?_ ?_; focus omega) | (refine needNth ?_ ?_; focus omega))
      exact fin
  · repeat' (first | refine brT rfl ?_ | refine brT (eqT_self _ _) ?_ | refine brAA ?_ | (refine brD ?_ ?_; focus omega) | (refine brDn ?_ ?_; focus omega) | (refine needNth ?_ ?_; focus omega))
    exact fin
def Ins1 (f : FN) (i k : Nat) (x : VI) : Prop := ∃ b, (bls f)[i]? = some b ∧ b.1[k]? = some x
def La (f : FN) (i a r : Nat) : Prop := Nd f (Lv f) i a r
def Xc (x : VI) : Int := if x.1 = 100 then x.2.2.1 else 0
def Ed (f : FN) (i k a c : Nat) : Prop := ∃ x, Ins1 f i k x ∧ dfn x = (a : Int) ∧ La f i (k + 1) c ∧ (c : Int) ≠ Xc x ∧ a ≠ c ∧ a ≠ 0 ∧ c ≠ 0
def Kp (f : FN) (i k r : Nat) : Prop := ∃ x, Ins1 f i k x ∧ Cl x ∧ dfn x ≠ (r : Int) ∧ La f i (k + 1) r
def Oi (f : FN) (i k r : Nat) : Prop := ∃ x, Ins1 f i k x ∧ (dfn x = (r : Int) ∨ (r : Int) ∈ uses x)
def Mv (f : FN) (i k : Nat) (m : List Int) : Prop := ∃ x, Ins1 f i k x ∧ x.1 = 100 ∧ x.2.2.1 ≠ 0 ∧ dfn x ≠ 0 ∧ x.2.2.1 ≠ dfn x ∧ m = [dfn x, x.2.2.1]
def En (f : FN) (i r : Nat) : Prop := ∃ b, (bls f)[i]? = some b ∧ (r : Int) ∈ ends b
abbrev P2 := Nat → Nat → Prop
structure Gs (f : FN) (n : Nat) (P : P2) (Q : Nat → Prop) (N : Nat) (R : BB) (A1 A2 : List Bool) (M : LM) : Prop where
  sq : Sq n R
  rows : ∀ a c, At R a c ↔ ∃ i k, P i k ∧ (Ed f i k a c ∨ Ed f i k c a)
  l1 : A1.length = n
  slot : ∀ r, Tr A1 r ↔ ∃ i k, P i k ∧ Kp f i k r
  l2 : A2.length = n
  there : ∀ r, Tr A2 r ↔ (∃ i, Q i ∧ En f i r) ∨ ∃ i k, P i k ∧ Oi f i k r
  mv : ∀ m ∈ M, ∃ i k, P i k ∧ Mv f i k m
  cnt : M.length ≤ N
theorem ex_step {P P' X : P2} {i k : Nat} (hP : ∀ i' k', P' i' k' ↔ P i' k' ∨ (i' = i ∧ k' = k)) : (∃ i' k', P' i' k' ∧ X i' k') ↔ (∃ i' k', P i' k' ∧ X i' k') ∨ X i k := by
  constructor
  · rintro ⟨i', k', h1, h2⟩
    rcases (hP i' k').1 h1 with h | ⟨rfl, rfl⟩
    · exact .inl ⟨i', k', h, h2⟩
    · exact .inr h2
  · rintro (⟨i', k', h1, h2⟩ | h)
    · exact ⟨i', k', (hP i' k').2 (.inl h1), h2⟩
    · exact ⟨i, k, (hP i k).2 (.inr ⟨rfl, rfl⟩), h⟩
theorem Ins1.uniq {f : FN} {i k : Nat} {x y : VI} (h : Ins1 f i k x) (h2 : Ins1 f i k y) : x = y := by
  obtain ⟨b, e1, e2⟩ := h
  obtain ⟨b', e3, e4⟩ := h2
  rw [e1] at e3
  obtain rfl := Option.some.inj e3
  rw [e2] at e4
  exact Option.some.inj e4
theorem Gs.step {f : FN} {n : Nat} {P P' : P2} {Q : Nat → Prop} {N : Nat} {R R' : BB} {A1 A2 A1' A2' : List Bool} {M M' : LM} (h : Gs f n P Q N R A1 A2 M) {i k : Nat} (hP : ∀ i' k', P' i' k' ↔ P i' k' ∨ (i' = i ∧ k' = k)) {x : VI} (hx : Ins1 f i k x) {d e : Nat} (hd : dfn x = (d : Int)) (he : Xc x = (e : Int)) {l : List Bool} (hl : ∀ r, Tr l r ↔ La f i (k + 1) r)
    (h1 : Sq n R') (h2 : ∀ a c, At R' a c ↔ At R a c ∨ ∃ r, Tr l r ∧ r ≠ e ∧ Pr d r a c) (h3 : A1'.length = n) (h4 : ∀ r, Tr A1' r ↔ Tr A1 r ∨ (Cl x ∧ r ≠ d ∧ Tr l r)) (h5 : A2'.length = n) (h6 : ∀ r : Nat, Tr A2' r ↔ Tr A2 r ∨ r = d ∨ (r : Int) ∈ uses x)
    (h7 : ∀ m ∈ M', m ∈ M ∨ Mv f i k m) (h8 : M'.length ≤ M.length + 1) : Gs f n P' Q (N + 1) R' A1' A2' M' := by
  refine ⟨h1, fun a c => ?_, h3, fun r => ?_, h5, fun r => ?_, fun m hm => ?_, by have := h.cnt; omega⟩
  · rw [h2 a c, h.rows a c, ex_step hP]
    refine or_congr Iff.rfl ?_
    constructor
    · rintro ⟨r, q1, q2, q3, q4, q5, ⟨rfl, rfl⟩ | ⟨rfl, rfl⟩⟩
      · exact .inl ⟨x, hx, hd, (hl _).1 q1, by rw [he]; omega, q3, q4, q5⟩
      · exact .inr ⟨x, hx, hd, (hl _).1 q1, by rw [he]; omega, q3, q4, q5⟩
    · rintro (⟨y, hy, q1, q2, q3, q4, q5, q6⟩ | ⟨y, hy, q1, q2, q3, q4, q5, q6⟩) <;> obtain rfl := hx.uniq hy
      · have : d = a := by omega
        subst this
        exact ⟨c, (hl c).2 q2, by rw [he] at q3; omega, q4, q5, q6, .inl ⟨rfl, rfl⟩⟩
      · have : d = c := by omega
        subst this
        exact ⟨a, (hl a).2 q2, by rw [he] at q3; omega, q4, q5, q6, .inr ⟨rfl, rfl⟩⟩
  · rw [h4 r, h.slot r, ex_step hP]
    refine or_congr Iff.rfl ?_
    constructor
    · rintro ⟨q1, q2, q3⟩
      exact ⟨x, hx, q1, by rw [hd]; omega, (hl r).1 q3⟩
    · rintro ⟨y, hy, q1, q2, q3⟩
      obtain rfl := hx.uniq hy
      exact ⟨q1, by rw [hd] at q2; omega, (hl r).2 q3⟩
  · rw [h6 r, h.there r, ex_step hP, or_assoc]
    refine or_congr Iff.rfl (or_congr Iff.rfl ?_)
    constructor
    · rintro (q | q)
      · exact ⟨x, hx, .inl (by rw [hd, q])⟩
      · exact ⟨x, hx, .inr q⟩
    · rintro ⟨y, hy, q⟩
      obtain rfl := hx.uniq hy
      rcases q with q | q
      · exact .inl (by omega)
      · exact .inr q
  · rw [ex_step (X := fun i k => Mv f i k m) hP]
    rcases h7 m hm with q | q
    · exact .inl (h.mv m q)
    · exact .inr q
theorem Gs.congr {f : FN} {n : Nat} {P P' : P2} {Q Q' : Nat → Prop} {N N' : Nat} {R : BB} {A1 A2 : List Bool} {M : LM} (h : Gs f n P Q N R A1 A2 M) (hP : ∀ i k x, Ins1 f i k x → (P i k ↔ P' i k)) (hQ : ∀ i b, (bls f)[i]? = some b → (Q i ↔ Q' i)) (hN : N ≤ N') : Gs f n P' Q' N' R A1 A2 M := by
  have ex : ∀ {X : P2}, (∀ i k, X i k → ∃ x, Ins1 f i k x) → ((∃ i k, P i k ∧ X i k) ↔ ∃ i k, P' i k ∧ X i k) := fun hX =>
    ⟨fun ⟨i, k, h1, h2⟩ => by obtain ⟨x, hx⟩ := hX i k h2; exact ⟨i, k, (hP i k x hx).1 h1, h2⟩, fun ⟨i, k, h1, h2⟩ => by obtain ⟨x, hx⟩ := hX i k h2; exact ⟨i, k, (hP i k x hx).2 h1, h2⟩⟩
  have eq : ∀ r, (∃ i, Q i ∧ En f i r) ↔ ∃ i, Q' i ∧ En f i r := fun r =>
    ⟨fun ⟨i, h1, h2⟩ => by obtain ⟨b, hb, _⟩ := id h2; exact ⟨i, (hQ i b hb).1 h1, h2⟩, fun ⟨i, h1, h2⟩ => by obtain ⟨b, hb, _⟩ := id h2; exact ⟨i, (hQ i b hb).2 h1, h2⟩⟩
  refine ⟨h.sq, fun a c => ?_, h.l1, fun r => ?_, h.l2, fun r => ?_, fun m hm => ?_, by have := h.cnt; omega⟩
  · rw [h.rows a c]
    exact ex fun i k q => q.elim (fun ⟨x, hx, _⟩ => ⟨x, hx⟩) fun ⟨x, hx, _⟩ => ⟨x, hx⟩
  · rw [h.slot r]
    exact ex fun i k ⟨x, hx, _⟩ => ⟨x, hx⟩
  · rw [h.there r, eq r]
    exact or_congr Iff.rfl (ex fun i k ⟨x, hx, _⟩ => ⟨x, hx⟩)
  · exact (ex fun i k ⟨x, hx, _⟩ => ⟨x, hx⟩).1 (h.mv m hm)
def Pb (i j : Nat) : P2 := fun i' k => i' < i ∨ (i' = i ∧ j ≤ k)
theorem Xc_nat {n : Nat} {x : VI} (hx : VOk n x) (hn : 0 < n) : ∃ e : Nat, Xc x = (e : Int) := by
  have hA : 0 ≤ x.2.2.1 := by
    by_cases h : x.2.2.1 = 0
    · omega
    · exact (hx.2.1 x.2.2.1 (by unfold uses; simp [h])).1
  unfold Xc
  split
  · exact ⟨x.2.2.1.toNat, by omega⟩
  · exact ⟨0, rfl⟩
theorem l13r14_ok {f : FN} {n : Nat} (hf : FOk f n) {i : Nat} {b : BL} (hb : (bls f)[i]? = some b) {R C D : BB} {A1 A2 l : List Bool} {M : LM} {s3 s4 : Int} {s2 : List BL} {N : Nat} {Q : Nat → Prop} {k : List BL → Int → Int → FN → BB → List Bool → List Bool → LM → BB → BB → Prop}
    (hN : N + b.1.length ≤ 8192) (hl : l.length = n) (hL : ∀ r, Tr l r ↔ La f i b.1.length r) (h0 : Gs f n (Pb i b.1.length) Q N R A1 A2 M)
    (h : ∀ R' A1' A2' M' l', Gs f n (Pb i 0) Q (N + b.1.length) R' A1' A2' M' → l'.length = n → k s2 s3 s4 f R' A1' A2' M' C (D.set i l')) :
    l13r14 k (((b.1.length : Nat) : Int) - 1) s2 s3 s4 f R A1 A2 M C D i l b := by
  have hm := hml
  have hnl := hf.nle
  obtain ⟨i1, i2⟩ := hf.ins b (List.mem_of_getElem? hb)
  constructor
  intro I hI
  have key : ∀ j, j ≤ b.1.length → ∀ R' A1' A2' M' l', Gs f n (Pb i j) Q (N + (b.1.length - j)) R' A1' A2' M' → l'.length = n → (∀ r, Tr l' r ↔ La f i j r) → I ((j : Int) - 1) s2 s3 s4 f R' A1' A2' M' C D i l' b := by
    intro j
    induction j with
    | zero =>
      intro _ R' A1' A2' M' l' q1 q2 q3
      apply hI
      exact brDn (by omega) (h R' A1' A2' M' l' q1 q2)
    | succ j ih =>
      intro hj R' A1' A2' M' l' q1 q2 q3
      apply hI
      have hjl : j < b.1.length := by omega
      have hx := i2 _ (List.getElem_mem hjl)
      have hIns : Ins1 f i j b.1[j] := ⟨b, hb, List.getElem?_eq_getElem hjl⟩
      have e : (((j + 1 : Nat) : Int) - 1) = (j : Int) := by omega
      rw [e]
      have hc := q1.cnt
      obtain ⟨d, hd⟩ : ∃ d : Nat, dfn b.1[j] = (d : Int) := ⟨(dfn b.1[j]).toNat, by have := hx.2.2.1; omega⟩
      obtain ⟨e0, he0⟩ := Xc_nat hx hf.pos
      have fin : ∀ M2 : LM, (∀ m ∈ M2, m ∈ M' ∨ Mv f i j m) → M2.length ≤ M'.length + 1 →
          j13r22 (fun z17 z18 z19 z20 z21 z22 z23 z24 z25 z26 z27 z28 z29 z30 => I (IntKind.wrap .i64 (z17 - 1)) z18 z19 z20 z21 z22 z23 z24 z25 z26 z27 z28 z29 z30) (j : Int) (d : Int) (e0 : Int) s2 s3 s4 f R' A1' A2' M2 C D i l' b b.1[j] := by
        intro M2 w1 w2
        refine j13r22_ok (by omega) q1.sq q2 q1.l1 q1.l2 hx hd fun R3 l993 A13 A23 r1 r2 r3 r4 r5 r6 r7 r8 => ?_
        show I (IntKind.wrap .i64 ((j : Int) - 1)) s2 s3 s4 f R3 A13 A23 M2 C D i l993 b
        rw [wrap64 (by omega) (by omega)]
        refine ih (by omega) R3 A13 A23 M2 l993 ?_ r3 fun r => ?_
        · have := q1.step (P' := Pb i j) (i := i) (k := j) (fun i' k' => by unfold Pb; omega) hIns hd he0 q3 r1 r2 r5 r6 r7 r8 w1 w2
          have e2 : N + (b.1.length - (j + 1)) + 1 = N + (b.1.length - j) := by omega
          rw [e2] at this
          exact this
        · rw [r4 r, q3 r]
          unfold La Nd
          constructor
          · intro w
            refine ⟨b, hb, ?_⟩
            rw [drop_cons hjl]
            rcases w with w | ⟨w1, b', w2, w3⟩
            · exact .inl w
            · rw [hb] at w2
              obtain rfl := Option.some.inj w2
              exact .inr ⟨by rw [hd]; omega, w3⟩
          · rintro ⟨b', w2, w3⟩
            rw [hb] at w2
            obtain rfl := Option.some.inj w2
            rw [drop_cons hjl] at w3
            rcases w3 with w3 | ⟨w3, w4⟩
            · exact .inl w3
            · exact .inr ⟨by rw [hd] at w3; omega, b, hb, w4⟩
      have sameM : ∀ {E : Int}, E = (e0 : Int) → ∀ D0 : Int, D0 = (d : Int) → j13r22 (fun z17 z18 z19 z20 z21 z22 z23 z24 z25 z26 z27 z28 z29 z30 => I (IntKind.wrap .i64 (z17 - 1)) z18 z19 z20 z21 z22 z23 z24 z25 z26 z27 z28 z29 z30) (j : Int) D0 E s2 s3 s4 f R' A1' A2' M' C D i l' b b.1[j] := by
        rintro E rfl D0 rfl
        exact fin M' (fun m hm => .inl hm) (by omega)
      refine brD (by omega) (needAt hjl (c34_ok (brE (fun p1 => ?_) fun p1 => sameM (by unfold Xc at he0; rw [if_neg p1] at he0; exact he0) _ hd)))
      have hA : b.1[j].2.2.1 = (e0 : Int) := by unfold Xc at he0; rw [if_pos p1] at he0; exact he0
      refine brN (fun p2 => brN (fun p3 => brN (fun p4 => ?_) fun p4 => sameM hA _ hd) fun p3 => sameM hA _ hd) fun p2 => sameM hA _ hd
      refine brT rfl (brT rfl (brT rfl (brT rfl (brT (roomS (by omega)) (brT rfl ?_)))))
      have := fin (M' ++ [[dfn b.1[j], b.1[j].2.2.1]]) (fun m hm => ?_) (by simp)
      · rw [hd, hA] at this ⊢
        exact this
      · rcases List.mem_append.1 hm with hm | hm
        · exact .inl hm
        · exact .inr ⟨_, hIns, p1, p2, p3, p4, List.mem_singleton.1 hm⟩
  exact key _ (Nat.le_refl _) R A1 A2 M l (by rw [Nat.sub_self]; exact h0) hl hL
def tot (f : FN) (i : Nat) : Nat := (((bls f).take i).map fun b => b.1.length).sum
theorem tot_succ {f : FN} {i : Nat} (hi : i < (bls f).length) : tot f (i + 1) = tot f i + ((bls f)[i]).1.length := by
  unfold tot
  rw [List.take_succ_eq_append_getElem hi, List.map_append, List.sum_append]
  simp only [List.map_cons, List.map_nil, List.sum_cons, List.sum_nil, Nat.add_zero]
theorem tot_mono {f : FN} : ∀ {j i : Nat}, tot f i ≤ tot f (i + j)
  | 0, i => Nat.le_refl _
  | j + 1, i => by
    refine Nat.le_trans (tot_mono (j := j)) ?_
    by_cases h : i + j < (bls f).length
    · rw [show i + (j + 1) = i + j + 1 from rfl, tot_succ h]; omega
    · unfold tot; rw [List.take_of_length_le (by omega), List.take_of_length_le (by omega)]; exact Nat.le_refl _
theorem Gs.ends {f : FN} {n : Nat} {P : P2} {Q Q' : Nat → Prop} {N : Nat} {R : BB} {A1 A2 A2' : List Bool} {M : LM} (h : Gs f n P Q N R A1 A2 M) {i : Nat} {b : BL} (hb : (bls f)[i]? = some b) (hQ : ∀ i', Q' i' ↔ Q i' ∨ i' = i) (h5 : A2'.length = n) (h6 : ∀ r : Nat, Tr A2' r ↔ Tr A2 r ∨ (r : Int) ∈ ends b) : Gs f n P Q' N R A1 A2' M := by
  refine ⟨h.sq, h.rows, h.l1, h.slot, h5, fun r => ?_, h.mv, h.cnt⟩
  rw [h6 r, h.there r]
  constructor
  · rintro ((⟨i', q1, q2⟩ | q) | q)
    · exact .inl ⟨i', (hQ i').2 (.inl q1), q2⟩
    · exact .inr q
    · exact .inl ⟨i, (hQ i).2 (.inr rfl), b, hb, q⟩
  · rintro (⟨i', q1, q2⟩ | q)
    · rcases (hQ i').1 q1 with q1 | rfl
      · exact .inl (.inl ⟨i', q1, q2⟩)
      · obtain ⟨b', e1, e2⟩ := q2
        rw [hb] at e1
        obtain rfl := Option.some.inj e1
        exact .inr e2
    · exact .inl (.inr q)
theorem l13r8_ok {f : FN} {n : Nat} (hf : FOk f n) (ht : tot f (bls f).length ≤ 4096) {B E R : BB} {A1 A2 : List Bool} {M : LM} (hB : Rd f n B) (hc : Closed f (At B)) (hE : EndsOf f n B E (bls f).length)
    {k : FN → BB → List Bool → List Bool → LM → BB → Prop} (h0 : Gs f n (fun i _ => i < 0) (fun i => i < 0) 0 R A1 A2 M)
    (h : ∀ R' A1' A2' M', Gs f n (fun _ _ => True) (fun _ => True) 4096 R' A1' A2' M' → k f R' A1' A2' M' B) : l13r8 k (bls f) ((bls f).length : Int) 0 f R A1 A2 M B E := by
  have hm := hml
  have hbl := hf.ble
  have hnl := hf.nle
  constructor
  intro I hI
  have key := upInd (N := (bls f).length) (M := fun i => ∀ E' R' A1' A2' M', E'.length = (bls f).length → (∀ i', i ≤ i' → E'[i']? = E[i']?) → Gs f n (fun i' _ => i' < i) (fun i' => i' < i) (tot f i) R' A1' A2' M' → I (bls f) ((bls f).length : Int) (i : Int) f R' A1' A2' M' B E')
    (by
      intro E' R' A1' A2' M' h1 h2 h3
      apply hI
      refine brDn (by omega) (h R' A1' A2' M' (h3.congr (fun i k x hx => ?_) (fun i b hb => ?_) ht))
      · obtain ⟨b, hb, _⟩ := hx
        have := (List.getElem?_eq_some_iff.1 hb).1
        exact ⟨fun _ => trivial, fun _ => this⟩
      · have := (List.getElem?_eq_some_iff.1 hb).1
        exact ⟨fun _ => trivial, fun _ => this⟩)
    (by
      intro i hi ih E' R' A1' A2' M' h1 h2 h3
      apply hI
      have hb : (bls f)[i]? = some (bls f)[i] := List.getElem?_eq_getElem hi
      have hiE : i < E'.length := by omega
      obtain ⟨s, b', g1, g2, g3, g4⟩ := hE.2 i hi
      rw [hb] at g2
      obtain rfl := Option.some.inj g2
      rw [← h2 i (Nat.le_refl _)] at g1
      obtain ⟨_, gs⟩ := List.getElem?_eq_some_iff.1 g1
      obtain ⟨i1, i2⟩ := hf.ins _ (List.getElem_mem hi)
      obtain ⟨e1, e2, e3⟩ := hf.ends _ (List.getElem_mem hi)
      have htl : tot f (i + 1) ≤ tot f (bls f).length := by
        have := tot_mono (f := f) (j := (bls f).length - (i + 1)) (i := i + 1)
        rwa [show i + 1 + ((bls f).length - (i + 1)) = (bls f).length by omega] at this
      have hts := tot_succ hi
      have hel : (ends (bls f)[i]).length ≤ 2 := by
        unfold ends nz
        exact Nat.le_trans (List.length_filter_le _ _) (by simp)
      have mk : ∀ {k' : List Bool → BB → List Bool → List Bool → LM → Prop}, (∀ l' A', l'.length = n → (∀ r : Nat, Tr l' r ↔ Tr s r ∨ (r : Int) ∈ ends (bls f)[i]) → A'.length = n → (∀ r : Nat, Tr A' r ↔ Tr A2' r ∨ (r : Int) ∈ ends (bls f)[i]) → k' l' R' A1' A' M') → c32 (ends (bls f)[i]) s R' A1' A2' M' k' := fun hk => c32_ok (by omega) e1 g3 h3.l2 hk
      have fin : ∀ l' A', l'.length = n → (∀ r : Nat, Tr l' r ↔ Tr s r ∨ (r : Int) ∈ ends (bls f)[i]) → A'.length = n → (∀ r : Nat, Tr A' r ↔ Tr A2' r ∨ (r : Int) ∈ ends (bls f)[i]) →
          l13r14 (fun z20 z21 z22 z23 z24 z25 z26 z27 z28 z29 => I z20 z21 (IntKind.wrap .i64 (z22 + 1)) z23 z24 z25 z26 z27 z28 z29) (IntKind.wrap .i64 (((((bls f)[i]).1.length : Nat) : Int) - 1)) (bls f) ((bls f).length : Int) (i : Int) f R' A1' A' M' B E' i l' (bls f)[i] := by
        intro l' A' q1 q2 q3 q4
        rw [wrap64 (by omega) (by omega)]
        refine l13r14_ok hf hb (N := tot f i) (Q := fun i' => i' < i + 1) (by omega) q1 (fun r => ?_) ?_ fun R2 A12 A22 M2 l2 w1 w2 => ?_
        · rw [q2 r, g4 r]
          unfold La Nd
          constructor
          · rintro (⟨t, t1, t2⟩ | t)
            · exact ⟨_, hb, by rw [List.drop_length]; exact .inl ⟨t, t1, (lv_at hB hc).1 t2⟩⟩
            · exact ⟨_, hb, by rw [List.drop_length]; exact .inr t⟩
          · rintro ⟨b', w1, w2⟩
            rw [hb] at w1
            obtain rfl := Option.some.inj w1
            rw [List.drop_length] at w2
            rcases w2 with ⟨t, t1, t2⟩ | t
            · exact .inl ⟨t, t1, (lv_at hB hc).2 t2⟩
            · exact .inr t
        · have h4 := h3.ends (Q' := fun i' => i' < i + 1) hb (fun i' => by omega) q3 q4
          refine h4.congr (fun i' k' x hx => ?_) (fun _ _ _ => Iff.rfl) (Nat.le_refl _)
          unfold Pb
          constructor
          · exact .inl
          · rintro (w | ⟨rfl, w⟩)
            · exact w
            · obtain ⟨b', w1, w2⟩ := hx
              rw [hb] at w1
              obtain rfl := Option.some.inj w1
              have := (List.getElem?_eq_some_iff.1 w2).1
              omega
        · show I (bls f) ((bls f).length : Int) (IntKind.wrap .i64 ((i : Int) + 1)) f R2 A12 A22 M2 B (E'.set i l2)
          rw [wrapS (by omega)]
          refine ih _ _ _ _ _ (by simp [h1]) (fun i' hi' => ?_) ?_
          · rw [List.getElem?_set_ne (by omega)]
            exact h2 i' (by omega)
          · rw [hts]
            refine w1.congr (fun i' k' x hx => ?_) (fun _ _ _ => Iff.rfl) (Nat.le_refl _)
            unfold Pb
            omega
      rw [Int.toNat_natCast]
      refine brD (by omega) (needAt hi (brD (by omega) (needNth hiE (needNth hiE ?_))))
      rw [gs]
      refine c33_ok (mk fin) fun len cap row hs => ?_
      have e : List.take len (List.drop 0 row) = ends (bls f)[i] := by rw [List.drop_zero]; exact hs.2.2.2
      rw [e]
      exact mk fin)
    0 (Nat.zero_le _)
  exact key E R A1 A2 M hE.1 (fun _ _ => rfl) (by
    refine h0.congr (fun _ _ _ _ => Iff.rfl) (fun _ _ _ => Iff.rfl) (Nat.zero_le _))
def Pm (f : FN) (m a c : Nat) : Prop := ∃ d r : Nat, f.2.1[m]? = some (d : Int) ∧ ((∃ q, q < m ∧ f.2.1[q]? = some (r : Int)) ∨ Lv f 0 r) ∧ Pr d r a c
theorem l13r37_ok {f : FN} {n d : Nat} {R B : BB} {A1 A2 : List Bool} {M : LM} {s3 s4 : Int} {s2 qs : List Int} {k : Int → List Int → Int → Int → FN → BB → List Bool → List Bool → LM → BB → Prop} (hq : qs.length ≤ 8192) (hR : Sq n R) (hd : d < n) (hr : InR n qs)
    (h : ∀ R', Sq n R' → (∀ a c, At R' a c ↔ At R a c ∨ ∃ r : Nat, (r : Int) ∈ qs ∧ Pr d r a c) → k (d : Int) s2 s3 s4 f R' A1 A2 M B) : l13r37 k (d : Int) s2 s3 s4 qs (qs.length : Int) 0 f R A1 A2 M B := by
  constructor
  intro I hI
  have key := upInd (N := qs.length) (M := fun m => ∀ R', Sq n R' → (∀ a c, At R' a c ↔ At R a c ∨ ∃ r : Nat, (r : Int) ∈ qs.take m ∧ Pr d r a c) → I (d : Int) s2 s3 s4 qs (qs.length : Int) (m : Int) f R' A1 A2 M B)
    (by
      intro R' h1 h2
      apply hI
      rw [List.take_length] at h2
      exact brDn (by omega) (h R' h1 h2))
    (by
      intro m hm ih R' h1 h2
      apply hI
      have hrm := hr _ (List.getElem_mem hm)
      obtain ⟨p, hp⟩ : ∃ p : Nat, qs[m] = (p : Int) := ⟨qs[m].toNat, by omega⟩
      rw [wrapS (by omega)]
      refine brD (by omega) (needAt hm ?_)
      rw [hp]
      refine c38_ok h1 hd (by omega) fun R2 g1 g2 => ih R2 g1 fun a c => ?_
      rw [g2 a c, h2 a c]
      constructor
      · rintro ((w | ⟨r, w1, w2⟩) | w)
        · exact .inl w
        · exact .inr ⟨r, (mem_take_succ hm).2 (.inl w1), w2⟩
        · exact .inr ⟨p, (mem_take_succ hm).2 (.inr hp.symm), w⟩
      · rintro (w | ⟨r, w1, w2⟩)
        · exact .inl (.inl w)
        · rcases (mem_take_succ hm).1 w1 with w1 | w1
          · exact .inl (.inr ⟨r, w1, w2⟩)
          · rw [hp] at w1
            have : r = p := by omega
            subst this
            exact .inr w2)
    0 (Nat.zero_le _)
  exact key R hR fun a c => ⟨.inl, fun q => q.elim id fun ⟨r, q, _⟩ => by simp at q⟩
theorem l13r33_ok {f : FN} {n : Nat} (hf : FOk f n) (hp : InR n f.2.1) (hpl : f.2.1.length ≤ 8192) (hb0 : 0 < (bls f).length) {B R : BB} {A1 A2 : List Bool} {M : LM} (hB : Rd f n B) (hc : Closed f (At B)) (hR : Sq n R) (hA : A2.length = n)
    {k : BB → List Bool → List Bool → LM → Prop}
    (h : ∀ R' A2', Sq n R' → (∀ a c, At R' a c ↔ At R a c ∨ ∃ m, Pm f m a c) → A2'.length = n → (∀ r : Nat, Tr A2' r ↔ Tr A2 r ∨ (r : Int) ∈ f.2.1) → k R' A1 A2' M) : l13r33 k f.2.1 (f.2.1.length : Int) 0 f R A1 A2 M B := by
  have hnl := hf.nle
  have hlen : 0 < B.length := by rw [hB.len]; exact hb0
  have hset : B.set 0 B[0] = B := set_self (List.getElem?_eq_getElem hlen)
  have hrow := hB.row _ (List.getElem_mem hlen)
  constructor
  intro I hI
  have key := upInd (N := f.2.1.length) (M := fun m => ∀ R' A2', Sq n R' → (∀ a c, At R' a c ↔ At R a c ∨ ∃ m', m' < m ∧ Pm f m' a c) → A2'.length = n → (∀ r : Nat, Tr A2' r ↔ Tr A2 r ∨ (r : Int) ∈ f.2.1.take m) → I f.2.1 (f.2.1.length : Int) (m : Int) f R' A1 A2' M B)
    (by
      intro R' A2' h1 h2 h3 h4
      apply hI
      rw [List.take_length] at h4
      refine brDn (by omega) (h R' A2' h1 (fun a c => ?_) h3 h4)
      rw [h2 a c]
      refine or_congr Iff.rfl ⟨fun ⟨m, _, q⟩ => ⟨m, q⟩, fun ⟨m, q⟩ => ⟨m, ?_, q⟩⟩
      obtain ⟨d, r, q1, _⟩ := q
      exact (List.getElem?_eq_some_iff.1 q1).1)
    (by
      intro m hm ih R' A2' h1 h2 h3 h4
      apply hI
      have hrm := hp _ (List.getElem_mem hm)
      obtain ⟨p, hpp⟩ : ∃ p : Nat, f.2.1[m] = (p : Int) := ⟨f.2.1[m].toNat, by omega⟩
      have hpp' : f.2.1[m]? = some (p : Int) := by rw [List.getElem?_eq_getElem hm, hpp]
      have hst : List.drop 0 (List.take m f.2.1) = f.2.1.take m := List.drop_zero
      rw [Int.toNat_natCast, hst]
      refine brD (by omega) (needAt hm ?_)
      rw [hpp, Int.toNat_natCast]
      have hpn : p < n := by omega
      refine brD (by omega) (needNth (by omega) (brD (by omega) ?_))
      refine l13r37_ok (n := n) (by simp; omega) h1 hpn (fun r hr => hp r (List.mem_of_mem_take hr)) fun R2 g1 g2 => ?_
      refine brD (by omega) (needNth hlen (needNth hlen (brT rfl (brT (eqT_self _ _) ?_))))
      refine c35_ok (e := 0) (by omega) g1 hrow hpn fun R3 g3 g4 => ?_
      rw [hset, wrapS (by omega)]
      refine ih R3 _ g3 (fun a c => ?_) (by simp [h3]) fun r => ?_
      · rw [g4 a c, g2 a c, h2 a c]
        have hB0 : ∀ r, Tr B[0] r ↔ Lv f 0 r := fun r => (at_here hlen).symm.trans (lv_at hB hc)
        constructor
        · rintro (((w | ⟨m', w1, w2⟩) | ⟨r, w1, w2⟩) | ⟨r, w1, w2, w3⟩)
          · exact .inl w
          · exact .inr ⟨m', by omega, w2⟩
          · obtain ⟨q, hq, e⟩ := List.mem_iff_getElem.1 w1
            simp only [List.length_take] at hq
            rw [List.getElem_take] at e
            exact .inr ⟨m, by omega, p, r, hpp', .inl ⟨q, by omega, by rw [List.getElem?_eq_getElem (by omega), e]⟩, w2⟩
          · exact .inr ⟨m, by omega, p, r, hpp', .inr ((hB0 r).1 w1), w3⟩
        · rintro (w | ⟨m', w1, w2⟩)
          · exact .inl (.inl (.inl w))
          · by_cases e : m' = m
            · subst e
              obtain ⟨d, r, q1, q2, q3⟩ := w2
              rw [hpp'] at q1
              have hdp : d = p := by have := Option.some.inj q1; omega
              subst hdp
              rcases q2 with ⟨q, q4, q5⟩ | q2
              · refine .inl (.inr ⟨r, ?_, q3⟩)
                refine List.mem_iff_getElem?.2 ⟨q, ?_⟩
                rw [List.getElem?_take, if_pos q4]
                exact q5
              · have h0 : r ≠ 0 := q3.2.2.1
                exact .inr ⟨r, (hB0 r).2 q2, h0, q3⟩
            · exact .inl (.inl (.inr ⟨m', by omega, w2⟩))
      · rw [tr_set (by omega), h4 r, mem_take_succ hm, hpp]
        constructor
        · rintro (⟨w, _⟩ | ⟨_, w | w⟩)
          · exact .inr (.inr (by rw [w]))
          · exact .inl w
          · exact .inr (.inl w)
        · rintro (w | w | w)
          · by_cases e : r = p
            · exact .inl ⟨e, rfl⟩
            · exact .inr ⟨e, .inl w⟩
          · by_cases e : r = p
            · exact .inl ⟨e, rfl⟩
            · exact .inr ⟨e, .inr w⟩
          · exact .inl ⟨by omega, rfl⟩)
    0 (Nat.zero_le _)
  exact key R A2 hR (fun a c => ⟨.inl, fun q => q.elim id fun ⟨m, q, _⟩ => absurd q (by omega)⟩) hA fun r => by simp
theorem l13r3_ok {f : FN} {n : Nat} (hf : FOk f n) {A1 A2 : List Bool} {M : LM} {k : FN → BB → List Bool → List Bool → LM → Prop} (h : k f (List.replicate n (List.replicate n false)) A1 A2 M) : l13r3 k f.2.2.1 0 f [] A1 A2 M := by
  have hr := hf.regs
  have hnl := hf.nle
  constructor
  intro I hI
  have key := upInd (N := n) (M := fun m => I f.2.2.1 (m : Int) f (List.replicate m (List.replicate n false)) A1 A2 M)
    (by
      apply hI
      exact brDn (by omega) h)
    (by
      intro m hm ih
      apply hI
      have e : (List.replicate m (List.replicate n false) ++ List.replicate 1 ([] : List Bool)).set ((List.replicate m (List.replicate n false)).length + 0) (List.replicate (Int.toNat f.2.2.1) false) = List.replicate (m + 1) (List.replicate n false) := by
        rw [hr, Int.toNat_natCast]
        simp
        exact (List.replicate_succ').symm
      rw [wrapS (by omega), e]
      refine brD (by omega) (brD (by omega) (brT rfl (brT rfl (brT rfl (brT rfl (brT rfl (brT rfl (brT rfl (brT rfl (brT (roomS (by simp; omega)) (brT rfl ih)))))))))))
    ) 0 (Nat.zero_le _)
  exact key
def Es (f : FN) (a c : Nat) : Prop := (∃ i k, Ed f i k a c ∨ Ed f i k c a) ∨ ∃ m, Pm f m a c
def Occ (f : FN) (r : Nat) : Prop := (∃ i, En f i r) ∨ (∃ i k, Oi f i k r) ∨ (r : Int) ∈ f.2.1
structure Gr (f : FN) (n : Nat) (R : BB) (A1 A2 : List Bool) (M : LM) : Prop where
  sq : Sq n R
  rows : ∀ a c, At R a c ↔ Es f a c
  l1 : A1.length = n
  slot : ∀ r, Tr A1 r ↔ ∃ i k, Kp f i k r
  l2 : A2.length = n
  there : ∀ r, Tr A2 r ↔ r ≠ 0 ∧ Occ f r
  mv : ∀ m ∈ M, ∃ i k, Mv f i k m
  cnt : M.length ≤ 4096
structure FOk2 (f : FN) (n : Nat) : Prop where
  ok : FOk f n
  par : InR n f.2.1
  pos : ∀ p ∈ f.2.1, p ≠ 0
  pl : f.2.1.length ≤ 6
  b0 : 0 < (bls f).length
  tt : tot f (bls f).length ≤ 4096
theorem pErr_good {n : Int} : ∀ {l q : List Int}, pErr n q l = 0 → ∀ p ∈ l, 1 ≤ p ∧ p < n
  | [], _, _, p, hp => by simp at hp
  | y :: l, q, h, p, hp => by
    rw [pErr] at h
    split at h
    · cases h
    · rename_i e
      split at h
      · cases h
      · rcases List.mem_cons.1 hp with rfl | hp
        · omega
        · exact pErr_good h p hp
theorem bErr_tot {n N : Int} : ∀ {l : List BL} {m : Int}, l ≠ [] → bErr n N m l = 0 → m + ((l.map fun b => b.1.length).sum : Nat) ≤ 4096
  | [], _, h, _ => absurd rfl h
  | c :: l, m, _, h => by
    rw [bErr] at h
    split at h
    · cases h
    · rename_i e0
      split at h
      · rename_i e; exact (e h).elim
      · split at h
        · rename_i e; exact (e h).elim
        · by_cases hl : l = []
          · subst hl; simp at e0 ⊢; omega
          · have := bErr_tot hl h
            simp only [List.map_cons, List.sum_cons]
            omega
theorem fok2_of {f : FN} (hz : Szf f) (h : fnErr f = 0) : FOk2 f f.2.2.1.toNat := by
  obtain ⟨hf, hb⟩ := fnErr_good hz h
  have hr := hf.regs
  unfold fnErr at h
  by_cases e1 : 6 < f.2.1.length
  · rw [if_pos e1] at h; cases h
  by_cases e2 : 4096 < (bls f).length
  · rw [if_neg e1, if_pos e2] at h; cases h
  by_cases e3 : f.2.2.1 < 1 ∨ 8192 < f.2.2.1
  · rw [if_neg e1, if_neg e2, if_pos e3] at h; cases h
  by_cases e4 : (bls f).length = 0
  · omega
  rw [if_neg e1, if_neg e2, if_neg e3, if_neg e4] at h
  by_cases e5 : pErr f.2.2.1 [] f.2.1 = 0
  · rw [if_neg (fun h => h e5)] at h
    by_cases e6 : bErr f.2.2.1 ((bls f).length : Int) 0 (bls f) = 0
    · have hp := pErr_good e5
      refine ⟨hf, fun p hpp => ?_, fun p hpp => ?_, by omega, hb, ?_⟩
      · have := hp p hpp; omega
      · have := hp p hpp; omega
      · have := bErr_tot (l := bls f) (fun e => by rw [e] at hb; simp at hb) e6
        unfold tot
        rw [List.take_length]
        omega
    · rw [if_pos e6] at h; exact (e6 h).elim
  · rw [if_pos e5] at h; exact (e5 h).elim
theorem tr_rep {n r : Nat} : ¬ Tr (List.replicate n false) r := fun q => by
  unfold Tr at q
  rw [List.getElem?_replicate] at q
  split at q <;> simp at q
theorem at_rep {m n a c : Nat} : ¬ At (List.replicate m (List.replicate n false)) a c := fun ⟨y, e, q⟩ => by
  rw [List.getElem?_replicate] at e
  split at e
  · obtain rfl := Option.some.inj e
    exact tr_rep q
  · cases e
theorem j13r2_ok {f : FN} {n : Nat} (hz : Szf f) (he : fnErr f = 0) (hn : n = f.2.2.1.toNat) {k : BB → List Bool → List Bool → LM → Prop} (h : ∀ R A1 A2 M, Gr f n R A1 A2 M → k R A1 A2 M) :
    j13r2 k f [] (List.replicate n false) (List.replicate n false) [] := by
  subst hn
  have h2 := fok2_of hz he
  have hf := h2.ok
  have hpos := hf.pos
  constructor
  refine l13r3_ok hf (c31_ok hz (fun e => absurd he e) fun _ B E hB hc hE => ?_)
  refine l13r8_ok hf h2.tt hB hc hE ⟨⟨by simp, fun y hy => by rw [List.mem_replicate] at hy; rw [hy.2]; simp⟩, fun a c => ⟨fun q => absurd q at_rep, fun ⟨i, k, q, _⟩ => absurd q (by omega)⟩, by simp, fun r => ⟨fun q => absurd q tr_rep, fun ⟨i, k, q, _⟩ => absurd q (by omega)⟩, by simp,
    fun r => ⟨fun q => absurd q tr_rep, fun q => q.elim (fun ⟨i, q, _⟩ => absurd q (by omega)) fun ⟨i, k, q, _⟩ => absurd q (by omega)⟩, (fun m hm => by cases hm), Nat.le_refl _⟩ fun R A1 A2 M g => ?_
  refine l13r33_ok hf h2.par (by have := h2.pl; omega) h2.b0 hB hc g.sq g.l2 fun R' A2' q1 q2 q3 q4 => ?_
  refine brD (by omega) (needNth (i := 0) (by omega) (h _ _ _ _ ⟨q1, fun a c => ?_, g.l1, fun r => ?_, by simp [q3], fun r => ?_, fun m hm => ?_, g.cnt⟩))
  · rw [q2 a c, g.rows a c]
    unfold Es
    exact or_congr ⟨fun ⟨i, k, _, q⟩ => ⟨i, k, q⟩, fun ⟨i, k, q⟩ => ⟨i, k, trivial, q⟩⟩ Iff.rfl
  · rw [g.slot r]
    exact ⟨fun ⟨i, k, _, q⟩ => ⟨i, k, q⟩, fun ⟨i, k, q⟩ => ⟨i, k, trivial, q⟩⟩
  · rw [tr_set (by omega), q4 r, g.there r]
    unfold Occ
    constructor
    · rintro (⟨_, q⟩ | ⟨q, (⟨i, _, w⟩ | ⟨i, k, _, w⟩) | w⟩)
      · cases q
      · exact ⟨q, .inl ⟨i, w⟩⟩
      · exact ⟨q, .inr (.inl ⟨i, k, w⟩)⟩
      · exact ⟨q, .inr (.inr w)⟩
    · rintro ⟨q, ⟨i, w⟩ | ⟨i, k, w⟩ | w⟩
      · exact .inr ⟨q, .inl (.inl ⟨i, trivial, w⟩)⟩
      · exact .inr ⟨q, .inl (.inr ⟨i, k, trivial, w⟩)⟩
      · exact .inr ⟨q, .inr w⟩
  · obtain ⟨i, k, _, q⟩ := g.mv m hm
    exact ⟨i, k, q⟩
theorem c13_ok {f : FN} (hz : Szf f) (he : fnErr f = 0) {k : BB → List Bool → List Bool → LM → Prop} (h : ∀ R A1 A2 M, Gr f f.2.2.1.toNat R A1 A2 M → k R A1 A2 M) : c13 f k := by
  have h2 := fok2_of hz he
  have hr := h2.ok.regs
  have hnl := h2.ok.nle
  have hj : j13r2 k f [] (List.replicate f.2.2.1.toNat false) (List.replicate f.2.2.1.toNat false) [] := j13r2_ok hz he rfl h
  constructor
  refine ⟨?_, ?_, ?_⟩
  all_goals repeat' (first | refine brT rfl ?_ | refine brT (eqT_self _ _) ?_ | refine brAA ?_ | (refine brD ?_ ?_; focus omega) | (refine brDn ?_ ?_; focus omega) | (refine needNth ?_ ?_; focus omega))
  all_goals repeat' (first | exact hj | refine And.intro ?_ ?_ | refine brT rfl ?_ | refine brT (eqT_self _ _) ?_ | (refine brD ?_ ?_; focus omega))
theorem lv_closed {f : FN} : Closed f (Lv f) := fun i r h X hX => hX i r (Fb_mono (fun i r q => q X hX) h)
theorem c20_la {f : FN} {n : Nat} (hf : FOk f n) {r i a : Nat} {k : Bool → Prop} (h0 : r ≠ 0) (hi : i < (bls f).length) (ha : a < 9223372036854775807) (hT : La f i a r → k true) (hF : ¬ La f i a r → k false) : c20 f (i : Int) (a : Int) (r : Int) k :=
  c20_ok hf h0 hi ha (fun e => hT (e _ lv_closed)) fun ⟨X, hX, e⟩ => hF fun q => e (Nd_mono (fun i r w => w X hX) q)
def Ex (f : FN) (a c : Nat) (i k : Nat) : Prop := Ed f i k a c ∨ Ed f i k c a
theorem oth {x : VI} {N T : Prop} {o : Nat} (hN : x.1 = 100 ∧ x.2.2.1 = (o : Int) → N) (hT : ¬ (x.1 = 100 ∧ x.2.2.1 = (o : Int)) → T) : br ((x.1 : Int) == 100) (br ((x.2.2.1 : Int) == (o : Int)) N T) T :=
  brE (fun e1 => brE (fun e2 => hN ⟨e1, e2⟩) fun e2 => hT fun w => e2 w.2) fun e1 => hT fun w => e1 w.1
theorem ed_iff {f : FN} {i k a c : Nat} {x : VI} (hx : Ins1 f i k x) (hd : dfn x = (a : Int)) (h1 : a ≠ c) (h2 : a ≠ 0) (h3 : c ≠ 0) : Ed f i k a c ↔ ¬ (x.1 = 100 ∧ x.2.2.1 = (c : Int)) ∧ La f i (k + 1) c := by
  unfold Ed Xc
  constructor
  · rintro ⟨y, hy, q1, q2, q3, q4⟩
    obtain rfl := hx.uniq hy
    refine ⟨fun w => q3 ?_, q2⟩
    rw [if_pos w.1]; exact w.2.symm
  · rintro ⟨q1, q2⟩
    refine ⟨x, hx, hd, q2, fun w => ?_, h1, h2, h3⟩
    split at w
    · rename_i e; exact q1 ⟨e, w.symm⟩
    · exact h3 (by omega)
theorem l10r8_ok {f : FN} {n : Nat} (hf : FOk f n) {a c : Nat} (h1 : a ≠ c) (h2 : a ≠ 0) (h3 : c ≠ 0) (ha : a < n) (hcn : c < n) {i : Nat} {b : BL} (hb : (bls f)[i]? = some b) (hbl : b.1.length ≤ 8192) {s6 : Int} {k1 : Bool → Prop} {k2 : Int → Int → List BL → Int → Int → FN → Prop}
    (hT : (∃ k, Ex f a c i k) → k1 true) (hF : (¬ ∃ k, Ex f a c i k) → k2 (a : Int) (c : Int) (bls f) ((bls f).length : Int) s6 f) :
    l10r8 k1 k2 (a : Int) (c : Int) (i : Int) (bls f) ((bls f).length : Int) s6 b.1 (b.1.length : Int) 0 f := by
  have hm := hml
  have hnl := hf.nle
  obtain ⟨i1, i2⟩ := hf.ins b (List.mem_of_getElem? hb)
  have hi := (List.getElem?_eq_some_iff.1 hb).1
  constructor
  intro I hI
  refine allInd (N := b.1.length) (p := fun k => ¬ Ex f a c i k) (M := fun k => I (a : Int) (c : Int) (i : Int) (bls f) ((bls f).length : Int) s6 b.1 (b.1.length : Int) (k : Int) f) (fun hall => hI _ _ _ _ _ _ _ _ _ _ (brDn (by omega) (hF ?_))) fun k hk hlt ih => hI _ _ _ _ _ _ _ _ _ _ ?_
  · rintro ⟨k, hk⟩
    have : ∃ x, Ins1 f i k x := hk.elim (fun ⟨x, hx, _⟩ => ⟨x, hx⟩) fun ⟨x, hx, _⟩ => ⟨x, hx⟩
    obtain ⟨x, b', e1, e2⟩ := this
    rw [hb] at e1
    obtain rfl := Option.some.inj e1
    exact hall k (List.getElem?_eq_some_iff.1 e2).1 hk
  · have hx : Ins1 f i k b.1[k] := ⟨b, hb, List.getElem?_eq_getElem hk⟩
    rw [wrapS (by omega)]
    refine brD (by omega) (needAt hk (c25_ok ?_))
    have hbo : b.1.length ≤ maxLen := i1
    -- the other register
    have go : ∀ {o d : Nat}, dfn b.1[k] = (d : Int) → d ≠ o → d ≠ 0 → o ≠ 0 → (Ed f i k d o → Ex f a c i k) → (¬ Ed f i k d o → ¬ Ex f a c i k) →
        br ((b.1[k].1 : Int) == 100) (br ((b.1[k].2.2.1 : Int) == (o : Int)) (I (a : Int) (c : Int) (i : Int) (bls f) ((bls f).length : Int) s6 b.1 (b.1.length : Int) ((k + 1 : Nat) : Int) f)
          (c20 f (i : Int) ((k + 1 : Nat) : Int) (o : Int) fun z => br z (k1 true) (I (a : Int) (c : Int) (i : Int) (bls f) ((bls f).length : Int) s6 b.1 (b.1.length : Int) ((k + 1 : Nat) : Int) f)))
          (c20 f (i : Int) ((k + 1 : Nat) : Int) (o : Int) fun z => br z (k1 true) (I (a : Int) (c : Int) (i : Int) (bls f) ((bls f).length : Int) s6 b.1 (b.1.length : Int) ((k + 1 : Nat) : Int) f)) := by
      intro o d g1 g2 g3 g4 g5 g6
      have hiff := ed_iff (c := o) hx g1 g2 g3 g4
      exact oth (fun w => ih (g6 fun q => (hiff.1 q).1 w)) fun w => c20_la hf g4 hi (by omega) (fun q => brT rfl (hT ⟨k, g5 (hiff.2 ⟨w, q⟩)⟩)) fun q => brF rfl (ih (g6 fun q2 => q (hiff.1 q2).2))
    have hw : IntKind.wrap .i64 ((a : Int) + (c : Int)) = (a : Int) + (c : Int) := wrap64 (by omega) (by omega)
    rw [hw]
    refine brN (fun e1 => brN (fun e2 => ih ?_) fun e2 => ?_) fun e1 => ?_
    · rintro (⟨y, hy, q, _⟩ | ⟨y, hy, q, _⟩) <;> obtain rfl := hx.uniq hy
      · exact e1 q
      · exact e2 q
    · rw [e2, wrap64 (by omega) (by omega), show (a : Int) + (c : Int) - (c : Int) = (a : Int) by omega]
      exact go e2 (fun e => h1 e.symm) h3 h2 .inr fun q => by
        rintro (⟨y, hy, w, _⟩ | w)
        · obtain rfl := hx.uniq hy; omega
        · exact q w
    · rw [e1, wrap64 (by omega) (by omega), show (a : Int) + (c : Int) - (a : Int) = (c : Int) by omega]
      exact go e1 h1 h2 h3 .inl fun q => by
        rintro (w | ⟨y, hy, w, _⟩)
        · exact q w
        · obtain rfl := hx.uniq hy; omega
theorem l10r5_ok {f : FN} {n : Nat} (h2 : FOk2 f n) {a c : Nat} (e1 : a ≠ c) (e2 : a ≠ 0) (e3 : c ≠ 0) (ha : a < n) (hcn : c < n) {k1 : Bool → Prop} {k2 : Prop}
    (hT : (∃ i k, Ex f a c i k) → k1 true) (hF : (¬ ∃ i k, Ex f a c i k) → k2) : l10r5 k1 k2 (a : Int) (c : Int) (bls f) ((bls f).length : Int) 0 f := by
  have hf := h2.ok
  have hbl := hf.ble
  constructor
  intro I hI
  refine allInd (N := (bls f).length) (p := fun i => ¬ ∃ k, Ex f a c i k) (M := fun i => I (a : Int) (c : Int) (bls f) ((bls f).length : Int) (i : Int) f) (fun hall => hI _ _ _ _ _ _ (brDn (by omega) (hF ?_))) fun i hi hlt ih => hI _ _ _ _ _ _ ?_
  · rintro ⟨i, k, hk⟩
    have : ∃ x, Ins1 f i k x := hk.elim (fun ⟨x, hx, _⟩ => ⟨x, hx⟩) fun ⟨x, hx, _⟩ => ⟨x, hx⟩
    obtain ⟨x, b', w1, w2⟩ := this
    exact hall i (List.getElem?_eq_some_iff.1 w1).1 ⟨k, hk⟩
  · have htl : tot f (i + 1) ≤ tot f (bls f).length := by
      have := tot_mono (f := f) (j := (bls f).length - (i + 1)) (i := i + 1)
      rwa [show i + 1 + ((bls f).length - (i + 1)) = (bls f).length by omega] at this
    have hts := tot_succ hi
    have htt := h2.tt
    refine brD (by omega) (needAt hi (l10r8_ok hf e1 e2 e3 ha hcn (List.getElem?_eq_getElem hi) (by omega) (fun q => hT ⟨i, q⟩) fun q => ?_))
    rw [wrapS (by omega)]
    exact ih q
theorem j10r4_ok {f : FN} {n : Nat} (h2 : FOk2 f n) {a c : Nat} (e1 : a ≠ c) (e2 : a ≠ 0) (e3 : c ≠ 0) (ha : a < n) (hcn : c < n) {k : Bool → Prop}
    (hT : (∃ i k, Ex f a c i k) → k true) (hF : (¬ ∃ i k, Ex f a c i k) → k false) : j10r4 k (a : Int) (c : Int) f := ⟨l10r5_ok h2 e1 e2 e3 ha hcn hT hF⟩
def Pq (f : FN) (a c : Nat) : Prop := ((a : Int) ∈ f.2.1 ∧ (c : Int) ∈ f.2.1) ∨ ((a : Int) ∈ f.2.1 ∧ Lv f 0 c) ∨ ((c : Int) ∈ f.2.1 ∧ Lv f 0 a)
theorem es_iff {f : FN} {a c : Nat} (e1 : a ≠ c) (e2 : a ≠ 0) (e3 : c ≠ 0) : Es f a c ↔ Pq f a c ∨ ∃ i k, Ex f a c i k := by
  unfold Es
  rw [or_comm]
  refine or_congr ?_ Iff.rfl
  have idx : ∀ {r : Nat}, (r : Int) ∈ f.2.1 ↔ ∃ m : Nat, f.2.1[m]? = some (r : Int) := List.mem_iff_getElem?
  constructor
  · rintro ⟨m, d, r, q1, q2, _, _, _, ⟨rfl, rfl⟩ | ⟨rfl, rfl⟩⟩
    · rcases q2 with ⟨q, _, q2⟩ | q2
      · exact .inl ⟨idx.2 ⟨m, q1⟩, idx.2 ⟨q, q2⟩⟩
      · exact .inr (.inl ⟨idx.2 ⟨m, q1⟩, q2⟩)
    · rcases q2 with ⟨q, _, q2⟩ | q2
      · exact .inl ⟨idx.2 ⟨q, q2⟩, idx.2 ⟨m, q1⟩⟩
      · exact .inr (.inr ⟨idx.2 ⟨m, q1⟩, q2⟩)
  · rintro (⟨q1, q2⟩ | ⟨q1, q2⟩ | ⟨q1, q2⟩)
    · obtain ⟨m, q1⟩ := idx.1 q1
      obtain ⟨q, q2⟩ := idx.1 q2
      rcases Nat.lt_trichotomy q m with w | w | w
      · exact ⟨m, a, c, q1, .inl ⟨q, w, q2⟩, e1, e2, e3, .inl ⟨rfl, rfl⟩⟩
      · subst w
        rw [q1] at q2
        have := Option.some.inj q2
        omega
      · exact ⟨q, c, a, q2, .inl ⟨m, w, q1⟩, fun e => e1 e.symm, e3, e2, .inr ⟨rfl, rfl⟩⟩
    · obtain ⟨m, q1⟩ := idx.1 q1
      exact ⟨m, a, c, q1, .inr q2, e1, e2, e3, .inl ⟨rfl, rfl⟩⟩
    · obtain ⟨m, q1⟩ := idx.1 q1
      exact ⟨m, c, a, q1, .inr q2, fun e => e1 e.symm, e3, e2, .inr ⟨rfl, rfl⟩⟩
theorem c10_ok {f : FN} {n : Nat} (h2 : FOk2 f n) {a c : Nat} (e1 : a ≠ c) (e2 : a ≠ 0) (e3 : c ≠ 0) (ha : a < n) (hcn : c < n) {k : Bool → Prop}
    (hT : Es f a c → k true) (hF : ¬ Es f a c → k false) : c10 f (a : Int) (c : Int) k := by
  have hm := hml
  have hf := h2.ok
  have hpl := h2.pl
  rw [es_iff e1 e2 e3] at hT hF
  have go : ¬ Pq f a c → j10r4 k (a : Int) (c : Int) f := fun q => j10r4_ok h2 e1 e2 e3 ha hcn (fun w => hT (.inr w)) fun w => hF fun w2 => w2.elim q w
  have hl : f.2.1.length ≤ maxLen := by omega
  have L1 : ∀ {k' : Bool → Prop}, (Lv f 0 c → k' true) → (¬ Lv f 0 c → k' false) → c20 f ((0 : Nat) : Int) ((0 : Nat) : Int) (c : Int) k' := fun w1 w2 => c20_lv hf e3 h2.b0 w1 w2
  have L2 : ∀ {k' : Bool → Prop}, (Lv f 0 a → k' true) → (¬ Lv f 0 a → k' false) → c20 f ((0 : Nat) : Int) ((0 : Nat) : Int) (a : Int) k' := fun w1 w2 => c20_lv hf e2 h2.b0 w1 w2
  constructor
  refine c21_ok hl (fun pa => ?_) fun pa => ?_
  · refine brT rfl (brT (eqT_self _ _) (brT (eqT_self _ _) (c21_ok hl (fun pb => brT rfl (brT rfl (hT (.inl (.inl ⟨pa, pb⟩))))) fun pb => brT rfl (brF rfl (brT rfl ?_)))))
    refine L1 (fun q => brT rfl (hT (.inl (.inr (.inl ⟨pa, q⟩))))) fun q => brF rfl (brF rfl (go ?_))
    rintro (⟨_, w⟩ | ⟨_, w⟩ | ⟨w, _⟩)
    · exact pb w
    · exact q w
    · exact pb w
  · refine brT rfl (brT (eqT_self _ _) (brT (eqT_self _ _) (c21_ok hl (fun pb => brF rfl (brF rfl (brT rfl ?_))) fun pb => brF rfl (brF rfl (brF rfl (go ?_))))))
    · refine L2 (fun q => brT rfl (hT (.inl (.inr (.inr ⟨pb, q⟩))))) fun q => brF rfl (go ?_)
      rintro (⟨w, _⟩ | ⟨w, _⟩ | ⟨_, w⟩)
      · exact pa w
      · exact pa w
      · exact q w
    · rintro (⟨w, _⟩ | ⟨w, _⟩ | ⟨w, _⟩)
      · exact pa w
      · exact pa w
      · exact pb w
theorem w01 : IntKind.wrap .i64 (0 + 1) = 1 := by decide +kernel
theorem w12 : IntKind.wrap .i64 (1 + 1) = 2 := by decide +kernel
theorem w10 : IntKind.wrap .i64 (1 - 1) = 0 := by decide +kernel
theorem w0m : IntKind.wrap .i64 (0 - 1) = -1 := by decide +kernel
theorem tn0 : Int.toNat 0 = 0 := rfl
theorem tn1 : Int.toNat 1 = 1 := rfl
theorem tn2 : Int.toNat 2 = 2 := rfl
theorem k0 : ((0 : Nat) : Int) = 0 := rfl
theorem k1' : ((1 : Nat) : Int) = 1 := rfl
theorem k2' : ((2 : Nat) : Int) = 2 := rfl
theorem c14_same {k : BB → List Bool → List Bool → LM → List Int → Prop} (h : k [[false,false],[false,false]] [false, false] [false, true] [] [0, 1]) : c14 3 [[false,false],[false,false]] [false, false] [false, true] [] k := by
  repeat' (first | refine brT (by decide +kernel) ?_ | refine brF (by decide +kernel) ?_ | (simp only [k0, k1', k2', Nat.zero_add, Nat.reduceAdd, List.length_replicate, List.replicate, w01, w12, w10, w0m, tn0, tn1, tn2, List.set_cons_zero, List.set_cons_succ, List.getElem?_cons_zero, List.getElem?_cons_succ, List.length_cons, List.length_nil, need_some, List.replicate_zero, List.replicate_succ, List.nil_append, List.cons_append]) | apply_assumption | constructor | (intro I hI; apply hI))
theorem j6r9_same {k : Int → Int → List Int → List Int → Prop} (h : k 0 0 [-1, 1] [-1, -1]) : j6r9 k 3 0 [] [] [[false,false],[false,false]] [false, false] [false, true] [] [0, 1] 0 [0, 0] [0, 0] := by
  repeat' (first | refine brT (by decide +kernel) ?_ | refine brF (by decide +kernel) ?_ | (simp only [k0, k1', k2', Nat.zero_add, Nat.reduceAdd, List.length_replicate, List.replicate, w01, w12, w10, w0m, tn0, tn1, tn2, List.set_cons_zero, List.set_cons_succ, List.getElem?_cons_zero, List.getElem?_cons_succ, List.length_cons, List.length_nil, need_some, List.replicate_zero, List.replicate_succ, List.nil_append, List.cons_append]) | apply_assumption | constructor | (intro I hI; apply hI))
theorem j6r7_same {k : Int → Int → List Int → List Int → Prop} (h : k 0 0 [-1, 1] [-1, -1]) : j6r7 k 3 same1 0 [] [] [[false,false],[false,false]] [false, false] [false, true] [] := by
  have hj : j6r9 k 3 0 [] [] [[false,false],[false,false]] [false, false] [false, true] [] [0, 1] 0 (List.replicate (Int.toNat same1.2.2.1) (0 : Int)) (List.replicate (Int.toNat same1.2.2.1) (0 : Int)) := j6r9_same h
  constructor
  refine c14_same ?_
  repeat' (first | exact hj | refine And.intro ?_ ?_ | refine brT rfl ?_ | refine brT (eqT_self _ _) ?_ | refine brT (by decide +kernel) ?_)
theorem list2 {s : List Bool} {b : Bool} (hl : s.length = 2) (h0 : ¬ Tr s 0) (h1 : Tr s 1 ↔ b = true) : s = [false, b] := by
  match s, hl with
  | [x, y], _ =>
    have e0 : x = false := by
      cases x with
      | false => rfl
      | true => exact (h0 rfl).elim
    have e1 : y = b := by
      have : y = true ↔ b = true := ⟨fun e => h1.1 (by subst e; rfl), fun e => by simpa [Tr] using h1.2 e⟩
      cases y <;> cases b <;> simp_all
    rw [e0, e1]
theorem same1_ins {i k : Nat} {x : VI} : ¬ Ins1 same1 i k x := by
  rintro ⟨b, hb, hx⟩
  obtain rfl := List.mem_singleton.1 (List.mem_of_getElem? hb)
  simp at hx
theorem same1_gr {R : BB} {A1 A2 : List Bool} {M : LM} (g : Gr same1 2 R A1 A2 M) : R = [[false,false],[false,false]] ∧ A1 = [false, false] ∧ A2 = [false, true] ∧ M = [] := by
  have hE : ∀ a c, ¬ At R a c := fun a c q => by
    rcases (g.rows a c).1 q with ⟨i, k, ⟨x, hx, _⟩ | ⟨x, hx, _⟩⟩ | ⟨m, d, r, q1, q2, q3, q4, q5, _⟩
    · exact same1_ins hx
    · exact same1_ins hx
    · have hd : d = 1 := by
        have := List.mem_singleton.1 (List.mem_of_getElem? q1)
        omega
      rcases q2 with ⟨q, _, q2⟩ | q2
      · have := List.mem_singleton.1 (List.mem_of_getElem? q2)
        omega
      · have := same1_lv.1 q2
        omega
  have rowf : ∀ i (h : i < R.length), R[i] = [false, false] := fun i h => list2 (g.sq.get h) (fun q => hE i 0 ((at_here h).2 q)) ⟨fun q => (hE i 1 ((at_here h).2 q)).elim, fun e => by cases e⟩
  have hl := g.sq.len
  refine ⟨?_, list2 g.l1 (fun q => ?_) ⟨fun q => ?_, fun e => by cases e⟩, list2 g.l2 (fun q => ((g.there 0).1 q).1 rfl) ⟨fun _ => rfl, fun _ => ?_⟩, ?_⟩
  · match R, hl, rowf with
    | [x, y], _, rowf =>
      have e0 := rowf 0 (by simp)
      have e1 := rowf 1 (by simp)
      simp only [List.getElem_cons_zero, List.getElem_cons_succ] at e0 e1
      rw [e0, e1]
  · obtain ⟨i, k, x, hx, _⟩ := (g.slot 0).1 q; exact same1_ins hx
  · obtain ⟨i, k, x, hx, _⟩ := (g.slot 1).1 q; exact (same1_ins hx).elim
  · exact (g.there 1).2 ⟨by decide, .inr (.inr (List.mem_singleton.2 rfl))⟩
  · rcases M with _ | ⟨m, M⟩
    · rfl
    · obtain ⟨i, k, x, hx, _⟩ := g.mv m (by simp)
      exact (same1_ins hx).elim
theorem c4_ok {k : Bool → Prop} (h : k true) : c4 k := by
  constructor
  constructor
  show c6 same1 3 _
  constructor
  refine c12_ok same1_sz ?_
  rw [same1_err]
  refine brF rfl (brF rfl (brF rfl (c13_ok same1_sz same1_err fun R A1 A2 M g => ?_)))
  obtain ⟨rfl, rfl, rfl, rfl⟩ := same1_gr g
  refine j6r7_same ?_
  refine brT rfl (brT rfl (brT (by decide +kernel) (needS rfl (brT (by decide +kernel) ?_))))
  exact h
abbrev viT : Ty := .pair (.int .i64) (.pair (.int .i64) (.pair (.int .i64) (.pair (.int .i64) (.pair (.int .i64) (.pair (.sl (.int .i64)) .unit)))))
abbrev blT : Ty := .pair (.sl viT) (.pair viT .unit)
abbrev fnT : Ty := .pair (.int .i64) (.pair (.sl (.int .i64)) (.pair (.int .i64) (.pair (.sl blT) .unit)))
theorem int_wf {n : Int} (h : Go.Abs.Good (.int .i64) n) : -9223372036854775808 ≤ n ∧ n ≤ 9223372036854775807 := by
  have h : (Lit.int .i64 n).wf = true := h
  simp [Lit.wf, IntKind.min, IntKind.max, IntKind.signed, IntKind.bits] at h
  omega
theorem szf_of {f : FN} (g : Go.Abs.Good fnT f ∧ Go.Abs.Sz fnT f) : Szf f ∧ (bls f).length ≤ maxLen := by
  obtain ⟨⟨_, ⟨g1, _⟩, g2, ⟨g3, g4⟩, _⟩, ⟨_, _, _, ⟨z1, z2⟩, _⟩⟩ := g
  refine ⟨⟨g1, int_wf g2, fun b hb => ?_, fun b hb x hx => ?_, fun b hb => ?_⟩, g3⟩
  · obtain ⟨⟨z3, _⟩, _⟩ := z2 b hb
    have hbt : 1 ≤ Ty.bts viT := by decide
    have := Nat.mul_le_mul_left b.1.length hbt
    have z3' : b.1.length * Ty.bts viT ≤ 140737488351232 := z3
    omega
  · obtain ⟨⟨_, g5⟩, _⟩ := g4 b hb
    obtain ⟨_, _, _, _, _, ⟨g6, _⟩, _⟩ := g5 x hx
    exact g6
  · obtain ⟨_, ⟨_, _, _, _, _, ⟨g6, _⟩, _⟩, _⟩ := g4 b hb
    exact g6
theorem c39_ok {x : List Bool} {k : List Bool → Prop} (hl : x.length ≤ 8192) (h : k x) : c39 x k := by
  constructor
  refine brB (fun e => ?_) fun e => ?_
  · have e : x = [] := List.isEmpty_iff.1 e
    subst e
    exact ⟨h, brT rfl h⟩
  · refine brF e (brT (roomS (by omega)) ?_)
    exact h
theorem c53_ok {x : List Bool} {k : Int → Prop} (hl : x.length ≤ 8192) (h : ∀ v, k v) : c53 x k := by
  constructor
  constructor
  intro I hI
  have key := upInd (N := x.length) (M := fun m => ∀ v, I v x (x.length : Int) (m : Int))
    (fun v => hI _ _ _ _ (brDn (by omega) (h v)))
    (fun m hm ih v => hI _ _ _ _ (brD (by omega) (needAt hm (by rw [wrapS (by omega)]; exact brB (fun _ => ih _) fun _ => ih _))))
    0 (Nat.zero_le _)
  exact key 0
theorem c40_ok {n r : Nat} {R : BB} {A1 A2 : List Bool} {M : LM} {K : Int} {k : Int → Int → BB → List Bool → List Bool → LM → Prop} (hn : n ≤ 8192) (hR : Sq n R) (hr : r < n) (hi : ¬ At R r r) (h : ∀ u v, k u v R A1 A2 M) : c40 (r : Int) K R A1 A2 M k := by
  have hl := hR.len
  have hrR : r < R.length := by omega
  have hy := hR.get hrR
  constructor
  rw [Int.toNat_natCast]
  refine brD (by omega) (needNth hrR (needNth hrR ?_))
  constructor
  intro I hI
  have key := upInd (N := n) (M := fun m => ∀ u v, I K u v ((R[r].length : Nat) : Int) (m : Int) R r A1 A2 M R[r])
    (by
      intro u v
      apply hI
      rw [set_self (List.getElem?_eq_getElem hrR)]
      exact brDn (by omega) (h u v))
    (by
      intro m hm ih u v
      apply hI
      have hmR : m < R.length := by omega
      have hmy := hR.get hmR
      have hT : Tr R[r] m ↔ (R[r])[m]'(by omega) = true := tr_get (by omega)
      rw [wrapS (by omega), Int.toNat_natCast]
      refine brD (by omega) (brD (by omega) (needNth (by omega) (brB (fun _ => ih _ _) fun e => brD (by omega) (needNth hmR ?_))))
      have hne : m ≠ r := fun q => by
        subst q
        have : (R[m])[m]'(by omega) = true := by simpa using e
        exact hi ((at_here hrR).2 (hT.2 this))
      refine brDn (by omega) (needNth hmR (c53_ok (by omega) fun v => ?_))
      rw [set_self (List.getElem?_eq_getElem hmR)]
      exact brB (fun _ => ih _ _) fun _ => ih _ _)
    0 (Nat.zero_le _)
  exact key 0 0
theorem c38v2_ok {n a m i0 : Nat} {R : BB} {y A1 A2 : List Bool} {M : LM} {k : BB → Nat → List Bool → List Bool → List Bool → LM → Prop} (hR : Sq n R) (ha : a < n) (hm : m < n) (h1 : a ≠ m) (h2 : a ≠ 0) (h3 : m ≠ 0) (h4 : a ≠ i0) (h5 : m ≠ i0)
    (h : ∀ R', Sq n R' → (∀ i j, At R' i j ↔ At R i j ∨ Pr a m i j) → R'[i0]? = R[i0]? → k R' i0 y A1 A2 M) : c38v2 (a : Int) (m : Int) R i0 y A1 A2 M k := by
  have hl := hR.len
  have ha' : a < R.length := by omega
  have hm' : m < R.length := by omega
  have g1 := hR.get ha'
  have g2 := hR.get hm'
  constructor
  rw [Int.toNat_natCast, Int.toNat_natCast]
  refine brN (fun e1 => brN (fun e2 => brN (fun e3 => ?_) fun e3 => absurd e3 (by omega)) fun e2 => absurd e2 (by omega)) fun e1 => absurd e1 (by omega)
  refine brD (by omega) (brD (by omega) ⟨?_, ?_⟩)
  · repeat' (first | refine brT rfl ?_ | refine brT (eqT_self _ _) ?_ | refine brAA ?_ | (refine brD ?_ ?_; focus omega) | (refine brDn ?_ ?_; focus omega) | (refine needNth ?_ ?_; focus omega))
    obtain ⟨q1, q2⟩ := add_at hR ha' hm' h1
    refine h _ q1 (fun i j => by rw [q2 i j]; unfold Pr; exact ⟨fun q => q.imp id fun q => ⟨h1, h2, h3, q⟩, fun q => q.imp id fun q => q.2.2.2⟩) ?_
    rw [List.getElem?_set_ne (by omega), List.getElem?_set_ne (by omega)]
  · repeat' (first | refine brT rfl ?_ | refine brT (eqT_self _ _) ?_ | refine brAA ?_ | (refine brD ?_ ?_; focus omega) | (refine brDn ?_ ?_; focus omega) | (refine needNth ?_ ?_; focus omega))
    obtain ⟨q1, q2⟩ := add_at hR hm' ha' (fun e => h1 e.symm)
    refine h _ q1 (fun i j => by rw [q2 i j]; unfold Pr; exact ⟨fun q => q.imp id fun q => ⟨h1, h2, h3, q.symm⟩, fun q => q.imp id fun q => q.2.2.2.symm⟩) ?_
    rw [List.getElem?_set_ne (by omega), List.getElem?_set_ne (by omega)]
theorem l14r14_ok {n a b : Nat} {R : BB} {A1 A2 was : List Bool} {M : LM} {c : List Int} {s1 s4 s5 : Int} {k : Int → Int → Int → Int → Int → BB → List Bool → List Bool → LM → List Int → List Bool → Prop} (hn : n ≤ 8192) (hR : Sq n R) (ha : a < n) (hb : b < n) (hab : a ≠ b) (ha0 : a ≠ 0)
    (hnb : ∀ m, At R b m → m ≠ b ∧ m ≠ a ∧ m ≠ 0) {y : List Bool} (hy : R[b]? = some y)
    (h : ∀ R', Sq n R' → (∀ i j, At R' i j ↔ At R i j ∨ ∃ m, At R b m ∧ Pr a m i j) → k s1 (a : Int) (b : Int) s4 s5 R' A1 A2 M c was) :
    l14r14 k s1 (a : Int) (b : Int) s4 s5 (y.length : Int) 0 R b A1 A2 M y c was := by
  have hl := hR.len
  obtain ⟨hbR, hyb⟩ := List.getElem?_eq_some_iff.1 hy
  have hyl : y.length = n := by rw [← hyb]; exact hR.get hbR
  have hAt : ∀ m, At R b m ↔ Tr y m := fun m => by rw [at_here hbR, hyb]
  constructor
  intro I hI
  have key := upInd (N := n) (M := fun m => ∀ R', Sq n R' → (∀ i j, At R' i j ↔ At R i j ∨ ∃ m', m' < m ∧ At R b m' ∧ Pr a m' i j) → R'[b]? = some y → I s1 (a : Int) (b : Int) s4 s5 (y.length : Int) (m : Int) R' b A1 A2 M y c was)
    (by
      intro R' q1 q2 q3
      apply hI
      rw [set_self q3]
      refine brDn (by omega) (h R' q1 fun i j => ?_)
      rw [q2 i j]
      refine or_congr Iff.rfl ⟨fun ⟨m, _, q⟩ => ⟨m, q⟩, fun ⟨m, q, q'⟩ => ⟨m, ?_, q, q'⟩⟩
      have := tr_lt ((hAt m).1 q)
      omega)
    (by
      intro m hm ih R' q1 q2 q3
      apply hI
      have hT : Tr y m ↔ y[m]'(by omega) = true := tr_get (by omega)
      rw [wrapS (by omega), Int.toNat_natCast]
      refine brD (by omega) (brD (by omega) (needNth (by omega) (brB (fun e => ?_) fun e => ih R' q1 (fun i j => ?_) q3)))
      · have hbm := (hAt m).2 (hT.2 e)
        obtain ⟨w1, w2, w3⟩ := hnb m hbm
        refine c38v2_ok q1 ha hm (fun e => w2 e.symm) ha0 w3 hab w1 fun R2 g1 g2 g3 => ih R2 g1 (fun i j => ?_) (g3.trans q3)
        rw [g2 i j, q2 i j]
        constructor
        · rintro ((w | ⟨m', w1, w⟩) | w)
          · exact .inl w
          · exact .inr ⟨m', by omega, w⟩
          · exact .inr ⟨m, by omega, hbm, w⟩
        · rintro (w | ⟨m', w1, w2, w⟩)
          · exact .inl (.inl w)
          · by_cases q : m' = m
            · subst q; exact .inr w
            · exact .inl (.inr ⟨m', by omega, w2, w⟩)
      · rw [q2 i j]
        refine or_congr Iff.rfl ⟨fun ⟨m', w1, w⟩ => ⟨m', by omega, w⟩, fun ⟨m', w1, w2, w⟩ => ⟨m', ?_, w2, w⟩⟩
        by_cases q : m' = m
        · subst q; rw [hT.1 ((hAt m').1 w2)] at e; cases e
        · omega)
    0 (Nat.zero_le _)
  exact key R hR (fun i j => ⟨.inl, fun q => q.elim id fun ⟨m, q, _⟩ => absurd q (by omega)⟩) hy
theorem del_at {n d b : Nat} {R : BB} (hR : Sq n R) (hd : d < R.length) (hb : b < R.length) (hne : d ≠ b) :
    Sq n ((R.set b (R[b].set d false)).set d (R[d].set b false)) ∧ ∀ i j, At ((R.set b (R[b].set d false)).set d (R[d].set b false)) i j ↔ At R i j ∧ ¬ ((i = d ∧ j = b) ∨ (i = b ∧ j = d)) := by
  have h1 := hR.get hd
  have h2 := hR.get hb
  have h3 := hR.len
  refine ⟨(hR.set (by simp [h2])).set (by simp [h1]), fun i j => ?_⟩
  rw [at_set (by simp; omega), at_set hb, tr_set (by omega), tr_set (by omega)]
  by_cases e1 : i = d
  · subst e1
    rw [at_here hd]
    constructor
    · rintro (⟨_, ⟨_, e⟩ | ⟨w, e⟩⟩ | ⟨e, _⟩)
      · cases e
      · refine ⟨e, ?_⟩
        rintro (⟨_, q⟩ | ⟨q, _⟩)
        · exact w q
        · exact hne q
      · exact absurd rfl e
    · rintro ⟨e, q⟩
      exact .inl ⟨rfl, .inr ⟨fun w => q (.inl ⟨rfl, w⟩), e⟩⟩
  · by_cases e2 : i = b
    · subst e2
      rw [at_here hb]
      constructor
      · rintro (⟨e, _⟩ | ⟨_, ⟨_, ⟨_, e⟩ | ⟨w, e⟩⟩ | ⟨e, _⟩⟩)
        · exact absurd e e1
        · cases e
        · refine ⟨e, ?_⟩
          rintro (⟨q, _⟩ | ⟨_, q⟩)
          · exact e1 q
          · exact w q
        · exact absurd rfl e
      · rintro ⟨e, q⟩
        exact .inr ⟨e1, .inl ⟨rfl, .inr ⟨fun w => q (.inr ⟨rfl, w⟩), e⟩⟩⟩
    · constructor
      · rintro (⟨e, _⟩ | ⟨_, ⟨e, _⟩ | ⟨_, e⟩⟩)
        · exact absurd e e1
        · exact absurd e e2
        · exact ⟨e, by rintro (⟨q, _⟩ | ⟨q, _⟩); exact e1 q; exact e2 q⟩
      · rintro ⟨e, _⟩
        exact .inr ⟨e1, .inr ⟨e2, e⟩⟩
theorem l14r28_ok {n b : Nat} {R : BB} {A1 A2 : List Bool} {M : LM} {c : List Int} {s1 s2 s4 s5 : Int} {k : Int → Int → Int → Int → Int → BB → List Bool → List Bool → LM → List Int → Prop} (hn : n ≤ 8192) (hR : Sq n R) (hb : b < n)
    (h : ∀ R', Sq n R' → (∀ i j, At R' i j ↔ At R i j ∧ i ≠ b ∧ j ≠ b) → k s1 s2 (b : Int) s4 s5 R' A1 A2 M c) :
    l14r28 k s1 s2 (b : Int) s4 s5 (n : Int) 0 R A1 A2 M c := by
  constructor
  intro I hI
  have key := upInd (N := n) (M := fun m => ∀ R', Sq n R' → (∀ i j, At R' i j ↔ At R i j ∧ ¬ ((i = b ∧ j < m) ∨ (j = b ∧ i < m))) → I s1 s2 (b : Int) s4 s5 (n : Int) (m : Int) R' A1 A2 M c)
    (by
      intro R' q1 q2
      apply hI
      refine brDn (by omega) (h R' q1 fun i j => ?_)
      rw [q2 i j]
      have hin : ∀ {i j}, At R i j → i < n ∧ j < n := fun {i j} ⟨y, e, q⟩ => by
        have h1 := (List.getElem?_eq_some_iff.1 e).1
        have h2 := hR.row y (List.mem_of_getElem? e)
        have h3 := tr_lt q
        have h4 := hR.len
        omega
      constructor
      · rintro ⟨w1, w2⟩
        have := hin w1
        exact ⟨w1, fun e => w2 (.inl ⟨e, this.2⟩), fun e => w2 (.inr ⟨e, this.1⟩)⟩
      · rintro ⟨w1, w2, w3⟩
        exact ⟨w1, by rintro (⟨e, _⟩ | ⟨e, _⟩); exact w2 e; exact w3 e⟩)
    (by
      intro m hm ih R' q1 q2
      apply hI
      have hl := q1.len
      have hb' : b < R'.length := by omega
      have hm' : m < R'.length := by omega
      have g1 := q1.get hb'
      have g2 := q1.get hm'
      rw [wrapS (by omega), Int.toNat_natCast, Int.toNat_natCast]
      refine brD (by omega) (brD (by omega) (brD (by omega) ?_))
      have fin : ∀ R2, Sq n R2 → (∀ i j, At R2 i j ↔ At R' i j ∧ ¬ ((i = b ∧ j = m) ∨ (i = m ∧ j = b))) → I s1 s2 (b : Int) s4 s5 (n : Int) ((m + 1 : Nat) : Int) R2 A1 A2 M c := fun R2 w1 w2 => ih R2 w1 fun i j => by
        rw [w2 i j, q2 i j]
        constructor
        · rintro ⟨⟨e, e1⟩, e2⟩
          refine ⟨e, ?_⟩
          rintro (⟨w, w'⟩ | ⟨w, w'⟩)
          · by_cases q : j = m
            · exact e2 (.inl ⟨w, q⟩)
            · exact e1 (.inl ⟨w, by omega⟩)
          · by_cases q : i = m
            · exact e2 (.inr ⟨q, w⟩)
            · exact e1 (.inr ⟨w, by omega⟩)
        · rintro ⟨e, e1⟩
          refine ⟨⟨e, ?_⟩, ?_⟩
          · rintro (⟨w, w'⟩ | ⟨w, w'⟩)
            · exact e1 (.inl ⟨w, by omega⟩)
            · exact e1 (.inr ⟨w, by omega⟩)
          · rintro (⟨w, w'⟩ | ⟨w, w'⟩)
            · exact e1 (.inl ⟨w, by omega⟩)
            · exact e1 (.inr ⟨w', by omega⟩)
      by_cases hbm : b = m
      · subst hbm
        have f1 := fin (R'.set b ((R'[b].set b false).set b false)) (q1.set (by simp [g1])) fun i j => by
          rw [at_set hb', tr_set (by simp; omega), tr_set (by omega)]
          by_cases e : i = b
          · subst e
            rw [at_here hb']
            constructor
            · rintro (⟨_, ⟨_, w⟩ | ⟨w, ⟨_, w2⟩ | ⟨_, w2⟩⟩⟩ | ⟨w, _⟩)
              · cases w
              · cases w2
              · exact ⟨w2, by rintro (⟨_, q⟩ | ⟨_, q⟩) <;> exact w q⟩
              · exact absurd rfl w
            · rintro ⟨w, w2⟩
              exact .inl ⟨rfl, .inr ⟨fun q => w2 (.inl ⟨rfl, q⟩), .inr ⟨fun q => w2 (.inl ⟨rfl, q⟩), w⟩⟩⟩
          · constructor
            · rintro (⟨w, _⟩ | ⟨_, w⟩)
              · exact absurd w e
              · exact ⟨w, by rintro (⟨q, _⟩ | ⟨q, _⟩) <;> exact e q⟩
            · rintro ⟨w, _⟩
              exact .inr ⟨e, w⟩
        refine ⟨?_, ?_⟩
        · repeat' (first | refine brT rfl ?_ | refine brT (eqT_self _ _) ?_ | refine brAA ?_ | (refine brD ?_ ?_; focus omega) | (refine brDn ?_ ?_; focus omega) | (refine needNth ?_ ?_; focus omega))
          exact brD (by rw [List.length_set]; omega) (needNth (by rw [List.length_set]; omega) f1)
        · repeat' (first | refine brT rfl ?_ | refine brT (eqT_self _ _) ?_ | refine brAA ?_ | (refine brD ?_ ?_; focus omega) | (refine brDn ?_ ?_; focus omega) | (refine needNth ?_ ?_; focus omega))
          exact brD (by rw [List.length_set]; omega) (needNth (by rw [List.length_set]; omega) f1)
      · obtain ⟨w1, w2⟩ := del_at q1 hb' hm' hbm
        obtain ⟨w3, w4⟩ := del_at q1 hm' hb' (fun e => hbm e.symm)
        refine ⟨?_, ?_⟩
        · repeat' (first | refine brT rfl ?_ | refine brT (eqT_self _ _) ?_ | refine brAA ?_ | (refine brD ?_ ?_; focus omega) | (refine brDn ?_ ?_; focus omega) | (refine needNth ?_ ?_; focus omega))
          exact fin _ w1 w2
        · repeat' (first | refine brT rfl ?_ | refine brT (eqT_self _ _) ?_ | refine brAA ?_ | (refine brD ?_ ?_; focus omega) | (refine brDn ?_ ?_; focus omega) | (refine needNth ?_ ?_; focus omega))
          exact fin _ w3 fun i j => by rw [w4 i j, or_comm])
    0 (Nat.zero_le _)
  exact key R hR fun i j => ⟨fun q => ⟨q, by rintro (⟨_, w⟩ | ⟨_, w⟩) <;> omega⟩, And.left⟩
theorem l14r22_ok {n a : Nat} {R : BB} {A1 A2 was : List Bool} {M : LM} {c : List Int} {s1 s3 s4 : Int} {k : Int → Int → Int → BB → List Bool → List Bool → LM → List Int → Prop} (hn : n ≤ 8192) (hR : Sq n R) (ha : a < n) (hi : ¬ At R a a) (hw : was.length = n) {y : List Bool} (hy : R[a]? = some y)
    (h : ∀ V, Sq n V → (∀ i j, At V i j ↔ At R i j ∧ ¬ ((i = a ∧ ¬ Tr was j) ∨ (j = a ∧ At R a i ∧ ¬ Tr was i))) → k s1 s3 s4 V A1 A2 M c) :
    l14r22 k s1 (a : Int) s3 s4 (n : Int) 0 R a A1 A2 M y c was := by
  constructor
  intro I hI
  have key := upInd (N := n) (M := fun m => ∀ R' y', Sq n R' → y'.length = n → (∀ i j, At (R'.set a y') i j ↔ At R i j ∧ ¬ ((i = a ∧ j < m ∧ ¬ Tr was j) ∨ (j = a ∧ i < m ∧ At R a i ∧ ¬ Tr was i))) → I s1 (a : Int) s3 s4 (n : Int) (m : Int) R' a A1 A2 M y' c was)
    (by
      intro R' y' q1 q2 q3
      apply hI
      refine brDn (by omega) (h _ (q1.set q2) fun i j => ?_)
      rw [q3 i j]
      have hin : ∀ {i j}, At R i j → i < n ∧ j < n := fun {i j} ⟨y, e, q⟩ => by
        have h1 := (List.getElem?_eq_some_iff.1 e).1
        have h2 := hR.row y (List.mem_of_getElem? e)
        have h3 := tr_lt q
        have h4 := hR.len
        omega
      constructor
      · rintro ⟨w1, w2⟩
        have := hin w1
        refine ⟨w1, ?_⟩
        rintro (⟨e, w⟩ | ⟨e, w⟩)
        · exact w2 (.inl ⟨e, this.2, w⟩)
        · exact w2 (.inr ⟨e, this.1, w⟩)
      · rintro ⟨w1, w2⟩
        refine ⟨w1, ?_⟩
        rintro (⟨e, _, w⟩ | ⟨e, _, w⟩)
        · exact w2 (.inl ⟨e, w⟩)
        · exact w2 (.inr ⟨e, w⟩))
    (by
      intro m hm ih R' y' q1 q2 q3
      apply hI
      have hl := q1.len
      have ha' : a < R'.length := by omega
      have hm' : m < R'.length := by omega
      have g2 := q1.get hm'
      have hV := q1.set (i := a) q2
      have haV : a < (R'.set a y').length := by simp; omega
      have hmV : m < (R'.set a y').length := by simp; omega
      have hVa : (R'.set a y')[a] = y' := by simp
      have hT : Tr y' m ↔ y'[m]'(by omega) = true := tr_get (by omega)
      have hW : Tr was m ↔ was[m]'(by omega) = true := tr_get (by omega)
      have hy' : Tr y' m ↔ At R a m := by
        have := q3 a m
        rw [at_here haV, hVa] at this
        rw [this]
        refine ⟨And.left, fun w => ⟨w, ?_⟩⟩
        rintro (⟨_, q, _⟩ | ⟨q, _⟩)
        · omega
        · subst q; exact hi w
      have same : (At R a m → Tr was m) → I s1 (a : Int) s3 s4 (n : Int) ((m + 1 : Nat) : Int) R' a A1 A2 M y' c was := fun hs => ih R' y' q1 q2 fun i j => by
        rw [q3 i j]
        constructor
        · rintro ⟨w1, w2⟩
          refine ⟨w1, ?_⟩
          rintro (⟨e, w3, w4⟩ | ⟨e, w3, w4, w5⟩)
          · by_cases q : j = m
            · subst q; subst e; exact w4 (hs w1)
            · exact w2 (.inl ⟨e, by omega, w4⟩)
          · by_cases q : i = m
            · subst q; exact w5 (hs w4)
            · exact w2 (.inr ⟨e, by omega, w4, w5⟩)
        · rintro ⟨w1, w2⟩
          refine ⟨w1, ?_⟩
          rintro (⟨e, w3, w4⟩ | ⟨e, w3, w4⟩)
          · exact w2 (.inl ⟨e, by omega, w4⟩)
          · exact w2 (.inr ⟨e, by omega, w4⟩)
      rw [wrapS (by omega), Int.toNat_natCast, Int.toNat_natCast]
      refine brD (by omega) (brD (by omega) (needNth (by omega) (brB (fun e => brD (by omega) (needNth (by omega) (brB (fun e2 => ?_) fun e2 => same fun _ => hW.2 (by simpa using e2)))) fun e => same fun w => by rw [hT.1 (hy'.2 w)] at e; cases e)))
      have ham := hy'.1 (hT.2 e)
      have hnw : ¬ Tr was m := fun w => by rw [hW.1 w] at e2; cases e2
      have hne : m ≠ a := fun q => by subst q; exact hi ham
      have hVm : (R'.set a y')[m] = R'[m] := by rw [List.getElem_set_ne (fun q => hne q.symm)]
      have fin : I s1 (a : Int) s3 s4 (n : Int) ((m + 1 : Nat) : Int) (R'.set m (R'[m].set a false)) a A1 A2 M (y'.set m false) c was := by
        obtain ⟨w1, w2⟩ := del_at hV haV hmV (fun q => hne q.symm)
        rw [hVa, hVm, List.set_comm _ _ (fun q => hne q.symm), List.set_set] at w2
        refine ih _ _ (q1.set (by simp [g2])) (by simp [q2]) fun i j => ?_
        rw [w2 i j, q3 i j]
        constructor
        · rintro ⟨⟨v1, v2⟩, v3⟩
          refine ⟨v1, ?_⟩
          rintro (⟨u1, u2, u3⟩ | ⟨u1, u2, u3, u4⟩)
          · by_cases q : j = m
            · exact v3 (.inl ⟨u1, q⟩)
            · exact v2 (.inl ⟨u1, by omega, u3⟩)
          · by_cases q : i = m
            · exact v3 (.inr ⟨q, u1⟩)
            · exact v2 (.inr ⟨u1, by omega, u3, u4⟩)
        · rintro ⟨v1, v2⟩
          refine ⟨⟨v1, ?_⟩, ?_⟩
          · rintro (⟨u1, u2, u3⟩ | ⟨u1, u2, u3⟩)
            · exact v2 (.inl ⟨u1, by omega, u3⟩)
            · exact v2 (.inr ⟨u1, by omega, u3⟩)
          · rintro (⟨u1, u2⟩ | ⟨u1, u2⟩)
            · exact v2 (.inl ⟨u1, by omega, by rw [u2]; exact hnw⟩)
            · exact v2 (.inr ⟨u2, by omega, by rw [u1]; exact ham, by rw [u1]; exact hnw⟩)
      refine brD (by omega) (brD (by omega) ⟨?_, ?_⟩)
      · repeat' (first | refine brT rfl ?_ | refine brT (eqT_self _ _) ?_ | refine brAA ?_ | (refine brD ?_ ?_; focus omega) | (refine brDn ?_ ?_; focus omega) | (refine needNth ?_ ?_; focus omega))
        exact fin
      · repeat' (first | refine brT rfl ?_ | refine brT (eqT_self _ _) ?_ | refine brAA ?_ | (refine brD ?_ ?_; focus omega) | (refine brDn ?_ ?_; focus omega) | (refine needNth ?_ ?_; focus omega))
        exact fin)
    0 (Nat.zero_le _)
  obtain ⟨haR, hya⟩ := List.getElem?_eq_some_iff.1 hy
  refine key R y hR (by rw [← hya]; exact hR.get haR) fun i j => ?_
  rw [set_self hy]
  refine ⟨fun w => ⟨w, ?_⟩, And.left⟩
  rintro (⟨_, q, _⟩ | ⟨_, q, _⟩) <;> omega
inductive Rt (c : List Int) : Nat → Nat → Prop
  | base {a : Nat} : c[a]? = some (a : Int) → Rt c a a
  | step {r s a : Nat} : c[r]? = some (s : Int) → s ≠ r → Rt c s a → Rt c r a
theorem Rt.root {c : List Int} {r a : Nat} (h : Rt c r a) : c[a]? = some (a : Int) := by
  induction h with
  | base h => exact h
  | step _ _ _ ih => exact ih
theorem Rt.lt {c : List Int} {r a : Nat} (h : Rt c r a) : r < c.length := by
  cases h with
  | base h => exact (List.getElem?_eq_some_iff.1 h).1
  | step h _ _ => exact (List.getElem?_eq_some_iff.1 h).1
theorem Rt.uniq {c : List Int} {r a b : Nat} (h : Rt c r a) (h2 : Rt c r b) : a = b := by
  induction h with
  | base h =>
    cases h2 with
    | base _ => rfl
    | step q1 q2 _ => rw [h] at q1; have := Option.some.inj q1; omega
  | @step r s a q1 q2 _ ih =>
    cases h2 with
    | base h => rw [h] at q1; have := Option.some.inj q1; omega
    | @step _ s2 _ w1 w2 w3 =>
      rw [q1] at w1
      have e : s = s2 := by have := Option.some.inj w1; omega
      subst e
      exact ih w3
theorem Rt.set {c : List Int} {a b r x : Nat} (hb : c[b]? = some (b : Int)) (ha : c[a]? = some (a : Int)) (hab : a ≠ b) (h : Rt c r x) : Rt (c.set b (a : Int)) r (if x = b then a else x) := by
  have hbl := (List.getElem?_eq_some_iff.1 hb).1
  have hra : Rt (c.set b (a : Int)) a a := .base (by rw [List.getElem?_set_ne (fun q => hab q.symm)]; exact ha)
  induction h with
  | @base x h =>
    by_cases e : x = b
    · rw [if_pos e, e]
      exact .step (by rw [List.getElem?_set_self hbl]) hab hra
    · rw [if_neg e]
      exact .base (by rw [List.getElem?_set_ne (fun q => e q.symm)]; exact h)
  | @step r s x q1 q2 _ ih =>
    have hrb : r ≠ b := fun q => by subst q; rw [hb] at q1; have := Option.some.inj q1; omega
    exact .step (by rw [List.getElem?_set_ne (fun q => hrb q.symm)]; exact q1) q2 ih
theorem c17_ok {c : List Int} {r a : Nat} {k : Int → Prop} (h : Rt c r a) (hk : k (a : Int)) : c17 c (r : Int) k := by
  constructor
  constructor
  intro I hI
  induction h with
  | @base a h =>
    apply hI
    obtain ⟨hl, e⟩ := List.getElem?_eq_some_iff.1 h
    refine needAt hl ?_
    rw [e]
    exact brF (by simp) hk
  | @step r s a q1 q2 _ ih =>
    apply hI
    obtain ⟨hl, e⟩ := List.getElem?_eq_some_iff.1 q1
    refine needAt hl ?_
    rw [e]
    exact brN (fun _ => needAt hl (by rw [e]; exact ih hk)) fun q => absurd q (by omega)
structure Cs (n : Nat) (E : Nat → Nat → Prop) (A1 A2 : List Bool) (R : BB) (T : List Bool) (c : List Int) : Prop where
  sq : Sq n R
  sym : ∀ i j, At R i j → At R j i
  irr : ∀ i, ¬ At R i i
  nz : ∀ i j, At R i j → i ≠ 0
  l2 : T.length = n
  lc : c.length = n
  rt : ∀ r, r < n → ∃ a, a < n ∧ Rt c r a
  there : ∀ r, Tr T r ↔ Tr A2 r ∧ c[r]? = some (r : Int)
  slot : ∀ r a, Rt c r a → (Tr A1 r ↔ Tr A1 a)
  cls : ∀ r a, Rt c r a → r ≠ a → Tr A2 r ∧ Tr A2 a
  adj : ∀ x y a b, E x y → Rt c x a → Rt c y b → a ≠ b ∧ At R a b
theorem Cs.congr {n : Nat} {E : Nat → Nat → Prop} {A1 A2 : List Bool} {R R' : BB} {T : List Bool} {c : List Int} (h : Cs n E A1 A2 R T c) (hs : Sq n R') (hR : ∀ i j, At R' i j ↔ At R i j) : Cs n E A1 A2 R' T c :=
  ⟨hs, fun i j q => (hR j i).2 (h.sym i j ((hR i j).1 q)), fun i q => h.irr i ((hR i i).1 q), fun i j q => h.nz i j ((hR i j).1 q), h.l2, h.lc, h.rt, h.there, h.slot, h.cls, fun x y a b q1 q2 q3 => ⟨(h.adj x y a b q1 q2 q3).1, (hR a b).2 (h.adj x y a b q1 q2 q3).2⟩⟩
theorem Cs.join {n : Nat} {E : Nat → Nat → Prop} {A1 A2 : List Bool} {R R2 : BB} {T : List Bool} {c : List Int} (h : Cs n E A1 A2 R T c) {a b : Nat} (ha : a < n) (hb : b < n) (ra : c[a]? = some (a : Int)) (rb : c[b]? = some (b : Int)) (hab : a ≠ b) (ha0 : a ≠ 0)
    (hn : ¬ At R a b) (hs : Tr A1 a ↔ Tr A1 b) (ta : Tr A2 a) (tb : Tr A2 b) (h1 : Sq n R2) (h2 : ∀ i j, At R2 i j ↔ (At R i j ∨ ∃ m, At R b m ∧ Pr a m i j) ∧ i ≠ b ∧ j ≠ b) : Cs n E A1 A2 R2 (T.set b false) (c.set b (a : Int)) := by
  have hbl : b < c.length := by have := h.lc; omega
  have hnb : ¬ At R b a := fun q => hn (h.sym b a q)
  have back : ∀ r x, Rt (c.set b (a : Int)) r x → ∃ x0, Rt c r x0 ∧ x = (if x0 = b then a else x0) := fun r x q => by
    have hr : r < n := by have := q.lt; rw [List.length_set] at this; have := h.lc; omega
    obtain ⟨x0, _, q0⟩ := h.rt r hr
    exact ⟨x0, q0, q.uniq (Rt.set rb ra hab q0)⟩
  refine ⟨h1, fun i j q => ?_, fun i q => ?_, fun i j q => ?_, by simp [h.l2], by simp [h.lc], fun r hr => ?_, fun r => ?_, fun r x q => ?_, fun r x q hne => ?_, fun x y u v q1 q2 q3 => ?_⟩
  · obtain ⟨q1, q2, q3⟩ := (h2 i j).1 q
    refine (h2 j i).2 ⟨?_, q3, q2⟩
    rcases q1 with q1 | ⟨m, w1, w2, w3, w4, w5⟩
    · exact .inl (h.sym i j q1)
    · exact .inr ⟨m, w1, w2, w3, w4, w5.symm.imp And.symm And.symm⟩
  · obtain ⟨q1 | ⟨m, w1, w2, w3, w4, ⟨e1, e2⟩ | ⟨e1, e2⟩⟩, _⟩ := (h2 i i).1 q
    · exact h.irr i q1
    · exact w2 (e1.symm.trans e2)
    · exact w2 (e2.symm.trans e1)
  · obtain ⟨q1 | ⟨m, w1, w2, w3, w4, ⟨e1, e2⟩ | ⟨e1, e2⟩⟩, _⟩ := (h2 i j).1 q
    · exact h.nz i j q1
    · rw [e1]; exact w3
    · rw [e1]; exact w4
  · obtain ⟨x, hx, q⟩ := h.rt r hr
    refine ⟨_, ?_, Rt.set rb ra hab q⟩
    split <;> omega
  · have hbT : b < T.length := by have := h.l2; omega
    rw [tr_set hbT, h.there r]
    by_cases e : r = b
    · subst e
      rw [List.getElem?_set_self hbl]
      constructor
      · rintro (⟨_, q⟩ | ⟨q, _⟩)
        · cases q
        · exact absurd rfl q
      · rintro ⟨_, q⟩
        have := Option.some.inj q
        omega
    · rw [List.getElem?_set_ne (fun q => e q.symm)]
      constructor
      · rintro (⟨q, _⟩ | ⟨_, q⟩)
        · exact absurd q e
        · exact q
      · exact fun q => .inr ⟨e, q⟩
  · obtain ⟨x0, q0, rfl⟩ := back r x q
    have := h.slot r x0 q0
    split
    · rename_i e; subst e; exact this.trans hs.symm
    · exact this
  · obtain ⟨x0, q0, rfl⟩ := back r x q
    by_cases e : x0 = b
    · subst e
      rw [if_pos rfl]
      refine ⟨?_, ta⟩
      by_cases e2 : r = x0
      · rw [e2]; exact tb
      · exact (h.cls r x0 q0 e2).1
    · rw [if_neg e] at hne ⊢
      exact h.cls r x0 q0 hne
  · obtain ⟨u0, w1, rfl⟩ := back x u q2
    obtain ⟨v0, w2, rfl⟩ := back y v q3
    obtain ⟨g1, g2⟩ := h.adj x y u0 v0 q1 w1 w2
    by_cases e1 : u0 = b
    · subst e1
      have e2 : v0 ≠ u0 := fun q => g1 q.symm
      have e3 : a ≠ v0 := fun q => by rw [← q] at g2; exact hnb g2
      rw [if_pos rfl, if_neg e2]
      exact ⟨e3, (h2 a v0).2 ⟨.inr ⟨v0, g2, e3, ha0, h.nz v0 u0 (h.sym _ _ g2), .inl ⟨rfl, rfl⟩⟩, hab, e2⟩⟩
    · by_cases e2 : v0 = b
      · subst e2
        have g3 := h.sym _ _ g2
        have e3 : u0 ≠ a := fun q => by rw [q] at g2; exact hn g2
        rw [if_neg e1, if_pos rfl]
        exact ⟨e3, (h2 u0 a).2 ⟨.inr ⟨u0, g3, fun q => e3 q.symm, ha0, h.nz u0 v0 g2, .inr ⟨rfl, rfl⟩⟩, e1, hab⟩⟩
      · rw [if_neg e1, if_neg e2]
        exact ⟨g1, (h2 u0 v0).2 ⟨.inl g2, e1, e2⟩⟩
theorem j14r12_ok {n : Nat} {E : Nat → Nat → Prop} {A1 A2 : List Bool} {R : BB} {T : List Bool} {c : List Int} {M : LM} {K s4 s5 : Int} (hn : n ≤ 8192) (hA1 : A1.length = n) (h : Cs n E A1 A2 R T c) {a b : Nat} (ha : a < n) (hb : b < n) (ra : c[a]? = some (a : Int)) (rb : c[b]? = some (b : Int)) (hab : a ≠ b) (ha0 : a ≠ 0)
    (hnab : ¬ At R a b) (hs : Tr A1 a ↔ Tr A1 b) (ta : Tr A2 a) (tb : Tr A2 b) {k1 k2 : Int → Int → Int → BB → List Bool → List Bool → LM → List Int → Prop}
    (h1 : ∀ R', Cs n E A1 A2 R' T c → k1 K s4 s5 R' A1 T M c) (h2 : ∀ R' T' c', Cs n E A1 A2 R' T' c' → k2 K s4 s5 R' A1 T' M c') : j14r12 k1 k2 K (a : Int) (b : Int) s4 s5 R A1 T M c := by
  have hl := h.sq.len
  have hlT := h.l2
  have hlc := h.lc
  have haR : a < R.length := by omega
  have hbR : b < R.length := by omega
  have hra := h.sq.get haR
  have hset : R.set a R[a] = R := set_self (List.getElem?_eq_getElem haR)
  have hnba : ¬ At R b a := fun q => hnab (h.sym b a q)
  have hlb : (R[b]).length = n := h.sq.get hbR
  have hwas : ∀ j, Tr R[a] j ↔ At R a j := fun j => (at_here haR).symm
  constructor
  rw [Int.toNat_natCast, Int.toNat_natCast]
  refine brD (by omega) (needNth haR (needNth haR (c39_ok (by omega) (brD (by omega) (needNth hbR (brDn (by omega) (needNth hbR ?_)))))))
  rw [hset]
  refine l14r14_ok hn h.sq ha hb hab ha0 (fun m q => ⟨fun e => h.irr b (by rw [e] at q; exact q), fun e => hnba (by rw [e] at q; exact q), h.nz m b (h.sym b m q)⟩) (List.getElem?_eq_getElem hbR) fun R1 q1 q2 => ?_
  have hl1 := q1.len
  have haR1 : a < R1.length := by omega
  have hbR1 : b < R1.length := by omega
  have irr1 : ¬ At R1 a a := fun q => by
    rcases (q2 a a).1 q with q | ⟨m, w1, w2, w3, w4, ⟨e1, e2⟩ | ⟨e1, e2⟩⟩
    · exact h.irr a q
    · exact w2 e2
    · exact w2 e1
  have merge : ∀ R3 T3 c993, R3 = R1 → T3 = T → c993 = c → l14r28
      (fun z45 z46 z47 z48 z49 z50 z51 z52 z53 z54 => br (decide ((0 : Int) ≤ z47 ∧ (z47 : Int) < (((List.length z54) : Nat) : Int)))
                   (need False (z54)[(Int.toNat z47)]? fun y55 =>
                    br (decide ((0 : Int) ≤ z47 ∧ (z47 : Int) < (((List.length z52) : Nat) : Int)))
                     (need False (z52)[(Int.toNat z47)]? fun y56 =>
                      k2 z45 z48 z49 z50 z51 (List.set z52 (Int.toNat z47) false) z53 (List.set z54 (Int.toNat z47) z46))
                     False)
                   False)
      K (a : Int) (b : Int) s4 s5 (n : Int) 0 R3 A1 T3 M c993 := by
    rintro R3 T3 c993 rfl rfl rfl
    refine l14r28_ok hn q1 hb fun R2 w1 w2 => ?_
    show br (decide ((0 : Int) ≤ (b : Int) ∧ (b : Int) < (((List.length c993) : Nat) : Int))) (need False (c993)[(Int.toNat (b : Int))]? fun y55 => br (decide ((0 : Int) ≤ (b : Int) ∧ (b : Int) < (((List.length T3) : Nat) : Int))) (need False (T3)[(Int.toNat (b : Int))]? fun y56 => k2 K s4 s5 R2 A1 (List.set T3 (Int.toNat (b : Int)) false) M (List.set c993 (Int.toNat (b : Int)) (a : Int))) False) False
    rw [Int.toNat_natCast]
    refine brD (by omega) (needNth (by omega) (brD (by omega) (needNth (by omega) (h2 _ _ _ (h.join ha hb ra rb hab ha0 hnab hs ta tb w1 fun i j => ?_)))))
    rw [w2 i j, q2 i j]
  refine c40_ok hn q1 ha irr1 fun u v => ?_
  have hy1 : (R1[b]).length = n := q1.get hbR1
  have hy2 : (R1[a]).length = n := q1.get haR1
  have hset1 : R1.set b R1[b] = R1 := set_self (List.getElem?_eq_getElem hbR1)
  have mrg : ∀ {k' : Int → Int → Int → Int → Int → BB → List Bool → List Bool → LM → List Int → Prop}, l14r28 k' K (a : Int) (b : Int) s4 s5 (n : Int) 0 R1 A1 T M c → br (decide ((0 : Int) ≤ (b : Int) ∧ (b : Int) < (((List.length R1) : Nat) : Int))) (need False (R1)[(Int.toNat (b : Int))]? fun y43 => need False (R1)[(Int.toNat (b : Int))]? fun y44 => l14r28 k' K (a : Int) (b : Int) s4 s5 (((List.length y44) : Nat) : Int) 0 (List.set R1 (Int.toNat (b : Int)) y44) A1 T M c) False := by
    intro k' hk
    rw [Int.toNat_natCast]
    refine brD (by omega) (needNth hbR1 (needNth hbR1 ?_))
    rw [hset1, hy1]
    exact hk
  refine brB (fun _ => ?_) fun _ => mrg (merge R1 T c rfl rfl rfl)
  have ha1 : a < A1.length := by omega
  rw [Int.toNat_natCast]
  refine brD (by omega) (needNth ha1 (brB (fun _ => ?_) fun _ => mrg (merge R1 T c rfl rfl rfl)))
  refine brD (by omega) (needNth haR1 (needNth haR1 ?_))
  rw [hy2]
  refine l14r22_ok hn q1 ha irr1 hra (List.getElem?_eq_getElem haR1) fun V v1 v2 => h1 V (h.congr v1 fun i j => ?_)
  rw [v2 i j, q2 i j]
  constructor
  · rintro ⟨w | ⟨m, w1, w2, w3, w4, ⟨rfl, rfl⟩ | ⟨rfl, rfl⟩⟩, w5⟩
    · exact w
    · exact (hwas _).1 (Classical.byContradiction fun q => w5 (.inl ⟨rfl, q⟩))
    · refine h.sym _ _ ((hwas _).1 (Classical.byContradiction fun q => w5 (.inr ⟨rfl, (q2 _ _).2 (.inr ⟨_, w1, w2, w3, w4, .inl ⟨rfl, rfl⟩⟩), q⟩)))
  · intro w
    refine ⟨.inl w, ?_⟩
    rintro (⟨rfl, q⟩ | ⟨rfl, _, q⟩)
    · exact q ((hwas _).2 w)
    · exact q ((hwas _).2 (h.sym _ _ w))
theorem minI_nat {u v : Nat} : minI (u : Int) (v : Int) = ((min u v : Nat) : Int) := by unfold minI; split <;> omega
theorem maxI_nat {u v : Nat} : maxI (u : Int) (v : Int) = ((max u v : Nat) : Int) := by unfold maxI; split <;> omega
def Mo (n : Nat) (A2 : List Bool) (M : LM) : Prop := ∀ m ∈ M, ∃ u v : Nat, m = [(u : Int), (v : Int)] ∧ u < n ∧ v < n ∧ u ≠ 0 ∧ v ≠ 0 ∧ Tr A2 u ∧ Tr A2 v
theorem l14r8_ok {n : Nat} {E : Nat → Nat → Prop} {A1 A2 : List Bool} {R : BB} {T : List Bool} {c : List Int} {M : LM} {K : Int} (hn : n ≤ 8192) (hA1 : A1.length = n) (hM : M.length ≤ 8192) (hmo : Mo n A2 M) (h0 : ¬ Tr A2 0) (h : Cs n E A1 A2 R T c)
    {k : BB → List Bool → List Bool → LM → List Int → Prop} (hk : ∀ R' T' c', Cs n E A1 A2 R' T' c' → k R' A1 T' M c') : l14r8 k K (M.length : Int) 0 R A1 T M c := by
  constructor
  intro I hI
  have key := upInd (N := M.length) (M := fun m => ∀ R' T' c', Cs n E A1 A2 R' T' c' → I K (M.length : Int) (m : Int) R' A1 T' M c')
    (by
      intro R' T' c' q
      apply hI
      exact brDn (by omega) (hk R' T' c' q))
    (by
      intro m hm ih R T c q
      apply hI
      obtain ⟨u, v, e, hu, hv, hu0, hv0, tu, tv⟩ := hmo _ (List.getElem_mem hm)
      have hl := q.sq.len
      have hlT := q.l2
      have hlc := q.lc
      rw [wrapS (by omega), Int.toNat_natCast]
      refine brD (by omega) (brD (by omega) (needNth hm ?_))
      rw [e]
      refine needS rfl (needS rfl (needS rfl (needS rfl ?_)))
      rw [minI_nat, maxI_nat]
      have tmin : Tr A2 (min u v) ∧ min u v ≠ 0 ∧ min u v < n := by
        rcases Nat.le_total u v with w | w
        · rw [Nat.min_eq_left w]; exact ⟨tu, hu0, hu⟩
        · rw [Nat.min_eq_right w]; exact ⟨tv, hv0, hv⟩
      have tmax : Tr A2 (max u v) ∧ max u v ≠ 0 ∧ max u v < n := by
        rcases Nat.le_total u v with w | w
        · rw [Nat.max_eq_right w]; exact ⟨tv, hv0, hv⟩
        · rw [Nat.max_eq_left w]; exact ⟨tu, hu0, hu⟩
      obtain ⟨a, ha, ra⟩ := q.rt _ tmin.2.2
      obtain ⟨b, hb, rb⟩ := q.rt _ tmax.2.2
      have ta : Tr A2 a := by
        by_cases w : min u v = a
        · rw [← w]; exact tmin.1
        · exact (q.cls _ _ ra w).2
      have tb : Tr A2 b := by
        by_cases w : max u v = b
        · rw [← w]; exact tmax.1
        · exact (q.cls _ _ rb w).2
      have ha0 : a ≠ 0 := fun w => h0 (by rw [← w]; exact ta)
      have haR : a < R.length := by omega
      have hra := q.sq.get haR
      have hset : R.set a R[a] = R := set_self (List.getElem?_eq_getElem haR)
      have next := ih R T c q
      refine c17_ok ra (brT rfl (needS rfl (brT (eqT_self _ _) (brT rfl (needS rfl (brT (eqT_self _ _) (brT (eqT_self _ _) (c17_ok rb ?_))))))))
      refine brE (fun _ => ⟨next, next⟩) fun hab => ?_
      have hab : a ≠ b := by omega
      have hT : Tr R[a] b ↔ (R[a])[b]'(by omega) = true := tr_get (by omega)
      rw [Int.toNat_natCast, Int.toNat_natCast]
      refine brD (by omega) (needNth haR (needNth haR (brT (eqT_self _ _) (brD (by omega) (needNth (by omega) (brB (fun _ => ?_) fun e2 => ?_))))))
      · rw [hset]; exact ⟨next, next⟩
      have hnab : ¬ At R a b := fun w => by rw [hT.1 ((at_here haR).1 w)] at e2; cases e2
      have s1 : Tr A1 a ↔ A1[a]'(by omega) = true := tr_get (by omega)
      have s2 : Tr A1 b ↔ A1[b]'(by omega) = true := tr_get (by omega)
      have go : A1[a]'(by omega) = A1[b]'(by omega) → j14r12 (fun z24 z25 z26 z27 z28 z29 z30 z31 => I z24 z25 (IntKind.wrap .i64 (z26 + 1)) z27 z28 z29 z30 z31) (fun z32 z33 z34 z35 z36 z37 z38 z39 => I z32 z33 (IntKind.wrap .i64 (z34 + 1)) z35 z36 z37 z38 z39) K (a : Int) (b : Int) (M.length : Int) (m : Int) R A1 T M c := fun w =>
        j14r12_ok hn hA1 q ha hb ra.root rb.root hab ha0 hnab (by rw [s1, s2, w]) ta tb (fun R' w => by rw [wrapS (by omega)]; exact ih R' T c w) fun R' T' c' w => by rw [wrapS (by omega)]; exact ih R' T' c' w
      rw [hset]
      have bx : ∀ {x y : Bool} {X Y : Prop}, (x ≠ y → X) → (x = y → Y) → br (!(x == y)) X Y := fun {x y X Y} w1 w2 => by
        cases x <;> cases y
        · exact brF rfl (w2 rfl)
        · exact brT rfl (w1 (by decide))
        · exact brT rfl (w1 (by decide))
        · exact brF rfl (w2 rfl)
      refine ⟨?_, ?_⟩
      · repeat' (first | refine brT rfl ?_ | refine brT (eqT_self _ _) ?_ | refine brAA ?_ | (refine brD ?_ ?_; focus omega) | (refine brDn ?_ ?_; focus omega) | (refine needNth ?_ ?_; focus omega))
        exact bx (fun _ => next) go
      · repeat' (first | refine brT rfl ?_ | refine brT (eqT_self _ _) ?_ | refine brAA ?_ | (refine brD ?_ ?_; focus omega) | (refine brDn ?_ ?_; focus omega) | (refine needNth ?_ ?_; focus omega))
        exact bx (fun _ => next) go)
    0 (Nat.zero_le _)
  exact key R T c h
theorem l14r3_ok {n : Nat} (hn : n ≤ 8192) {K : Int} {R : BB} {A1 A2 : List Bool} {M : LM} {c0 : List Int} (hc : c0.length = n) {k : Int → BB → List Bool → List Bool → LM → List Int → Prop} (h : ∀ c : List Int, c.length = n → (∀ i, i < n → c[i]? = some (i : Int)) → k K R A1 A2 M c) : l14r3 k K (n : Int) 0 R A1 A2 M c0 := by
  constructor
  intro I hI
  have key := upInd (N := n) (M := fun m => ∀ c : List Int, c.length = n → (∀ i, i < m → c[i]? = some (i : Int)) → I K (n : Int) (m : Int) R A1 A2 M c)
    (fun c q1 q2 => hI _ _ _ _ _ _ _ _ (brDn (by omega) (h c q1 q2)))
    (by
      intro m hm ih c q1 q2
      apply hI
      rw [wrapS (by omega), Int.toNat_natCast]
      refine brD (by omega) (brD (by omega) (needNth (by omega) (ih _ (by simp [q1]) fun i hi => ?_)))
      by_cases e : i = m
      · subst e; rw [List.getElem?_set_self (by omega)]
      · rw [List.getElem?_set_ne (fun q => e q.symm)]; exact q2 i (by omega))
    0 (Nat.zero_le _)
  exact key c0 hc fun i hi => absurd hi (by omega)
theorem es_sym {f : FN} {a c : Nat} (h : Es f a c) : Es f c a := by
  rcases h with ⟨i, k, w⟩ | ⟨m, d, r, q1, q2, q3, q4, q5, q6⟩
  · exact .inl ⟨i, k, w.symm⟩
  · exact .inr ⟨m, d, r, q1, q2, q3, q4, q5, q6.symm.imp And.symm And.symm⟩
theorem es_ne {f : FN} {a c : Nat} (h : Es f a c) : a ≠ c ∧ a ≠ 0 := by
  rcases h with ⟨i, k, ⟨x, _, _, _, _, w1, w2, w3⟩ | ⟨x, _, _, _, _, w1, w2, w3⟩⟩ | ⟨m, d, r, q1, q2, q3, q4, q5, ⟨rfl, rfl⟩ | ⟨rfl, rfl⟩⟩
  · exact ⟨w1, w2⟩
  · exact ⟨fun e => w1 e.symm, w3⟩
  · exact ⟨q3, q4⟩
  · exact ⟨fun e => q3 e.symm, q5⟩
theorem gr_mo {f : FN} {n : Nat} {R : BB} {A1 A2 : List Bool} {M : LM} (hf : FOk f n) (g : Gr f n R A1 A2 M) : Mo n A2 M := by
  intro m hm
  obtain ⟨i, k, x, hx, q1, q2, q3, q4, q5⟩ := g.mv m hm
  obtain ⟨b, hb, hbx⟩ := id hx
  have hv := (hf.ins b (List.mem_of_getElem? hb)).2 x (List.mem_of_getElem? hbx)
  have hA : x.2.2.1 ∈ uses x := by unfold uses; simp [q2]
  have hAr := hv.2.1 _ hA
  have hd := hv.2.2
  refine ⟨(dfn x).toNat, x.2.2.1.toNat, by rw [q5, Int.toNat_of_nonneg hd.1, Int.toNat_of_nonneg hAr.1], by omega, by omega, by omega, by omega, (g.there _).2 ⟨by omega, .inr (.inl ⟨i, k, x, hx, .inl (Int.toNat_of_nonneg hd.1).symm⟩)⟩, (g.there _).2 ⟨by omega, .inr (.inl ⟨i, k, x, hx, .inr ?_⟩)⟩⟩
  rw [Int.toNat_of_nonneg hAr.1]; exact hA
theorem c14_ok {f : FN} {n : Nat} {R : BB} {A1 A2 : List Bool} {M : LM} (hf : FOk f n) (g : Gr f n R A1 A2 M) {K : Int} {k : BB → List Bool → List Bool → LM → List Int → Prop} (hk : ∀ R' T' c', Cs n (Es f) A1 A2 R' T' c' → k R' A1 T' M c') : c14 K R A1 A2 M k := by
  have hn := hf.nle
  have hl := g.sq.len
  constructor
  refine brD (by omega) ?_
  rw [List.length_replicate, Int.toNat_natCast, hl]
  refine l14r3_ok hn (by simp) fun c c1 c2 => ?_
  have rt : ∀ {r a}, Rt c r a → r = a := fun {r a} q => by
    have hr : r < n := by have := q.lt; omega
    exact (Rt.base (c2 r hr)).uniq q
  refine l14r8_ok hn g.l1 (by have := g.cnt; omega) (gr_mo hf g) (fun q => ((g.there 0).1 q).1 rfl) ⟨g.sq, fun i j q => (g.rows j i).2 (es_sym ((g.rows i j).1 q)), fun i q => (es_ne ((g.rows i i).1 q)).1 rfl, fun i j q => (es_ne ((g.rows i j).1 q)).2, g.l2, c1, fun r hr => ⟨r, hr, .base (c2 r hr)⟩, fun r => ?_, fun r a q => by rw [rt q], fun r a q w => absurd (rt q) w, fun x y a b q1 q2 q3 => ?_⟩ hk
  · refine ⟨fun q => ⟨q, c2 r ?_⟩, And.left⟩
    have := tr_lt q
    have := g.l2
    omega
  · rw [← rt q2, ← rt q3]
    exact ⟨(es_ne q1).1, (g.rows x y).2 q1⟩
theorem c16_ok {n r low B : Nat} {R : BB} {A1 A2 : List Bool} {M : LM} {has : List Int} (hn : n ≤ 8192) (hR : Sq n R) (hr : r < n) (hh : has.length = n) (hB : ∀ x ∈ has, x < (B : Int)) (hB2 : B ≤ 100000) (hlow : low ≤ 100000) {k : Int → BB → List Bool → List Bool → LM → Prop}
    (h : ∀ m : Nat, low ≤ m → m ≤ max low B → (∀ s, At R r s → has[s]? ≠ some (m : Int)) → k (m : Int) R A1 A2 M) : c16 (r : Int) (low : Int) has R A1 A2 M k := by
  have hl := hR.len
  have hrR : r < R.length := by omega
  have hy := hR.get hrR
  have hset : R.set r R[r] = R := set_self (List.getElem?_eq_getElem hrR)
  -- one pass
  have pass : ∀ (v0 : Nat) {k' : Int → List Int → Int → Bool → BB → List Bool → List Bool → LM → Prop}, v0 ≤ max low B →
      ((∀ s, At R r s → has[s]? ≠ some (v0 : Int)) → k' (r : Int) has (v0 : Int) false R A1 A2 M) → (∀ v : Nat, v0 < v → v ≤ B → k' (r : Int) has (v : Int) true R A1 A2 M) →
      l16r6 k' (r : Int) has (v0 : Int) false ((R[r].length : Nat) : Int) 0 R r A1 A2 M R[r] := by
    intro v0 k' hv0 h1 h2
    constructor
    intro I hI
    have key := upInd (N := n) (M := fun m => ∀ (v : Nat) (ag : Bool), (ag = false → v = v0 ∧ ∀ s, s < m → At R r s → has[s]? ≠ some (v0 : Int)) → (ag = true → v0 < v ∧ v ≤ B) → I (r : Int) has (v : Int) ag ((R[r].length : Nat) : Int) (m : Int) R r A1 A2 M R[r])
      (by
        intro v ag q1 q2
        apply hI
        rw [hset]
        refine brDn (by omega) ?_
        cases ag with
        | true => exact h2 v (q2 rfl).1 (q2 rfl).2
        | false =>
          obtain ⟨rfl, q⟩ := q1 rfl
          refine h1 fun s hs => q s ?_ hs
          have := tr_lt ((at_here hrR).1 hs)
          omega)
      (by
        intro m hm ih v ag q1 q2
        apply hI
        have hT : At R r m ↔ (R[r])[m]'(by omega) = true := (at_here hrR).trans (tr_get (by omega))
        have hm' : m < has.length := by omega
        have hx := hB _ (List.getElem_mem hm')
        have same : (At R r m → has[m] ≠ (v : Int)) → I (r : Int) has (v : Int) ag ((R[r].length : Nat) : Int) ((m + 1 : Nat) : Int) R r A1 A2 M R[r] := fun w => ih v ag (fun e => by
          obtain ⟨rfl, q⟩ := q1 e
          refine ⟨rfl, fun s hs hs2 => ?_⟩
          by_cases e : s = m
          · subst e
            rw [List.getElem?_eq_getElem hm']
            exact fun e2 => w hs2 (Option.some.inj e2)
          · exact q s (by omega) hs2) q2
        rw [wrapS (n := m) (by omega), Int.toNat_natCast]
        refine brD (by omega) (brD (by omega) (needNth (by omega) (brB (fun e => needAt hm' (brE (fun e2 => ?_) fun e2 => same fun _ => e2)) fun e => same fun w => by rw [hT.1 w] at e; cases e)))
        have hv : v < B := by omega
        rw [wrapS (n := v) (by omega)]
        refine ih (v + 1) true (fun w => by cases w) fun _ => ?_
        cases ag with
        | true => have := q2 rfl; omega
        | false => have := (q1 rfl).1; omega)
      0 (Nat.zero_le _)
    exact key v0 false (fun _ => ⟨rfl, fun s hs => absurd hs (by omega)⟩) fun w => by cases w
  constructor
  constructor
  intro I hI
  have key : ∀ d v : Nat, low ≤ v → v ≤ max low B → B - v ≤ d → I (r : Int) has (v : Int) true R A1 A2 M := by
    intro d
    induction d with
    | zero =>
      intro v q1 q2 q3
      apply hI
      rw [Int.toNat_natCast]
      refine brT rfl (brD (by omega) (needNth hrR (needNth hrR (pass v q2 (fun w => hI _ _ _ _ _ _ _ _ (brF rfl (h v q1 q2 w))) fun v' w1 w2 => ?_))))
      omega
    | succ d ih =>
      intro v q1 q2 q3
      apply hI
      rw [Int.toNat_natCast]
      refine brT rfl (brD (by omega) (needNth hrR (needNth hrR (pass v q2 (fun w => hI _ _ _ _ _ _ _ _ (brF rfl (h v q1 q2 w))) fun v' w1 w2 => ?_))))
      exact ih v' (by omega) (by omega) (by omega)
  exact key (B - low) low (Nat.le_refl _) (by omega) (Nat.le_refl _)
theorem c41_ok {P : Int → Prop} {x : List Int} {k : List Int → Prop} (hl : x.length ≤ 8192) (hx : ∀ r ∈ x, P r) (h : ∀ x' : List Int, x'.length = x.length → (∀ r ∈ x', P r) → k x') : c41 x k := by
  constructor
  rw [wrap64 (by omega) (by omega)]
  constructor
  intro I hI
  have key := upInd (N := x.length) (M := fun m => ∀ x' : List Int, x'.length = x.length → (∀ r ∈ x', P r) → I (m : Int) (((x.length : Nat) : Int) - 1 - (m : Int)) x')
    (fun x' q1 q2 => hI _ _ _ (brDn (by omega) (h x' q1 q2)))
    (by
      intro m hm ih x' q1 q2
      apply hI
      by_cases hlt : (m : Int) < ((x.length : Nat) : Int) - 1 - (m : Int)
      · obtain ⟨j, hj⟩ : ∃ j : Nat, ((x.length : Nat) : Int) - 1 - (m : Int) = (j : Int) := ⟨(((x.length : Nat) : Int) - 1 - (m : Int)).toNat, by omega⟩
        rw [hj] at hlt ⊢
        have hj' : j < x'.length := by omega
        have hm' : m < x'.length := by omega
        rw [Int.toNat_natCast, Int.toNat_natCast, wrapS (by omega), wrap64 (a := (j : Int) - 1) (by omega) (by omega)]
        refine brD hlt (brD (by omega) (needNth hj' (brD (by omega) (needNth hm' (brD (by omega) (needNth hm' (brT (eqT_self _ _) (brD (by rw [List.length_set]; omega) (needNth (by rw [List.length_set]; omega) ?_)))))))))
        have := ih ((x'.set m x'[j]).set j x'[m]) (by simp [q1]) fun r hr => ?_
        · rw [show ((x.length : Nat) : Int) - 1 - ((m + 1 : Nat) : Int) = (j : Int) - 1 by omega] at this
          exact this
        · rcases List.mem_or_eq_of_mem_set hr with hr | rfl
          · rcases List.mem_or_eq_of_mem_set hr with hr | rfl
            · exact q2 r hr
            · exact q2 _ (List.getElem_mem hj')
          · exact q2 _ (List.getElem_mem hm')
      · exact brDn hlt (h x' q1 q2))
    0 (Nat.zero_le _)
  have := key x rfl hx
  simpa using this
def Lf (A1 T : List Bool) (r : Nat) : Prop := Tr T r ∧ ¬ Tr A1 r
theorem count_flip {l : List Bool} {m : Nat} (hm : m < l.length) (h : l[m] = false) : (l.set m true).count true = l.count true + 1 := by
  rw [List.count_set hm, h]; simp
theorem count_same {l : List Bool} {m : Nat} (hm : m < l.length) (h : l[m] = false) : (l.set m false).count true = l.count true := by
  rw [List.count_set hm, h]; simp
theorem count_drop {l : List Bool} {m : Nat} (hm : m < l.length) (h : l[m] = true) : (l.set m false).count true + 1 = l.count true := by
  have h1 : 0 < l.count true := List.count_pos_iff.2 (by rw [← h]; exact List.getElem_mem hm)
  rw [List.count_set hm, h]; simp; omega
theorem l15r5_ok {n : Nat} {R : BB} {A1 T : List Bool} {M : LM} {K : Int} {dg : List Int} (hn : n ≤ 8192) (h1 : A1.length = n) (h2 : T.length = n) {k : Int → Int → BB → List Bool → List Bool → LM → List Bool → List Int → Prop}
    (h : ∀ lf : List Bool, lf.length = n → (∀ r, Tr lf r ↔ Lf A1 T r) → k K (lf.count true : Int) R A1 T M lf dg) : l15r5 k K 0 (n : Int) 0 R A1 T M (List.replicate n false) dg := by
  constructor
  intro I hI
  have key := upInd (N := n) (M := fun m => ∀ lf : List Bool, lf.length = n → (∀ r, Tr lf r ↔ r < m ∧ Lf A1 T r) → I K (lf.count true : Int) (n : Int) (m : Int) R A1 T M lf dg)
    (by
      intro lf q1 q2
      apply hI
      refine brDn (by omega) (h lf q1 fun r => ?_)
      rw [q2 r]
      exact ⟨And.right, fun q => ⟨by have := tr_lt q.1; omega, q⟩⟩)
    (by
      intro m hm ih lf q1 q2
      apply hI
      have e1 : Tr T m ↔ T[m]'(by omega) = true := tr_get (by omega)
      have e2 : Tr A1 m ↔ A1[m]'(by omega) = true := tr_get (by omega)
      have hml : m < lf.length := by omega
      have e3 : lf[m] = false := bool_eq fun q => by
        have := (q2 m).1 ((tr_get hml).2 q)
        omega
      have hc := List.count_le_length (a := true) (l := lf)
      have yes : Lf A1 T m → I K ((lf.count true + 1 : Nat) : Int) (n : Int) ((m + 1 : Nat) : Int) R A1 T M (lf.set m true) dg := fun w => by
        have := ih (lf.set m true) (by simp [q1]) fun r => ?_
        · rw [count_flip hml e3] at this; exact this
        · rw [tr_set hml, q2 r]
          constructor
          · rintro (⟨e, _⟩ | ⟨_, w1, w2⟩)
            · rw [e]; exact ⟨by omega, w⟩
            · exact ⟨by omega, w2⟩
          · rintro ⟨w1, w2⟩
            by_cases e : r = m
            · exact .inl ⟨e, rfl⟩
            · exact .inr ⟨e, by omega, w2⟩
      have no : ¬ Lf A1 T m → I K (lf.count true : Int) (n : Int) ((m + 1 : Nat) : Int) R A1 T M (lf.set m false) dg := fun w => by
        have := ih (lf.set m false) (by simp [q1]) fun r => ?_
        · rw [count_same hml e3] at this; exact this
        · rw [tr_set hml, q2 r]
          constructor
          · rintro (⟨_, e⟩ | ⟨_, w1, w2⟩)
            · cases e
            · exact ⟨by omega, w2⟩
          · rintro ⟨w1, w2⟩
            by_cases e : r = m
            · subst e; exact (w w2).elim
            · exact .inr ⟨e, by omega, w2⟩
      rw [wrapS (n := m) (by omega), wrapS (n := lf.count true) (by omega), Int.toNat_natCast]
      have hs : ∀ b : Bool, m < (lf.set m b).length := fun b => by rw [List.length_set]; exact hml
      have gs : ∀ b : Bool, (lf.set m b)[m]? = some b := fun b => by rw [List.getElem?_set_self hml]
      refine brD (by omega) (brD (by omega) (needNth (by omega) (brB (fun t => brD (by omega) (needNth (by omega) (brD (by omega) (needNth hml (brD (by rw [List.length_set]; omega) (needS (gs _) ?_)))))) fun t => brD (by omega) (needNth hml (brD (by rw [List.length_set]; omega) (needS (gs _) (brF rfl (no fun w => by rw [e1.1 w.1] at t; cases t))))))))
      cases hA : A1[m]'(by omega) with
      | false => exact brT rfl (yes ⟨e1.2 t, fun w => by rw [e2.1 w] at hA; cases hA⟩)
      | true => exact brF rfl (no fun w => w.2 (e2.2 hA)))
    0 (Nat.zero_le _)
  have := key (List.replicate n false) (by simp) fun r => ⟨fun q => (tr_rep q).elim, fun q => absurd q.1 (by omega)⟩
  have hz : (List.replicate n false).count true = 0 := by simp [List.count_replicate]
  rw [hz] at this
  exact this
theorem l15r15_ok {n r : Nat} {R : BB} {A1 T lf y : List Bool} {M : LM} {K many s4 s5 : Int} (hn : n ≤ 8192) (hr : r < n) (hy : y.length = n) (hlf : lf.length = n) (hyR : R[r]? = some y) {k : Int → Int → Int → Int → BB → List Bool → List Bool → LM → List Bool → List Int → Prop}
    (h : ∀ dg : List Int, dg.length = n → k K many s4 s5 R A1 T M lf dg) {dg : List Int} (hdg : dg.length = n) : l15r15 k K many (r : Int) s4 s5 (y.length : Int) 0 R r A1 T M y lf dg := by
  constructor
  intro I hI
  have key := upInd (N := n) (M := fun m => ∀ dg : List Int, dg.length = n → I K many (r : Int) s4 s5 (y.length : Int) (m : Int) R r A1 T M y lf dg)
    (fun dg q => hI _ _ _ _ _ _ _ _ _ _ _ _ _ _ _ (by rw [set_self hyR]; exact brDn (by omega) (h dg q)))
    (by
      intro m hm ih dg q
      apply hI
      rw [wrapS (n := m) (by omega), Int.toNat_natCast, Int.toNat_natCast]
      refine brD (by omega) (brD (by omega) (needNth (by omega) (brB (fun _ => brD (by omega) (needNth (by omega) (brB (fun _ => ?_) fun _ => ih dg q))) fun _ => ih dg q)))
      exact brD (by omega) (needNth (by omega) (brD (by omega) (needNth (by omega) (ih _ (by simp [q]))))))
    0 (Nat.zero_le _)
  exact key dg hdg
theorem l15r12_ok {n : Nat} {R : BB} {A1 T lf : List Bool} {M : LM} {K many : Int} (hn : n ≤ 8192) (hR : Sq n R) (hlf : lf.length = n) {k : Int → Int → BB → List Bool → List Bool → LM → List Bool → List Int → Prop}
    (h : ∀ dg : List Int, dg.length = n → k K many R A1 T M lf dg) {dg : List Int} (hdg : dg.length = n) : l15r12 k K many (n : Int) 0 R A1 T M lf dg := by
  have hl := hR.len
  constructor
  intro I hI
  have key := upInd (N := n) (M := fun m => ∀ dg : List Int, dg.length = n → I K many (n : Int) (m : Int) R A1 T M lf dg)
    (fun dg q => hI _ _ _ _ _ _ _ _ _ _ (brDn (by omega) (h dg q)))
    (by
      intro m hm ih dg q
      apply hI
      have hmR : m < R.length := by omega
      rw [Int.toNat_natCast]
      refine brD (by omega) (brD (by omega) (needNth hmR (needNth hmR (l15r15_ok hn hm (hR.get hmR) hlf (List.getElem?_eq_getElem hmR) (fun dg q => ?_) q))))
      rw [wrapS (by omega)]
      exact ih dg q)
    0 (Nat.zero_le _)
  exact key dg hdg
theorem l15r26_ok {n : Nat} {R : BB} {A1 T lf : List Bool} {M : LM} {K s3 s4 : Int} {dg out : List Int} (hn : n ≤ 8192) (hlf : lf.length = n) (hdg : dg.length = n) (hex : ∃ r, Tr lf r) {k : Int → Int → Int → Int → BB → List Bool → List Bool → LM → List Bool → List Int → List Int → Prop}
    (h : ∀ b : Nat, Tr lf b → k K (b : Int) s3 s4 R A1 T M lf dg out) : l15r26 k K (-1) s3 s4 (lf.length : Int) 0 R A1 T M lf dg out := by
  constructor
  intro I hI
  have key := upInd (N := n) (M := fun m => ∀ v : Int, ((v = -1 ∧ ∀ r, r < m → ¬ Tr lf r) ∨ ∃ b : Nat, v = (b : Int) ∧ Tr lf b) → I K v s3 s4 (lf.length : Int) (m : Int) R A1 T M lf dg out)
    (by
      rintro v (⟨_, q⟩ | ⟨b, rfl, q⟩)
      · obtain ⟨r, hr⟩ := hex
        exact (q r (by have := tr_lt hr; omega) hr).elim
      · apply hI
        exact brDn (by omega) (h b q))
    (by
      intro m hm ih v q
      apply hI
      have e1 : Tr lf m ↔ lf[m]'(by omega) = true := tr_get (by omega)
      rw [wrapS (n := m) (by omega), Int.toNat_natCast]
      refine brD (by omega) (brD (by omega) (needNth (by omega) (brB (fun e => ih v ?_) fun e => ?_)))
      · rcases q with ⟨q1, q2⟩ | q
        · refine .inl ⟨q1, fun r hr => ?_⟩
          by_cases w : r = m
          · subst w; exact fun w => by rw [e1.1 w] at e; cases e
          · exact q2 r (by omega)
        · exact .inr q
      · have hTm : Tr lf m := e1.2 (by simpa using e)
        refine brD (by omega) (needNth (by omega) (brB (fun _ => h m hTm) fun _ => ?_))
        rcases q with ⟨q1, q2⟩ | ⟨b, q1, q2⟩
        · subst q1
          exact brD (by omega) (ih _ (.inr ⟨m, rfl, hTm⟩))
        · subst q1
          have hb := tr_lt q2
          refine brDn (by omega) (brD (by omega) (needNth (by omega) (brD (by omega) ?_)))
          rw [Int.toNat_natCast]
          exact needNth (by omega) (brB (fun _ => ih _ (.inr ⟨m, rfl, hTm⟩)) fun _ => ih _ (.inr ⟨b, rfl, q2⟩)))
    0 (Nat.zero_le _)
  exact key (-1) (.inl ⟨rfl, fun r hr => absurd hr (by omega)⟩)
theorem l15r37_ok {n b : Nat} {R : BB} {A1 T lf y : List Bool} {M : LM} {K s2 s3 : Int} {out : List Int} (hn : n ≤ 8192) (hy : y.length = n) (hyR : R[b]? = some y) {k : Int → Int → Int → BB → List Bool → List Bool → LM → List Bool → List Int → List Int → Prop}
    (h : ∀ dg : List Int, dg.length = n → k K s2 s3 R A1 T M lf dg out) {dg : List Int} (hdg : dg.length = n) : l15r37 k K s2 s3 (y.length : Int) 0 R b A1 T M y lf dg out := by
  constructor
  intro I hI
  have key := upInd (N := n) (M := fun m => ∀ dg : List Int, dg.length = n → I K s2 s3 (y.length : Int) (m : Int) R b A1 T M y lf dg out)
    (fun dg q => hI _ _ _ _ _ _ _ _ _ _ _ _ _ _ (by rw [set_self hyR]; exact brDn (by omega) (h dg q)))
    (by
      intro m hm ih dg q
      apply hI
      rw [wrapS (n := m) (by omega), Int.toNat_natCast]
      refine brD (by omega) (brD (by omega) (needNth (by omega) (brB (fun _ => ?_) fun _ => ih dg q)))
      exact brD (by omega) (needNth (by omega) (brD (by omega) (needNth (by omega) (ih _ (by simp [q]))))))
    0 (Nat.zero_le _)
  exact key dg hdg
def Go1 (A1 T : List Bool) (r : Int) : Prop := ∃ m : Nat, r = (m : Int) ∧ Lf A1 T m
theorem l15r23_ok {n : Nat} {R : BB} {A1 T : List Bool} {M : LM} {K : Int} (hn : n ≤ 8192) (hR : Sq n R) (hT : T.length = n) {lf : List Bool} (hlf : lf.length = n) (hLf : ∀ r, Tr lf r → Lf A1 T r) {k : BB → List Bool → List Bool → LM → List Int → Prop}
    (h : ∀ out : List Int, out.length ≤ n → (∀ r ∈ out, Go1 A1 T r) → k R A1 T M out) {dg : List Int} (hdg : dg.length = n) : l15r23 k K (lf.count true : Int) 0 R A1 T M lf dg [] := by
  have hl := hR.len
  have hc := List.count_le_length (a := true) (l := lf)
  constructor
  intro I hI
  have key := upInd (N := lf.count true) (M := fun m => ∀ (l2 : List Bool) (dg out : List Int), l2.length = n → (∀ r, Tr l2 r → Lf A1 T r) → l2.count true + m = lf.count true → dg.length = n → out.length = m → (∀ r ∈ out, Go1 A1 T r) → I K (lf.count true : Int) (m : Int) R A1 T M l2 dg out)
    (by
      intro l2 dg out q1 q2 q3 q4 q5 q6
      apply hI
      exact brDn (by omega) (h out (by omega) q6))
    (by
      intro m hm ih l2 dg out q1 q2 q3 q4 q5 q6
      apply hI
      have hex : ∃ r, Tr l2 r := by
        have h0 : 0 < l2.count true := by omega
        obtain ⟨r, hr, e⟩ := List.mem_iff_getElem.1 (List.count_pos_iff.1 h0)
        exact ⟨r, (tr_get hr).2 e⟩
      refine brD (by omega) (l15r26_ok hn q1 q4 hex fun b hb => ?_)
      have hbl := tr_lt hb
      have hbR : b < R.length := by omega
      have hb1 : l2[b] = true := (tr_get hbl).1 hb
      rw [Int.toNat_natCast]
      refine brD (by omega) (needNth hbl (brT (roomS (by omega)) (brD (by omega) (needNth hbR (needNth hbR (l15r37_ok hn (hR.get hbR) (List.getElem?_eq_getElem hbR) (fun dg q => ?_) q4))))))
      rw [wrapS (by omega)]
      have hcd := count_drop hbl hb1
      refine ih _ dg _ (by simp [q1]) (fun r hr => ?_) (by omega) q (by simp [q5]) fun r hr => ?_
      · rcases (tr_set hbl).1 hr with ⟨_, e⟩ | ⟨_, e⟩
        · cases e
        · exact q2 r e
      · rcases List.mem_append.1 hr with hr | hr
        · exact q6 r hr
        · exact ⟨b, List.mem_singleton.1 hr, q2 b hb⟩)
    0 (Nat.zero_le _)
  exact key lf dg [] hlf hLf rfl hdg rfl fun r hr => by cases hr
theorem c15_ok {n : Nat} {R : BB} {A1 T : List Bool} {M : LM} {K : Int} (hn : n ≤ 8192) (hR : Sq n R) (h1 : A1.length = n) (hT : T.length = n) {k : BB → List Bool → List Bool → LM → List Int → Prop}
    (h : ∀ out : List Int, out.length ≤ n → (∀ r ∈ out, Go1 A1 T r) → k R A1 T M out) : c15 K R A1 T M k := by
  have hl := hR.len
  constructor
  refine brD (by omega) (brD (by omega) ?_)
  rw [Int.toNat_natCast, hl]
  refine l15r5_ok hn h1 hT fun lf q1 q2 => ?_
  rw [hl]
  refine l15r12_ok hn hR q1 (fun dg q => l15r23_ok hn hR hT q1 (fun r hr => (q2 r).1 hr) (fun out w1 w2 => ?_) q) (by simp)
  exact c41_ok (P := Go1 A1 T) (by omega) w2 fun x' v1 v2 => h x' (by omega) v2
theorem set_get {l : List Int} {i r : Nat} {v : Int} (hi : i < l.length) : (l.set i v)[r]? = if r = i then some v else l[r]? := by
  by_cases e : r = i
  · subst e; rw [List.getElem?_set_self hi, if_pos rfl]
  · rw [List.getElem?_set_ne (fun h => e h.symm), if_neg e]
def Mi (n : Nat) (l : List Int) : Prop := l.length = n ∧ ∀ r, r < n → l[r]? = some (-1)
theorem l6r10_ok {n : Nat} (hn : n ≤ 8192) {K s4 : Int} {s5 s6 : List Int} {R : BB} {A1 T : List Bool} {M : LM} {c : List Int} {s12 : Int}
    {k : Int → Int → (List Int) → (List Int) → BB → (List Bool) → (List Bool) → LM → (List Int) → Int → (List Int) → (List Int) → Prop}
    (h : ∀ G L, Mi n G → Mi n L → k K s4 s5 s6 R A1 T M c s12 G L) {G L : List Int} (hG : G.length = n) (hL : L.length = n) : l6r10 k K (n : Int) 0 s4 s5 s6 R A1 T M c s12 G L := by
  constructor
  intro I hI
  have key := upInd (N := n) (M := fun m => ∀ G L : List Int, G.length = n → L.length = n → (∀ r, r < m → G[r]? = some (-1) ∧ L[r]? = some (-1)) → I K (n : Int) (m : Int) s4 s5 s6 R A1 T M c s12 G L)
    (by
      intro G L q1 q2 q3
      apply hI
      exact brDn (by omega) (h G L ⟨q1, fun r hr => (q3 r hr).1⟩ ⟨q2, fun r hr => (q3 r hr).2⟩))
    (by
      intro m hm ih G L q1 q2 q3
      apply hI
      rw [Int.toNat_natCast, wrapS (by omega)]
      refine brD (by omega) (brD (by omega) (needNth (by omega) (brT rfl (brT (eqT_self (.int .i64) _) (brD (by omega) (needNth (by omega) ?_))))))
      refine ih _ _ (by simp [q1]) (by simp [q2]) fun r hr => ?_
      rw [set_get (by omega), set_get (by omega)]
      by_cases e : r = m
      · rw [if_pos e, if_pos e]; exact ⟨rfl, rfl⟩
      · rw [if_neg e, if_neg e]; exact q3 r (by omega))
    0 (Nat.zero_le _)
  exact key G L hG hL fun r hr => absurd hr (by omega)
structure Cg (n : Nat) (K : Int) (R : BB) (A1 T : List Bool) (G : List Int) : Prop where
  len : G.length = n
  val : ∀ r v, G[r]? = some v → v = -1 ∨ ∃ w : Nat, v = (w : Int) ∧ 1 ≤ w ∧ (w : Int) ≤ K ∧ Lf A1 T r
  ne : ∀ r s (w : Nat), At R r s → G[r]? = some (w : Int) → G[s]? ≠ some (w : Int)
theorem Cg.first {n : Nat} {K : Int} {R : BB} {A1 T : List Bool} {G : List Int} (h : Mi n G) : Cg n K R A1 T G := by
  have q : ∀ r v, G[r]? = some v → v = -1 := fun r v e => by
    have hl := (List.getElem?_eq_some_iff.1 e).1
    rw [h.2 r (by have := h.1; omega)] at e
    exact (Option.some.inj e).symm
  exact ⟨h.1, fun r v e => .inl (q r v e), fun r s w _ e => by have := q r _ e; omega⟩
theorem l6r15_ok {n : Nat} {R : BB} {A1 T : List Bool} {M : LM} {K : Int} {out c L : List Int} {s4 s12 : Int} {s5 s6 : List Int} (hn : n ≤ 8192) (hK : K ≤ 10) (hR : Sq n R) (hs : ∀ i j, At R i j → At R j i) (hi : ∀ i, ¬ At R i i) (hT : T.length = n) (hol : out.length ≤ n) (hout : ∀ r ∈ out, Go1 A1 T r)
    {k : Int → (List Int) → (List Int) → BB → (List Bool) → (List Bool) → LM → (List Int) → Int → (List Int) → (List Int) → Prop}
    (h : ∀ G, Cg n K R A1 T G → k s4 s5 s6 R A1 T M c s12 G L) {G : List Int} (hG : Cg n K R A1 T G) : l6r15 k K (out.length : Int) 0 s4 s5 s6 R A1 T M c s12 G L out := by
  constructor
  intro I hI
  have key := upInd (N := out.length) (M := fun m => ∀ G : List Int, Cg n K R A1 T G → I K (out.length : Int) (m : Int) s4 s5 s6 R A1 T M c s12 G L out)
    (fun G q => hI _ _ _ _ _ _ _ _ _ _ _ _ _ _ _ (brDn (by omega) (h G q)))
    (by
      intro m hm ih G q
      apply hI
      obtain ⟨r, hr, hl⟩ := hout _ (List.getElem_mem hm)
      have hrn : r < n := by have := tr_lt hl.1; omega
      have hGl := q.len
      rw [wrapS (by omega), Int.toNat_natCast]
      refine brD (by omega) (brD (by omega) (needNth hm ?_))
      rw [hr]
      refine c16_ok (low := 1) (B := 11) hn hR hrn q.len (fun x hx => ?_) (by omega) (by omega) fun w w1 w2 w3 => ?_
      · obtain ⟨j, hj⟩ := List.mem_iff_getElem?.1 hx
        rcases q.val j x hj with e | ⟨w, e, _, e2, _⟩ <;> omega
      · refine brP (fun e => ?_) fun _ => ih G q
        rw [Int.toNat_natCast]
        refine brD (by omega) (needNth (by omega) (ih _ ⟨by simp [q.len], fun r' v e' => ?_, fun x y v hxy e1 e2 => ?_⟩))
        · rw [set_get (by omega)] at e'
          split at e'
          · rename_i e3; subst e3
            exact .inr ⟨w, (Option.some.inj e').symm, w1, e, hl⟩
          · exact q.val r' v e'
        · rw [set_get (by omega)] at e1 e2
          split at e1
          · rename_i ex; subst ex
            split at e2
            · rename_i ey; subst ey
              exact hi _ hxy
            · have : w = v := by have := Option.some.inj e1; omega
              subst this
              exact w3 y hxy e2
          · split at e2
            · rename_i ey; subst ey
              have : w = v := by have := Option.some.inj e2; omega
              subst this
              exact w3 x (hs _ _ hxy) e1
            · exact q.ne x y v hxy e1 e2)
    0 (Nat.zero_le _)
  exact key G hG
structure Cl2 (n : Nat) (R : BB) (T : List Bool) (G L : List Int) (S m : Nat) : Prop where
  len : L.length = n
  val : ∀ r v, L[r]? = some v → v = -1 ∨ ∃ w : Nat, v = (w : Int) ∧ w < S ∧ Tr T r ∧ G[r]? = some (-1)
  le : S ≤ m
  all : ∀ r, r < m → Tr T r → G[r]? = some (-1) → ∃ w : Nat, L[r]? = some (w : Int)
  ne : ∀ r s (w : Nat), At R r s → L[r]? = some (w : Int) → L[s]? ≠ some (w : Int)
theorem Cl2.first {n : Nat} {R : BB} {T : List Bool} {G L : List Int} (h : Mi n L) : Cl2 n R T G L 0 0 := by
  have q : ∀ r v, L[r]? = some v → v = -1 := fun r v e => by
    have hl := (List.getElem?_eq_some_iff.1 e).1
    rw [h.2 r (by have := h.1; omega)] at e
    exact (Option.some.inj e).symm
  exact ⟨h.1, fun r v e => .inl (q r v e), Nat.le_refl _, fun r hr => absurd hr (by omega), fun r s w _ e => by have := q r _ e; omega⟩
theorem l6r22_ok {n : Nat} {R : BB} {A1 T : List Bool} {M : LM} {K : Int} {c G : List Int} {s3 : Int} {s4 s5 : List Int} (hn : n ≤ 8192) (hR : Sq n R) (hs : ∀ i j, At R i j → At R j i) (hi : ∀ i, ¬ At R i i) (hT : T.length = n) (hG : Cg n K R A1 T G)
    {k : Int → (List Int) → (List Int) → (List Int) → Int → (List Int) → (List Int) → Prop}
    (h : ∀ L S, Cl2 n R T G L S n → k s3 s4 s5 c (S : Int) G L) {L : List Int} (hL : Cl2 n R T G L 0 0) : l6r22 k (n : Int) 0 s3 s4 s5 R A1 T M c 0 G L := by
  have hGl := hG.len
  constructor
  intro I hI
  have key := upInd (N := n) (M := fun m => ∀ L S, Cl2 n R T G L S m → I (n : Int) (m : Int) s3 s4 s5 R A1 T M c (S : Int) G L)
    (fun L S q => hI _ _ _ _ _ _ _ _ _ _ _ _ _ (brDn (by omega) (h L S q)))
    (by
      intro m hm ih L S q
      apply hI
      have hLl := q.len
      have hTm : Tr T m ↔ T[m]'(by omega) = true := tr_get (by omega)
      have hGm : G[m]? = some (G[m]'(by omega)) := List.getElem?_eq_getElem (by omega)
      -- nothing to do
      have skip : ¬ (Tr T m ∧ G[m]? = some (-1)) → Cl2 n R T G L S (m + 1) := fun w => ⟨q.len, q.val, by have := q.le; omega, fun r hr e1 e2 => by
        by_cases e : r = m
        · subst e; exact (w ⟨e1, e2⟩).elim
        · exact q.all r (by omega) e1 e2, q.ne⟩
      rw [wrapS (n := m) (by omega), Int.toNat_natCast]
      refine brD (by omega) (brD (by omega) (needNth (by omega) (brB (fun e => ?_) fun e => ih L S (skip fun w => by rw [hTm.1 w.1] at e; cases e))))
      have hTr := hTm.2 e
      refine brD (by omega) (needNth (by omega) (brP (fun e0 => ?_) fun e0 => ih L S (skip fun w => ?_)))
      · have hG1 : G[m]? = some (-1) := by
          rcases hG.val m _ hGm with e3 | ⟨w, e3, _⟩
          · rw [hGm, e3]
          · omega
        refine c16_ok (low := 0) (B := S) hn hR hm q.len (fun x hx => ?_) (by have := q.le; omega) (by omega) fun w _ w2 w3 => ?_
        · obtain ⟨j, hj⟩ := List.mem_iff_getElem?.1 hx
          rcases q.val j x hj with e | ⟨w, e, e2, _⟩ <;> omega
        · have hle := q.le
          refine brT rfl (brT (eqT_self (.int .i64) _) (brD (by omega) (needNth (by omega) (brD (by simp [hLl]; omega) (needNth (by simp [hLl]; omega) ?_)))))
          rw [List.getElem_set_self, wrapS (n := w) (by omega), maxI_nat]
          refine ih _ _ ⟨by simp [q.len], fun r v e' => ?_, by omega, fun r hr t1 t2 => ?_, fun x y v hxy e1 e2 => ?_⟩
          · rw [set_get (by omega)] at e'
            split at e'
            · rename_i e3; subst e3
              exact .inr ⟨w, (Option.some.inj e').symm, by omega, hTr, hG1⟩
            · rcases q.val r v e' with e4 | ⟨w', e4, e5, e6⟩
              · exact .inl e4
              · exact .inr ⟨w', e4, by omega, e6⟩
          · rw [set_get (by omega)]
            split
            · exact ⟨w, rfl⟩
            · exact q.all r (by omega) t1 t2
          · rw [set_get (by omega)] at e1 e2
            split at e1
            · rename_i ex; subst ex
              split at e2
              · rename_i ey; subst ey
                exact hi _ hxy
              · have : w = v := by have := Option.some.inj e1; omega
                subst this
                exact w3 y hxy e2
            · split at e2
              · rename_i ey; subst ey
                have : w = v := by have := Option.some.inj e2; omega
                subst this
                exact w3 x (hs _ _ hxy) e1
              · exact q.ne x y v hxy e1 e2
      · rw [hGm] at w
        have := Option.some.inj w.2
        omega)
    0 (Nat.zero_le _)
  exact key L 0 hL
theorem l6r29_ok {n : Nat} {c G L : List Int} {S s3 : Int} {s4 s5 : List Int} (hn : n ≤ 8192) (hrt : ∀ r, r < n → ∃ a, a < n ∧ Rt c r a) (hG : G.length = n) (hL : L.length = n)
    {k : Int → (List Int) → (List Int) → Int → (List Int) → (List Int) → Prop}
    (h : ∀ G' L' : List Int, G'.length = n → L'.length = n → (∀ r a, r < n → Rt c r a → G'[r]? = G[a]? ∧ L'[r]? = L[a]?) → k s3 s4 s5 S G' L') : l6r29 k (n : Int) 0 s3 s4 s5 c S G L := by
  constructor
  intro I hI
  have key := upInd (N := n) (M := fun m => ∀ G' L' : List Int, G'.length = n → L'.length = n → (∀ r a, r < m → Rt c r a → G'[r]? = G[a]? ∧ L'[r]? = L[a]?) → (∀ r, m ≤ r → G'[r]? = G[r]? ∧ L'[r]? = L[r]?) → I (n : Int) (m : Int) s3 s4 s5 c S G' L')
    (fun G' L' q1 q2 q3 _ => hI _ _ _ _ _ _ _ _ _ (brDn (by omega) (h G' L' q1 q2 q3)))
    (by
      intro m hm ih G' L' q1 q2 q3 q4
      apply hI
      obtain ⟨a, ha, hr⟩ := hrt m hm
      have hroot : G'[a]? = G[a]? ∧ L'[a]? = L[a]? := by
        by_cases e : a < m
        · exact q3 a a e (.base hr.root)
        · exact q4 a (by omega)
      have e1 : G'[a]? = some (G'[a]'(by omega)) := List.getElem?_eq_getElem (by omega)
      have e2 : L'[a]? = some (L'[a]'(by omega)) := List.getElem?_eq_getElem (by omega)
      rw [wrapS (n := m) (by omega)]
      refine brD (by omega) (c17_ok hr ?_)
      rw [Int.toNat_natCast, Int.toNat_natCast]
      refine brT rfl (brT (eqT_self (.int .i64) _) (brT rfl (brT (eqT_self (.int .i64) _) (brT rfl (brD (by omega) (needNth (by omega) (brT rfl (brT (eqT_self (.int .i64) _) (c17_ok hr ?_)))))))))
      rw [Int.toNat_natCast]
      refine brT rfl (brT (eqT_self (.int .i64) _) (brT rfl (brT (eqT_self (.int .i64) _) (brT rfl (brD (by omega) (brT (by simp) (needNth (by omega) (brT (eqT_self (.int .i64) _) (brT rfl (brD (by omega) (needNth (by omega) (brD (by omega) (needNth (by omega) (brT rfl (brT (eqT_self (.int .i64) _) (brD (by omega) (needNth (by omega) ?_)))))))))))))))))
      refine ih _ _ (by simp [q1]) (by simp [q2]) (fun r b hrm hb => ?_) fun r hrm => ?_
      · rw [set_get (by omega), set_get (by omega)]
        by_cases e : r = m
        · subst e
          obtain rfl := hr.uniq hb
          rw [if_pos rfl, if_pos rfl, ← hroot.1, ← hroot.2, e1, e2]
          exact ⟨rfl, rfl⟩
        · rw [if_neg e, if_neg e]
          exact q3 r b (by omega) hb
      · rw [set_get (by omega), set_get (by omega), if_neg (by omega), if_neg (by omega)]
        exact q4 r (by omega))
    0 (Nat.zero_le _)
  exact key G L hG hL (fun r a hr => absurd hr (by omega)) fun r _ => ⟨rfl, rfl⟩
structure Pl (f : FN) (n : Nat) (K : Int) (S : Nat) (G L : List Int) : Prop where
  gl : G.length = n
  ll : L.length = n
  le : S ≤ n
  one : ∀ r, r < n → ∃ g l, G[r]? = some g ∧ L[r]? = some l ∧ ((¬ (r ≠ 0 ∧ Occ f r) ∧ g = -1 ∧ l = -1) ∨ ((r ≠ 0 ∧ Occ f r) ∧ g = -1 ∧ ∃ w : Nat, l = (w : Int) ∧ w < S) ∨ ((r ≠ 0 ∧ Occ f r) ∧ l = -1 ∧ (∃ w : Nat, g = (w : Int) ∧ 1 ≤ w ∧ (w : Int) ≤ K) ∧ ¬ ∃ i k, Kp f i k r))
  ne : ∀ x y (w : Nat), Es f x y → x < n → y < n → (G[x]? = some (w : Int) → G[y]? ≠ some (w : Int)) ∧ (L[x]? = some (w : Int) → L[y]? ≠ some (w : Int))
theorem pl_of {f : FN} {n S : Nat} {K : Int} {R R0 : BB} {A1 A2 T : List Bool} {M : LM} {c G L G' L' : List Int} (g : Gr f n R0 A1 A2 M) (h : Cs n (Es f) A1 A2 R T c) (hG : Cg n K R A1 T G) (hL : Cl2 n R T G L S n) (h1 : G'.length = n) (h2 : L'.length = n)
    (h3 : ∀ r a, r < n → Rt c r a → G'[r]? = G[a]? ∧ L'[r]? = L[a]?) : Pl f n K S G' L' := by
  refine ⟨h1, h2, hL.le, fun r hr => ?_, fun x y w he hx hy => ?_⟩
  · obtain ⟨a, ha, hra⟩ := h.rt r hr
    obtain ⟨q1, q2⟩ := h3 r a hr hra
    have hT : Tr A2 r ↔ Tr T a := by
      by_cases e : r = a
      · subst e
        rw [h.there]
        exact ⟨fun w => ⟨w, hra.root⟩, And.left⟩
      · have := h.cls r a hra e
        rw [h.there]
        exact ⟨fun _ => ⟨this.2, hra.root⟩, fun _ => this.1⟩
    have hS := h.slot r a hra
    rw [g.slot] at hS
    rw [g.there] at hT
    have e1 : G[a]? = some (G[a]'(by have := hG.len; omega)) := List.getElem?_eq_getElem _
    have e2 : L[a]? = some (L[a]'(by have := hL.len; omega)) := List.getElem?_eq_getElem _
    refine ⟨_, _, q1.trans e1, q2.trans e2, ?_⟩
    by_cases t : Tr T a
    · rcases hG.val a _ e1 with v | ⟨w, v1, v2, v3, v4⟩
      · obtain ⟨w, hw⟩ := hL.all a ha t (by rw [e1, v])
        rw [e2] at hw
        have hw := Option.some.inj hw
        rcases hL.val a _ e2 with v' | ⟨w', u1, u2, _⟩
        · omega
        · exact .inr (.inl ⟨hT.2 t, v, w', u1, u2⟩)
      · rcases hL.val a _ e2 with v' | ⟨w', u1, u2, _, u3⟩
        · exact .inr (.inr ⟨hT.2 t, v', ⟨w, v1, v2, v3⟩, fun k => v4.2 (hS.1 k)⟩)
        · rw [e1] at u3
          have := Option.some.inj u3
          omega
    · refine .inl ⟨fun w => t (hT.1 w), ?_, ?_⟩
      · rcases hG.val a _ e1 with v | ⟨w, v1, v2, v3, v4⟩
        · exact v
        · exact (t v4.1).elim
      · rcases hL.val a _ e2 with v' | ⟨w', u1, u2, u3, _⟩
        · exact v'
        · exact (t u3).elim
  · obtain ⟨a, ha, hxa⟩ := h.rt x hx
    obtain ⟨b, hb, hyb⟩ := h.rt y hy
    obtain ⟨_, hab⟩ := h.adj x y a b he hxa hyb
    rw [(h3 x a hx hxa).1, (h3 x a hx hxa).2, (h3 y b hy hyb).1, (h3 y b hy hyb).2]
    exact ⟨hG.ne a b w hab, hL.ne a b w hab⟩
theorem j6r9_ok {f : FN} {n : Nat} {K : Int} {R R0 : BB} {A1 A2 T : List Bool} {M : LM} {c G L : List Int} {s2 : Int} {s3 s4 : List Int} (hf : FOk f n) (hK : K ≤ 10) (g : Gr f n R0 A1 A2 M) (h : Cs n (Es f) A1 A2 R T c) (hG : G.length = n) (hL : L.length = n)
    {k : Int → Int → List Int → List Int → Prop} (hk : ∀ (S : Nat) G' L', Pl f n K S G' L' → k 0 (S : Int) G' L') : j6r9 k K s2 s3 s4 R A1 T M c 0 G L := by
  have hn := hf.nle
  constructor
  rw [hG]
  refine l6r10_ok hn (fun G L hG hL => ?_) hG hL
  refine c15_ok hn h.sq g.l1 h.l2 fun out o1 o2 => ?_
  refine l6r15_ok hn hK h.sq h.sym h.irr h.l2 o1 o2 (fun G hG => ?_) (Cg.first hG)
  rw [hG.len]
  refine l6r22_ok hn h.sq h.sym h.irr h.l2 hG (fun L S hL => ?_) (Cl2.first hL)
  rw [hG.len]
  exact l6r29_ok hn h.rt hG.len hL.len fun G' L' w1 w2 w3 => hk S G' L' (pl_of g h hG hL w1 w2 w3)
theorem j6r7_ok {f : FN} {n : Nat} {K : Int} {R : BB} {A1 A2 : List Bool} {M : LM} {s3 : Int} {s4 s5 : List Int} (h2 : FOk2 f n) (hK : K ≤ 10) (g : Gr f n R A1 A2 M)
    {k : Int → Int → List Int → List Int → Prop} (hk : ∀ (S : Nat) G' L', Pl f n K S G' L' → k 0 (S : Int) G' L') : j6r7 k K f s3 s4 s5 R A1 A2 M := by
  have hf := h2.ok
  have hr := hf.regs
  have hn := hf.nle
  constructor
  refine c14_ok hf g fun R' T' c' hc => ?_
  have hj : j6r9 k K s3 s4 s5 R' A1 T' M c' 0 (List.replicate (Int.toNat f.2.2.1) (0 : Int)) (List.replicate (Int.toNat f.2.2.1) (0 : Int)) :=
    j6r9_ok hf hK g hc (by rw [hr]; simp) (by rw [hr]; simp) hk
  repeat' (first | exact hj | refine And.intro ?_ ?_ | refine brT rfl ?_ | refine brT (eqT_self _ _) ?_ | (refine brD ?_ ?_; rw [hr]; omega))
theorem c6_ok {f : FN} (hz : Szf f) {K : Int} {k : Int → Int → List Int → List Int → Prop} (h1 : fnErr f ≠ 0 → k 0 (fnErr f) [] []) (h3 : fnErr f = 0 → (K < 1 ∨ K > 10) → k 0 4 [] [])
    (h2 : fnErr f = 0 → 1 ≤ K → K ≤ 10 → ∀ (S : Nat) G L, Pl f f.2.2.1.toNat K S G L → k (S : Int) 0 G L) : c6 f K k := by
  constructor
  refine c12_ok hz (brN (fun e => h1 e) fun e => ?_)
  refine brP (fun e1 => h3 e (.inl e1)) fun e1 => brP (fun e2 => h3 e (.inr e2)) fun e2 => ?_
  refine c13_ok hz e fun R A1 A2 M g => ?_
  exact j6r7_ok (fok2_of hz e) (by omega) g (h2 e (by omega) (by omega))
theorem liveS_occ {A : Nat → Prop} : ∀ {l : List VI} {r : Nat}, liveS l A r → (∃ x ∈ l, (r : Int) ∈ uses x) ∨ A r
  | [], r, q => .inr q
  | x :: xs, r, q => by
    rcases q with q | ⟨_, q⟩
    · exact .inl ⟨x, List.mem_cons_self, q⟩
    · rcases liveS_occ q with ⟨y, hy, w⟩ | w
      · exact .inl ⟨y, List.mem_cons_of_mem _ hy, w⟩
      · exact .inr w
theorem nd_occ {f : FN} {X : Nat → Nat → Prop} (hX : ∀ i r, X i r → Occ f r) {i a r : Nat} (h : Nd f X i a r) : Occ f r := by
  obtain ⟨b, hb, q⟩ := h
  rcases liveS_occ q with ⟨x, hx, w⟩ | ⟨t, _, w⟩ | w
  · obtain ⟨k, hk⟩ := List.mem_iff_getElem?.1 (List.mem_of_mem_drop hx)
    exact .inr (.inl ⟨i, k, x, ⟨b, hb, hk⟩, .inr w⟩)
  · exact hX _ _ w
  · exact .inl ⟨i, b, hb, w⟩
theorem lv_occ {f : FN} {i r : Nat} (h : Lv f i r) : Occ f r :=
  h (fun _ r => Occ f r) fun i r q => nd_occ (X := fun _ r => Occ f r) (fun _ _ w => w) ((fb_nd q.choose_spec.2.1).1 q)
theorem kp_occ {f : FN} {i k r : Nat} (h : Kp f i k r) : Occ f r := by
  obtain ⟨x, _, _, _, q⟩ := h
  exact nd_occ (fun _ _ => lv_occ) q
def Oc (f : FN) (i : Nat) (r : Nat) : Prop := En f i r ∨ ∃ k, Oi f i k r
theorem mem_ends2 {b : BL} {r : Nat} (h : r ≠ 0) : (r : Int) ∈ ends b ↔ b.2.1.2.2.1 = (r : Int) ∨ b.2.1.2.2.2.1 = (r : Int) := by
  unfold ends nz
  simp only [List.mem_filter, List.mem_cons, List.not_mem_nil, or_false, bne_iff_ne, ne_eq]
  constructor
  · rintro ⟨e | e, _⟩
    · exact .inl e.symm
    · exact .inr e.symm
  · rintro (e | e)
    · exact ⟨.inl e.symm, by omega⟩
    · exact ⟨.inr e.symm, by omega⟩
theorem l23r7_ok {f : FN} {n : Nat} (hf : FOk f n) {r i : Nat} {b : BL} (hb : (bls f)[i]? = some b) {s3 s4 : Int} {k1 : Bool → Prop} {k2 : Int → List BL → Int → Int → BL → Prop}
    (hT : (∃ k, Oi f i k r) → k1 true) (hF : (¬ ∃ k, Oi f i k r) → k2 (r : Int) (bls f) s3 s4 b) : l23r7 k1 k2 (r : Int) (bls f) s3 s4 b.1 (b.1.length : Int) 0 b := by
  have hm := hml
  obtain ⟨i1, i2⟩ := hf.ins b (List.mem_of_getElem? hb)
  constructor
  intro I hI
  refine allInd (N := b.1.length) (p := fun k => ¬ Oi f i k r) (M := fun k => I (r : Int) (bls f) s3 s4 b.1 (b.1.length : Int) (k : Int) b) (fun hall => hI _ _ _ _ _ _ _ _ (brDn (by omega) (hF ?_))) fun k hk hlt ih => hI _ _ _ _ _ _ _ _ ?_
  · rintro ⟨k, hk⟩
    obtain ⟨x, ⟨b', e1, e2⟩, _⟩ := id hk
    rw [hb] at e1
    obtain rfl := Option.some.inj e1
    exact hall k (List.getElem?_eq_some_iff.1 e2).1 hk
  · have hx : Ins1 f i k b.1[k] := ⟨b, hb, List.getElem?_eq_getElem hk⟩
    obtain ⟨v1, v2⟩ := i2 _ (List.getElem_mem hk)
    rw [wrapS (by omega)]
    refine brD (by omega) (needAt hk (c25_ok (brE (fun e => hT ⟨k, _, hx, .inl e⟩) fun e => ?_)))
    refine c44_ok v1 (c21_ok (by have := uses_len (x := b.1[k]); omega) (fun w => brT rfl (hT ⟨k, _, hx, .inr w⟩)) fun w => brF rfl (ih ?_))
    rintro ⟨y, hy, q⟩
    obtain rfl := hx.uniq hy
    exact q.elim e w
theorem l23r4_ok {f : FN} {n : Nat} (hf : FOk f n) {r : Nat} (h0 : r ≠ 0) {k1 : Bool → Prop} {k2 : Prop}
    (hT : (∃ i, Oc f i r) → k1 true) (hF : (¬ ∃ i, Oc f i r) → k2) : l23r4 k1 k2 (r : Int) (bls f) ((bls f).length : Int) 0 := by
  have hbl := hf.ble
  constructor
  intro I hI
  refine allInd (N := (bls f).length) (p := fun i => ¬ Oc f i r) (M := fun i => I (r : Int) (bls f) ((bls f).length : Int) (i : Int)) (fun hall => hI _ _ _ _ (brDn (by omega) (hF ?_))) fun i hi hlt ih => hI _ _ _ _ ?_
  · rintro ⟨i, hi⟩
    have : i < (bls f).length := by
      rcases hi with ⟨b, hb, _⟩ | ⟨k, x, ⟨b, hb, _⟩, _⟩
      · exact (List.getElem?_eq_some_iff.1 hb).1
      · exact (List.getElem?_eq_some_iff.1 hb).1
    exact hall i this hi
  · have hb := List.getElem?_eq_getElem hi
    have hen : En f i r ↔ (bls f)[i].2.1.2.2.1 = (r : Int) ∨ (bls f)[i].2.1.2.2.2.1 = (r : Int) := by
      rw [← mem_ends2 h0]
      constructor
      · rintro ⟨b, e, q⟩
        rw [hb] at e
        obtain rfl := Option.some.inj e
        exact q
      · exact fun q => ⟨_, hb, q⟩
    refine brD (by omega) (needAt hi (l23r7_ok hf hb (fun w => hT ⟨i, .inr w⟩) fun w => ?_))
    rw [wrapS (by omega)]
    exact brE (fun e => hT ⟨i, .inl (hen.2 (.inl e))⟩) fun e1 => brE (fun e => hT ⟨i, .inl (hen.2 (.inr e))⟩) fun e2 => ih fun q => q.elim (fun q => (hen.1 q).elim e1 e2) w
theorem c23_ok {f : FN} {n : Nat} (h2 : FOk2 f n) {r : Nat} (h0 : r ≠ 0) {k : Bool → Prop} (hT : Occ f r → k true) (hF : ¬ Occ f r → k false) : c23 f (r : Int) k := by
  have hm := hml
  have hpl := h2.pl
  constructor
  refine c21_ok (by omega) (fun e => brT rfl (hT (.inr (.inr e)))) fun e => brF rfl ?_
  refine l23r4_ok h2.ok h0 (fun ⟨i, q⟩ => hT ?_) fun q => hF ?_
  · rcases q with q | ⟨k, q⟩
    · exact .inl ⟨i, q⟩
    · exact .inr (.inl ⟨i, k, q⟩)
  · rintro (⟨i, w⟩ | ⟨i, k, w⟩ | w)
    · exact q ⟨i, .inl w⟩
    · exact q ⟨i, .inr ⟨k, w⟩⟩
    · exact e w
theorem l24r5_ok {f : FN} {n : Nat} (hf : FOk f n) {r i : Nat} (h0 : r ≠ 0) {b : BL} (hb : (bls f)[i]? = some b) (hbl : b.1.length ≤ 8192) {s4 s5 : Int} {k1 : Bool → Prop} {k2 : Int → List BL → Int → Int → FN → Prop}
    (hT : (∃ k, Kp f i k r) → k1 true) (hF : (¬ ∃ k, Kp f i k r) → k2 (r : Int) (bls f) s4 s5 f) : l24r5 k1 k2 (r : Int) (i : Int) (bls f) s4 s5 b.1 (b.1.length : Int) 0 f := by
  have hm := hml
  obtain ⟨i1, i2⟩ := hf.ins b (List.mem_of_getElem? hb)
  have hi := (List.getElem?_eq_some_iff.1 hb).1
  constructor
  intro I hI
  refine allInd (N := b.1.length) (p := fun k => ¬ Kp f i k r) (M := fun k => I (r : Int) (i : Int) (bls f) s4 s5 b.1 (b.1.length : Int) (k : Int) f) (fun hall => hI _ _ _ _ _ _ _ _ _ (brDn (by omega) (hF ?_))) fun k hk hlt ih => hI _ _ _ _ _ _ _ _ _ ?_
  · rintro ⟨k, hk⟩
    obtain ⟨x, ⟨b', e1, e2⟩, _⟩ := id hk
    rw [hb] at e1
    obtain rfl := Option.some.inj e1
    exact hall k (List.getElem?_eq_some_iff.1 e2).1 hk
  · have hx : Ins1 f i k b.1[k] := ⟨b, hb, List.getElem?_eq_getElem hk⟩
    have hiff : Kp f i k r ↔ Cl b.1[k] ∧ dfn b.1[k] ≠ (r : Int) ∧ La f i (k + 1) r := by
      constructor
      · rintro ⟨x, hx', q⟩
        obtain rfl := hx.uniq hx'
        exact q
      · exact fun q => ⟨_, hx, q⟩
    have go : Cl b.1[k] → c25 b.1[k] (fun z => br ((z : Int) != (r : Int))
        (c20 f (i : Int) ((k + 1 : Nat) : Int) (r : Int) (fun z => br z (k1 true) (I (r : Int) (i : Int) (bls f) s4 s5 b.1 (b.1.length : Int) ((k + 1 : Nat) : Int) f)))
        (I (r : Int) (i : Int) (bls f) s4 s5 b.1 (b.1.length : Int) ((k + 1 : Nat) : Int) f)) := fun hc =>
      c25_ok (brN (fun e => c20_la hf h0 hi (by omega) (fun w => brT rfl (hT ⟨k, hiff.2 ⟨hc, e, w⟩⟩)) fun w => brF rfl (ih fun q => w (hiff.1 q).2.2)) fun e => ih fun q => (hiff.1 q).2.1 e)
    rw [wrapS (by omega)]
    refine brD (by omega) (needAt hk (brE (fun e => go (.inl e)) fun e1 => brE (fun e => go (.inr e)) fun e2 => ih fun q => (hiff.1 q).1.elim e1 e2))
theorem c24_ok {f : FN} {n : Nat} (h2 : FOk2 f n) {r : Nat} (h0 : r ≠ 0) {k : Bool → Prop} (hT : (∃ i k, Kp f i k r) → k true) (hF : (¬ ∃ i k, Kp f i k r) → k false) : c24 f (r : Int) k := by
  have hf := h2.ok
  have hbl := hf.ble
  constructor
  constructor
  intro I hI
  refine allInd (N := (bls f).length) (p := fun i => ¬ ∃ k, Kp f i k r) (M := fun i => I (r : Int) (bls f) ((bls f).length : Int) (i : Int) f) (fun hall => hI _ _ _ _ _ (brDn (by omega) (hF ?_))) fun i hi hlt ih => hI _ _ _ _ _ ?_
  · rintro ⟨i, k, hk⟩
    obtain ⟨x, ⟨b, hb, _⟩, _⟩ := id hk
    exact hall i (List.getElem?_eq_some_iff.1 hb).1 ⟨k, hk⟩
  · have htl : tot f (i + 1) ≤ tot f (bls f).length := by
      have := tot_mono (f := f) (j := (bls f).length - (i + 1)) (i := i + 1)
      rwa [show i + 1 + ((bls f).length - (i + 1)) = (bls f).length by omega] at this
    have hts := tot_succ hi
    have htt := h2.tt
    refine brD (by omega) (needAt hi (l24r5_ok hf h0 (List.getElem?_eq_getElem hi) (by omega) (fun w => hT ⟨i, w⟩) fun w => ?_))
    rw [wrapS (by omega)]
    exact ih w
def Spt (f : FN) (K : Int) (G L : List Int) (r : Nat) (z : Int) : Prop :=
  (z = 0 ∧ ¬ (r ≠ 0 ∧ Occ f r)) ∨ (∃ w : Nat, z = (w : Int) ∧ 1 ≤ w ∧ (w : Int) ≤ K ∧ (r ≠ 0 ∧ Occ f r) ∧ G[r]? = some (w : Int)) ∨ (∃ w : Nat, z = ((100 + w : Nat) : Int) ∧ (r ≠ 0 ∧ Occ f r) ∧ L[r]? = some (w : Int))
theorem c9_ok {f : FN} {n S : Nat} {K : Int} {G L : List Int} (hn : n ≤ 8192) (h : Pl f n K S G L) {r : Nat} (hr : r < n) {k : Int → Prop} (hk : ∀ z, Spt f K G L r z → k z) : c9 (G, L, (S : Int), ()) (r : Int) k := by
  obtain ⟨g, l, e1, e2, hc⟩ := h.one r hr
  obtain ⟨e1l, e1'⟩ := List.getElem?_eq_some_iff.1 e1
  obtain ⟨e2l, e2'⟩ := List.getElem?_eq_some_iff.1 e2
  have hle := h.le
  constructor
  refine brE (fun e => hk 0 (.inl ⟨rfl, fun q => q.1 (by omega)⟩)) fun e0 => ?_
  refine needAt e1l ?_
  rw [e1']
  rcases hc with ⟨q1, q2, q3⟩ | ⟨q1, q2, w, q3, q4⟩ | ⟨q1, q2, ⟨w, q3, q4, q5⟩, _⟩
  · refine brDn (by omega) (needAt e2l ?_)
    rw [e2']
    exact brDn (by omega) (hk 0 (.inl ⟨rfl, q1⟩))
  · refine brDn (by omega) (needAt e2l ?_)
    rw [e2']
    refine brD (by omega) (needAt e2l ?_)
    rw [e2', q3, wrap64 (by omega) (by omega)]
    exact hk _ (.inr (.inr ⟨w, by omega, q1, by rw [e2, q3]⟩))
  · refine brD (by omega) (needAt e1l ?_)
    rw [e1', q3]
    exact hk _ (.inr (.inl ⟨w, rfl, q4, q5, q1, by rw [e1, q3]⟩))
theorem l22r9_ok {f : FN} {n S : Nat} {K : Int} {G L : List Int} (hn : n ≤ 8192) (hK : K ≤ 10) (h : Pl f n K S G L) {k1 : Int → Prop} {k2 : Prop} (hk : k2) : l22r9 k1 k2 (n : Int) 0 (G, L, (S : Int), ()) := by
  have hle := h.le
  constructor
  intro I hI
  refine upInd (N := n) (M := fun r => I (n : Int) (r : Int) (G, L, (S : Int), ())) (hI _ _ _ (brDn (by omega) hk)) (fun r hr ih => hI _ _ _ ?_) 0 (Nat.zero_le _)
  obtain ⟨g, l, e1, e2, hc⟩ := h.one r hr
  obtain ⟨e1l, e1'⟩ := List.getElem?_eq_some_iff.1 e1
  obtain ⟨e2l, e2'⟩ := List.getElem?_eq_some_iff.1 e2
  have hn1 : ∀ {k : Int → Prop}, k g → need False (at? G (r : Int)) k := fun q => needAt e1l (by rw [e1']; exact q)
  have hn2 : ∀ {k : Int → Prop}, k l → need False (at? L (r : Int)) k := fun q => needAt e2l (by rw [e2']; exact q)
  rw [wrapS (by omega)]
  refine brD (by omega) (hn1 (brN (fun e => hn1 ?_) fun e => hn2 ?_))
  · rcases hc with ⟨q1, q2, q3⟩ | ⟨q1, q2, w, q3, q4⟩ | ⟨q1, q2, ⟨w, q3, q4, q5⟩, _⟩
    · omega
    · omega
    · exact brDn (by omega) (hn1 (brDn (by omega) (hn2 (brDn (by omega) (hn2 (brDn (by show ¬ (l ≥ (S : Int)); omega) (hn1 (brN (fun _ => hn2 (brN (fun e => absurd q2 e) fun _ => ih)) fun _ => ih))))))))
  · have hl : l = -1 ∨ ∃ w : Nat, l = (w : Int) ∧ w < S := by
      rcases hc with ⟨q1, q2, q3⟩ | ⟨q1, q2, w, q3, q4⟩ | ⟨q1, q2, _⟩
      · exact .inl q3
      · exact .inr ⟨w, q3, q4⟩
      · exact .inl q2
    refine brDn (by rcases hl with e | ⟨w, e, _⟩ <;> omega) (hn2 (brDn (by show ¬ (l ≥ (S : Int)); rcases hl with e | ⟨w, e, _⟩ <;> omega) (hn1 (brN (fun e3 => absurd e e3) fun _ => ih))))
theorem c22_ok {f : FN} {n S : Nat} {K : Int} {G L : List Int} (hz : Szf f) (he : fnErr f = 0) (hf : FOk f n) (hK : K ≤ 10) (h : Pl f n K S G L) {k : Int → Prop} (hk : k 0) : c22 f (G, L, (S : Int), ()) k := by
  have hle := h.le
  have hn := hf.nle
  have hr := hf.regs
  have h1 := h.gl
  have h2 := h.ll
  constructor
  refine c7_ok hz ?_
  rw [he]
  refine brF rfl (brN (fun e => (e (by rw [hr]; show ((G.length : Nat) : Int) = _; rw [h1])).elim) fun _ => brN (fun e => (e (by rw [hr]; show ((L.length : Nat) : Int) = _; rw [h2])).elim) fun _ => ?_)
  refine brDn (by show ¬ ((S : Int) < 0); omega) (brDn (by show ¬ ((S : Int) > 8192); omega) ?_)
  show l22r9 _ _ ((G.length : Nat) : Int) 0 _
  rw [h1]
  exact l22r9_ok hn hK h hk
theorem l8r4_ok {f : FN} {n S : Nat} {K : Int} {G L : List Int} (h2 : FOk2 f n) (hK : K ≤ 10) (h1 : 1 ≤ K) (h : Pl f n K S G L) {k1 : Bool → Prop} {k2 : Prop} (hk : k2) : l8r4 k1 k2 K f.2.2.1 0 f (G, L, (S : Int), ()) := by
  have hf := h2.ok
  have hn := hf.nle
  have hr := hf.regs
  rw [hr]
  constructor
  intro I hI
  refine upInd (N := n) (M := fun r => I K (n : Int) (r : Int) f (G, L, (S : Int), ())) (hI _ _ _ _ _ (brDn (by omega) hk)) (fun r hrn ih => hI _ _ _ _ _ ?_) 0 (Nat.zero_le _)
  obtain ⟨g, l, e1, e2, hc⟩ := h.one r hrn
  obtain ⟨e1l, e1'⟩ := List.getElem?_eq_some_iff.1 e1
  obtain ⟨e2l, e2'⟩ := List.getElem?_eq_some_iff.1 e2
  have hn1 : ∀ {k : Int → Prop}, k g → need False (at? G (r : Int)) k := fun q => needAt e1l (by rw [e1']; exact q)
  have hn2 : ∀ {k : Int → Prop}, k l → need False (at? L (r : Int)) k := fun q => needAt e2l (by rw [e2']; exact q)
  have hgK : ¬ g > K := by rcases hc with ⟨q1, q2, q3⟩ | ⟨q1, q2, w, q3, q4⟩ | ⟨q1, q2, ⟨w, q3, q4, q5⟩, _⟩ <;> omega
  have fin : j8s6 k1 (fun z16 z17 z18 z19 z20 => I z16 z17 (IntKind.wrap .i64 (z18 + 1)) z19 z20) K (n : Int) (r : Int) false f (G, L, (S : Int), ()) := by
    constructor
    refine brF rfl ?_
    show I K (n : Int) (IntKind.wrap .i64 ((r : Int) + 1)) f _
    rw [wrapS (by omega)]
    exact ih
  refine brD (by omega) (c9_ok hn h hrn fun z hz => ?_)
  refine brP (fun e => ?_) fun e => ?_
  · have h0 : r ≠ 0 := by omega
    have hzo : ∀ b : Bool, (b = true ↔ Occ f r) → (!((z != 0) == b)) = false := by
      intro b hb
      rcases hz with ⟨v1, v2⟩ | ⟨w, v1, v2, v3, v4, v5⟩ | ⟨w, v1, v2, v3⟩
      · have : b = false := by cases b with | false => rfl | true => exact (v2 ⟨h0, hb.1 rfl⟩).elim
        rw [this, v1]; rfl
      · have : b = true := hb.2 v4.2
        have e : (z != 0) = true := by simp; omega
        rw [this, e]; rfl
      · have : b = true := hb.2 v2.2
        have e : (z != 0) = true := by simp; omega
        rw [this, e]; rfl
    have after : need False (at? G (r : Int)) fun y14 => br (decide ((y14 : Int) > K)) (j8s6 k1 (fun z16 z17 z18 z19 z20 => I z16 z17 (IntKind.wrap .i64 (z18 + 1)) z19 z20) K (n : Int) (r : Int) true f (G, L, (S : Int), ()))
        (br (decide ((r : Int) > 0))
           (c24 f (r : Int)
            (fun z21 => br (z21)
             (need False (at? L (r : Int)) fun y22 =>
              j8s6 k1 (fun z16 z17 z18 z19 z20 => I z16 z17 (IntKind.wrap .i64 (z18 + 1)) z19 z20) K (n : Int) (r : Int) (decide ((y22 : Int) < 0)) f (G, L, (S : Int), ()))
             (j8s6 k1 (fun z16 z17 z18 z19 z20 => I z16 z17 (IntKind.wrap .i64 (z18 + 1)) z19 z20) K (n : Int) (r : Int) false f (G, L, (S : Int), ()))))
           (j8s6 k1 (fun z16 z17 z18 z19 z20 => I z16 z17 (IntKind.wrap .i64 (z18 + 1)) z19 z20) K (n : Int) (r : Int) false f (G, L, (S : Int), ()))) := by
      refine hn1 (brDn hgK (brD e (c24_ok h2 h0 (fun q => brT rfl (hn2 ?_)) fun q => brF rfl fin)))
      obtain ⟨i, k, hq⟩ := id q
      have ho := kp_occ hq
      have : decide (l < 0) = false := by
        rw [decide_eq_false_iff_not]
        rcases hc with ⟨q1, q2, q3⟩ | ⟨q1, q2, w, q3, q4⟩ | ⟨q1, q2, _, q6⟩
        · exact (q1 ⟨h0, ho⟩).elim
        · omega
        · exact (q6 q).elim
      rw [this]
      exact fin
    exact c23_ok h2 h0 (fun q => brF (hzo true ⟨fun _ => q, fun _ => rfl⟩) after) fun q => brF (hzo false ⟨fun w => (by cases w), fun w => (q w).elim⟩) after
  · have h0 : r = 0 := by omega
    have : (!((z != 0) == false)) = false := by
      rcases hz with ⟨v1, v2⟩ | ⟨w, v1, v2, v3, v4, v5⟩ | ⟨w, v1, v2, v3⟩
      · rw [v1]; rfl
      · exact (v4.1 h0).elim
      · exact (v2.1 h0).elim
    refine brF this (hn1 (brDn hgK (brDn e fin)))
theorem c8_ok {f : FN} {n S : Nat} {K : Int} {G L : List Int} (hz : Szf f) (he : fnErr f = 0) (h2 : FOk2 f n) (hK : K ≤ 10) (h1 : 1 ≤ K) (h : Pl f n K S G L) {k : Bool → Prop} (hk : k true) : c8 f (G, L, (S : Int), ()) K k := by
  constructor
  exact c22_ok hz he h2.ok hK h (brF rfl (l8r4_ok h2 hK h1 h hk))
theorem eqT3 {a : Int} : (true && (true && (eqT (.int .i64) a a && true))) = true := congrArg (fun b => (true && (true && (b && true)))) (eqT_self (.int .i64) a)
theorem l3r17_ok {f : FN} {n S : Nat} {K : Int} {G L : List Int} (h2 : FOk2 f n) (hK : K ≤ 10) (h : Pl f n K S G L) {x : Nat} (hx : x < n) (hx0 : x ≠ 0) {k1 : Bool → Prop} {k2 : Int → FN → Int → List Int → List Int → Prop} (hk : k2 (x : Int) f (S : Int) G L) : l3r17 k1 k2 (x : Int) ((x + 1 : Nat) : Int) f (S : Int) G L := by
  have hf := h2.ok
  have hn := hf.nle
  have hr := hf.regs
  constructor
  intro I hI
  have key := upInd (N := n) (M := fun y => x < y → I (x : Int) (y : Int) f (S : Int) G L)
    (fun _ => hI _ _ _ _ _ _ (by rw [hr]; exact brDn (by omega) hk))
    (by
      intro y hy ih hxy
      apply hI
      rw [hr, wrapS (n := y) (by omega)]
      refine brD (by omega) (c9_ok hn h hx fun z7 h7 => brN (fun e7 => ?_) fun _ => ih (by omega))
      refine c9_ok hn h hx fun z8 h8 => brT eqT3 (brT (eqT_self _ _) (c9_ok hn h hy fun z9 h9 => brE (fun e => ?_) fun _ => ih (by omega)))
      refine c10_ok h2 (by omega) hx0 (by omega) hx hy (fun q => ?_) fun _ => brF rfl (ih (by omega))
      exfalso
      have hox : x ≠ 0 ∧ Occ f x := by
        rcases h7 with ⟨v1, _⟩ | ⟨_, _, _, _, v, _⟩ | ⟨_, _, v, _⟩
        · exact (e7 v1).elim
        · exact v
        · exact v
      rcases h8 with ⟨v1, v2⟩ | ⟨w, v1, v2, v3, v4, v5⟩ | ⟨w, v1, v2, v3⟩
      · exact v2 hox
      · rcases h9 with ⟨u1, u2⟩ | ⟨w', u1, u2, u3, u4, u5⟩ | ⟨w', u1, u2, u3⟩
        · omega
        · have : w = w' := by omega
          subst this
          exact (h.ne x y w q hx hy).1 v5 u5
        · omega
      · rcases h9 with ⟨u1, u2⟩ | ⟨w', u1, u2, u3, u4, u5⟩ | ⟨w', u1, u2, u3⟩
        · omega
        · omega
        · have : w = w' := by omega
          subst this
          exact (h.ne x y w q hx hy).2 v3 u3)
    (x + 1) (by omega)
  exact key (by omega)
theorem l3r14_ok {f : FN} {n S : Nat} {K : Int} {G L : List Int} (h2 : FOk2 f n) (hK : K ≤ 10) (h : Pl f n K S G L) {k1 : Bool → Prop} {k2 : Prop} (hk : k2) : l3r14 k1 k2 1 f (S : Int) G L := by
  have hf := h2.ok
  have hn := hf.nle
  have hr := hf.regs
  constructor
  intro I hI
  refine regInd (n := n) (M := fun x => I (x : Int) f (S : Int) G L) hf.pos (hI _ _ _ _ _ (by rw [hr]; exact brDn (by omega) hk)) fun x hx1 hx ih => hI _ _ _ _ _ ?_
  rw [wrapS (by omega), hr]
  refine brD (by omega) (l3r17_ok h2 hK h hx (by omega) ?_)
  show I (IntKind.wrap .i64 ((x : Int) + 1)) f _ _ _
  rw [wrapS (by omega)]
  exact ih
theorem j3r9_err {f : FN} {K w : Int} (hw : w ≠ 0) {k : Bool → Prop} (hk : k true) : j3r9 k K w w f 0 [] [] := by
  constructor
  refine brN (fun _ => brE (fun _ => ?_) fun e => (e rfl).elim) fun e => (hw e).elim
  exact hk
theorem law3 {f : FN} {K : Int} (g : Go.Abs.Good fnT f ∧ Go.Abs.Sz fnT f) (_ : Go.Abs.Good (.int .i64) K ∧ Go.Abs.Sz (.int .i64) K) {k : Bool → Prop} (hk : k true) : c3 f K k := by
  obtain ⟨hz, hl⟩ := szf_of g
  constructor
  refine c4_ok (brF rfl (c5_ok hl (brF rfl ?_) (brT rfl hk)))
  refine c6_ok hz (fun e => c7_ok hz ?_) (fun e e2 => c7_ok hz ?_) fun e e1 e2 S G L h => c7_ok hz ?_
  · exact brE (fun q => (e q).elim) fun _ => j3r9_err e hk
  · refine brE (fun _ => ?_) fun q => (q e).elim
    exact brP (fun _ => j3r9_err (by omega) hk) fun _ => brP (fun _ => j3r9_err (by omega) hk) fun _ => (by omega)
  · refine brE (fun _ => brDn (by omega) (brDn (by omega) ?_)) fun q => (q e).elim
    rw [e]
    have h2 := fok2_of hz e
    exact ⟨brF rfl (brF rfl (c8_ok hz e h2 e2 e1 h (brF rfl (l3r14_ok h2 e2 h hk))))⟩
end Go.Proofs.Ytmnidkbkmakdbaa
