/- The law of 'RelaxSays', in plain Lean. -/
import Derived.Test.YtfdoaacapkopmaaAPI
import Derived.Test.YtfdoaacapkopmaaAPKit2
set_option linter.unusedVariables false
set_option linter.unusedSimpArgs false
namespace Go.Proofs.Ytfdoaacapkopmaa
open Go.Abs

abbrev RI := O × Int × Unit
abbrev LR := List RI

/-- the instruction with another number -/
def wn (o : O) (n : Int) : O := (o.1, o.2.1, o.2.2.1, o.2.2.2.1, n, o.2.2.2.2.2)
/-- the error of an item -/
def e0 (x : RI) : Int := if 0 ≤ x.2.1 then err (wn x.1 0) else err x.1
def ie (L : Int) (x : RI) : Int :=
  if e0 x ≠ 0 then e0 x else if x.2.1 < -1 ∨ x.2.1 > L then 4 else if 0 ≤ x.2.1 ∧ (rng x.1.1 16 20 = false ∨ x.1.2.2.2.2.1 ≠ 0) then 3 else 0
def ies (L : Int) : LR → Int
  | [] => 0
  | x :: r => if ie L x ≠ 0 then ie L x else ies L r

theorem item_go {c : O → (Int → Prop) → Prop} {cj : Int → (Bool → Prop) → Prop} (hc : ∀ {x : O} {k : Int → Prop}, k (err x) → c x k) (hj : ∀ {n : Int} {k : Bool → Prop}, k (rng n 16 20) → cj n k) {x : RI} {L : Int} {k1 : Int → Prop} {N : Prop}
    (h1 : ie L x ≠ 0 → k1 (ie L x)) (h2 : ie L x = 0 → N) :
    br (decide (x.2.1 ≥ 0)) (c (x.1.1, x.1.2.1, x.1.2.2.1, x.1.2.2.2.1, 0, x.1.2.2.2.2.2) fun z => br (z != 0) (k1 z) (br (decide (x.2.1 < -1)) (k1 4) (br (decide (x.2.1 > L)) (k1 4) (br (decide (x.2.1 ≥ 0)) (cj x.1.1 fun z7 => br (!z7) (k1 3) (br (x.1.2.2.2.2.1 != 0) (k1 3) N)) N))))
      (c x.1 fun z => br (z != 0) (k1 z) (br (decide (x.2.1 < -1)) (k1 4) (br (decide (x.2.1 > L)) (k1 4) (br (decide (x.2.1 ≥ 0)) (cj x.1.1 fun z7 => br (!z7) (k1 3) (br (x.1.2.2.2.2.1 != 0) (k1 3) N)) N)))) := by
  unfold ie at h1 h2
  refine brP (fun g => ?_) fun g => ?_
  · have hE : e0 x = err (x.1.1, x.1.2.1, x.1.2.2.1, x.1.2.2.2.1, 0, x.1.2.2.2.2.2) := if_pos g
    rw [hE] at h1 h2
    refine hc (brN (fun e => ?_) fun e => ?_)
    · rw [if_pos e] at h1; exact h1 e
    · rw [if_neg (fun h => h e)] at h1 h2
      refine brDn (by omega) (brP (fun g2 => ?_) fun g2 => brD g (hj ?_))
      · rw [if_pos (Or.inr g2)] at h1; exact h1 (by decide)
      · rw [if_neg (by omega)] at h1 h2
        cases hr : rng x.1.1 16 20 with
        | false => rw [hr, if_pos ⟨by omega, .inl rfl⟩] at h1; exact h1 (by decide)
        | true =>
          refine brF rfl (brN (fun e2 => ?_) fun e2 => ?_)
          · rw [if_pos ⟨by omega, .inr e2⟩] at h1; exact h1 (by decide)
          · rw [if_neg (by rw [hr]; rintro ⟨_, h | h⟩; cases h; exact h e2)] at h2; exact h2 rfl
  · have hE : e0 x = err x.1 := if_neg g
    rw [hE] at h1 h2
    refine hc (brN (fun e => ?_) fun e => ?_)
    · rw [if_pos e] at h1; exact h1 e
    · rw [if_neg (fun h => h e)] at h1 h2
      refine brP (fun g2 => ?_) fun g2 => brP (fun g3 => ?_) fun g3 => brDn g ?_
      · rw [if_pos (Or.inl g2)] at h1; exact h1 (by decide)
      · rw [if_pos (Or.inr g3)] at h1; exact h1 (by decide)
      · rw [if_neg (by omega), if_neg (by omega)] at h2; exact h2 rfl

theorem l50_ok {l : LR} {k1 : Int → Prop} {k2 : Prop} (hl : l.length ≤ 1000) (h1 : ies l.length l ≠ 0 → k1 (ies l.length l)) (h2 : ies l.length l = 0 → k2) : l50r4 k1 k2 l l (l.length : Int) 0 := by
  constructor
  intro I hI
  refine upInd (N := l.length) (M := fun i => (ies l.length (l.drop i) ≠ 0 → k1 (ies l.length (l.drop i))) → (ies l.length (l.drop i) = 0 → k2) → I l l (l.length : Int) (i : Int)) ?_ ?_ 0 (Nat.zero_le _) (by simpa using h1) (by simpa using h2)
  · intro _ g
    exact hI _ _ _ _ (brDn (by omega) (g (by simp [ies])))
  · intro i hi ih g1 g2
    apply hI
    refine brD (by omega) (needAt hi ?_)
    rw [drop_cons hi] at g1 g2
    simp only [ies] at g1 g2
    rw [wrapS (by omega)]
    refine item_go (c := c25) (cj := c26) c25_ok c26_ok (fun e => ?_) fun e => ?_
    · rw [if_pos e] at g1; exact g1 e
    · rw [if_neg (by simpa using e)] at g1 g2; exact ih g1 g2
theorem c50_ok {l : LR} {k : Int → Prop} (hl : l.length ≤ 1000) (h : k (ies l.length l)) : c50 l k := by
  constructor
  exact brDn (by omega) (l50_ok hl (fun _ => h) fun e => by rw [e] at h; exact h)
theorem l47_ok {l : LR} {k1 : Int → Prop} {k2 : Prop} (hl : l.length ≤ 1000) (h1 : ies l.length l ≠ 0 → k1 (ies l.length l)) (h2 : ies l.length l = 0 → k2) : l47r4 k1 k2 l l (l.length : Int) 0 := by
  constructor
  intro I hI
  refine upInd (N := l.length) (M := fun i => (ies l.length (l.drop i) ≠ 0 → k1 (ies l.length (l.drop i))) → (ies l.length (l.drop i) = 0 → k2) → I l l (l.length : Int) (i : Int)) ?_ ?_ 0 (Nat.zero_le _) (by simpa using h1) (by simpa using h2)
  · intro _ g
    exact hI _ _ _ _ (brDn (by omega) (g (by simp [ies])))
  · intro i hi ih g1 g2
    apply hI
    refine brD (by omega) (needAt hi ?_)
    rw [drop_cons hi] at g1 g2
    simp only [ies] at g1 g2
    rw [wrapS (by omega)]
    refine item_go (c := c24) (cj := c27) c24_ok c27_ok (fun e => ?_) fun e => ?_
    · rw [if_pos e] at g1; exact g1 e
    · rw [if_neg (by simpa using e)] at g1 g2; exact ih g1 g2
theorem c47_ok {l : LR} {k : Int → Prop} (hl : l.length ≤ 1000) (h : k (ies l.length l)) : c47 l k := by
  constructor
  exact brDn (by omega) (l47_ok hl (fun _ => h) fun e => by rw [e] at h; exact h)

/-! ### which items are long -/

/-- the address of an item -/
def Ad (g : List Bool) : Nat → Nat
  | 0 => 0
  | i + 1 => Ad g i + (if g[i]? = some true then 2 else 1)
theorem A_le (g : List Bool) : ∀ i, i ≤ Ad g i ∧ Ad g i ≤ 2 * i
  | 0 => by simp [Ad]
  | i + 1 => by have := A_le g i; simp only [Ad]; split <;> omega
def sh (n : Int) : Prop := -128 ≤ n ∧ n ≤ 127
instance (n : Int) : Decidable (sh n) := by unfold sh; infer_instance
/-- the distance of a short item -/
def ds (g : List Bool) (i : Nat) (t : Int) : Int := (Ad g t.toNat : Int) - (Ad g i : Int) - 1
def SubB (g m : List Bool) : Prop := ∀ i : Nat, g[i]? = some true → m[i]? = some true
def base (x : RI) : Bool := decide (x.2.1 < 0) && !rng x.1.2.2.2.2.1 (-128) 127
def Clo (l : LR) (g : List Bool) : Prop := ∀ i (h : i < l.length), 0 ≤ l[i].2.1 → g[i]? = some true ∨ sh (ds g i l[i].2.1)
def Bas (l : LR) (g : List Bool) : Prop := ∀ i (h : i < l.length), base l[i] = true → g[i]? = some true
/-- the longs as they must be -/
structure Best (l : LR) (g : List Bool) : Prop where
  len : g.length = l.length
  bas : Bas l g
  clo : Clo l g
  low : ∀ m, m.length = l.length → Bas l m → Clo l m → SubB g m

theorem A_seg {g m : List Bool} (h : SubB g m) {i : Nat} : ∀ n, (Ad g (i + n) : Int) - Ad g i ≤ (Ad m (i + n) : Int) - Ad m i
  | 0 => by simp
  | n + 1 => by
    have ih := A_seg h (i := i) n
    have e1 : Ad g (i + (n + 1)) = Ad g (i + n) + (if g[i + n]? = some true then 2 else 1) := rfl
    have e2 : Ad m (i + (n + 1)) = Ad m (i + n) + (if m[i + n]? = some true then 2 else 1) := rfl
    rw [e1, e2]
    by_cases hg : g[i + n]? = some true
    · rw [if_pos hg, if_pos (h _ hg)]; omega
    · rw [if_neg hg]; split <;> omega
theorem A_up {g : List Bool} {i : Nat} : ∀ n, (Ad g i : Int) + n ≤ (Ad g (i + n) : Int)
  | 0 => by simp
  | n + 1 => by
    have ih := A_up (g := g) (i := i) n
    have e1 : Ad g (i + (n + 1)) = Ad g (i + n) + (if g[i + n]? = some true then 2 else 1) := rfl
    rw [e1]
    split <;> omega
theorem sh_mono {g m : List Bool} (h : SubB g m) {i : Nat} {t : Int} (ht : 0 ≤ t) (hn : ¬sh (ds g i t)) : ¬sh (ds m i t) := by
  unfold ds sh at *
  obtain ⟨u, rfl⟩ := Int.eq_ofNat_of_zero_le ht
  rw [Int.toNat_natCast] at *
  rcases Nat.le_total i u with hl | hl
  · obtain ⟨n, rfl⟩ := Nat.exists_eq_add_of_le hl
    have a := A_seg h (i := i) n
    have b := A_up (g := g) (i := i) n
    omega
  · obtain ⟨n, rfl⟩ := Nat.exists_eq_add_of_le hl
    have a := A_seg h (i := u) n
    have b := A_up (g := g) (i := u) n
    omega
theorem best_eq {l : LR} {g m : List Bool} (hg : Best l g) (hm : Best l m) : g = m := by
  have h1 := hg.low m hm.len hm.bas hm.clo
  have h2 := hm.low g hg.len hg.bas hg.clo
  refine List.ext_getElem (by rw [hg.len, hm.len]) fun i a b => ?_
  have c1 := h1 i
  have c2 := h2 i
  rw [List.getElem?_eq_getElem a, List.getElem?_eq_getElem b] at c1 c2
  cases hx : g[i] <;> cases hy : m[i] <;> simp_all

/-- what holds of the longs at any time -/
structure Way' (l : LR) (g : List Bool) : Prop where
  len : g.length = l.length
  bas : Bas l g
  low : ∀ m, m.length = l.length → Bas l m → Clo l m → SubB g m
theorem way_set {l : LR} {g g0 : List Bool} (hw : Way' l g) (h0 : SubB g0 g) {i : Nat} (hi : i < l.length) (ht : 0 ≤ l[i].2.1) (hn : ¬sh (ds g0 i l[i].2.1)) : Way' l (g.set i true) := by
  refine ⟨by rw [List.length_set]; exact hw.len, fun j hj hb => ?_, fun m h1 h2 h3 j hj => ?_⟩
  · by_cases hij : i = j
    · subst hij; rw [List.getElem?_set_self (by rw [hw.len]; exact hi)]
    · rw [List.getElem?_set_ne hij]; exact hw.bas j hj hb
  · by_cases hij : i = j
    · subst hij
      rcases h3 i hi ht with h | h
      · exact h
      · exact absurd h (sh_mono (fun a b => hw.low m h1 h2 h3 a (h0 a b)) ht hn)
    · rw [List.getElem?_set_ne hij] at hj
      exact hw.low m h1 h2 h3 j hj
theorem sub_set {g g0 : List Bool} (h : SubB g0 g) {i : Nat} : SubB g0 (g.set i true) := by
  intro j hj
  by_cases hij : i = j
  · subst hij
    have := h i hj
    have hl : i < g.length := by
      rcases Nat.lt_or_ge i g.length with h | h
      · exact h
      · rw [List.getElem?_eq_none h] at this; cases this
    rw [List.getElem?_set_self hl]
  · rw [List.getElem?_set_ne hij]; exact h j hj
def cf (g : List Bool) : Nat := g.count false
theorem cf_set {g : List Bool} {i : Nat} (h : g[i]? = some false) : cf (g.set i true) + 1 = cf g := by
  unfold cf
  induction g generalizing i with
  | nil => simp at h
  | cons b r ih =>
    cases i with
    | zero => simp at h; subst h; simp
    | succ i =>
      have := ih (i := i) (by simpa using h)
      simp only [List.set_cons_succ, List.count_cons]
      omega

/-- the addresses -/
def atL (g : List Bool) (n : Nat) : List Int := (List.range (n + 1)).map fun i => ((Ad g i : Nat) : Int)
theorem atL_len {g : List Bool} {n : Nat} : (atL g n).length = n + 1 := by simp [atL]
theorem atL_get {g : List Bool} {n i : Nat} (h : i < (atL g n).length) : (atL g n)[i] = Ad g i := by simp [atL]
def pat (g : List Bool) (n i : Nat) : List Int := (List.range (n + 1)).map fun j => if j ≤ i then ((Ad g j : Nat) : Int) else 0
theorem pat_get {g : List Bool} {n i j : Nat} (h : j < (pat g n i).length) : (pat g n i)[j] = if j ≤ i then ((Ad g j : Nat) : Int) else 0 := by simp [pat]
theorem pat_set {g : List Bool} {n i : Nat} (hi : i < n) {v : Int} (hv : v = Ad g (i + 1)) : (pat g n i).set (i + 1) v = pat g n (i + 1) := by
  refine List.ext_getElem (by simp [pat]) fun j h1 h2 => ?_
  rw [pat_get]
  by_cases hj : i + 1 = j
  · subst hj; rw [List.getElem_set_self, if_pos (Nat.le_refl _), hv]
  · rw [List.getElem_set_ne hj, pat_get]
    by_cases hl : j ≤ i
    · rw [if_pos hl, if_pos (by omega)]
    · rw [if_neg hl, if_neg (by omega)]
theorem c116_ok {l : LR} {g : List Bool} {k : List Int → Prop} (hl : l.length ≤ 1000) (hg : g.length = l.length) (h : k (atL g l.length)) : c116 l g k := by
  constructor
  unfold tc116
  rw [wrapS (by omega)]
  refine brD (by omega) ⟨?_⟩
  intro I hI
  rw [Int.toNat_natCast]
  have e0 : List.replicate (l.length + 1) (0 : Int) = pat g l.length 0 := by
    refine List.ext_getElem (by simp [pat]) fun j h1 h2 => ?_
    rw [pat_get, List.getElem_replicate]
    split
    · have : j = 0 := by omega
      subst this; rfl
    · rfl
  rw [e0]
  have hpl : ∀ i, (pat g l.length i).length = l.length + 1 := fun i => by simp [pat]
  refine upInd (N := l.length) (M := fun i => I g (l.length : Int) (i : Int) (pat g l.length i)) ?_ ?_ 0 (Nat.zero_le _)
  · apply hI
    refine brDn (by omega) ?_
    have : pat g l.length l.length = atL g l.length := by
      refine List.ext_getElem (by simp [pat, atL]) fun j h1 h2 => ?_
      rw [pat_get, atL_get, if_pos (by rw [hpl] at h1; omega)]
    rw [this]; exact h
  · intro i hi ih
    apply hI
    refine brD (by omega) (needAt (by omega) ?_)
    rw [wrapS (by omega), Int.toNat_natCast, Int.toNat_natCast]
    have hb := A_le g i
    have hA : Ad g (i + 1) = Ad g i + (if g[i]? = some true then 2 else 1) := rfl
    rw [List.getElem?_eq_getElem (by omega : i < g.length)] at hA
    refine brB (fun e => ?_) fun e => ?_
    all_goals
      rw [e] at hA
      refine brD (by rw [hpl]; omega) (needNth (by rw [hpl]; omega) (brD (by rw [hpl]; omega) (needNth (by rw [hpl]; omega) ?_)))
      rw [pat_get, if_pos (Nat.le_refl _), wrap64 (by omega) (by omega), pat_set hi (by rw [hA]; simp)]
      exact ih

theorem rng_sh {n : Int} : rng n (-128) 127 = decide (sh n) := rfl
theorem c28_two {o : O} {k : Int → Prop} (h : k (if sh o.2.2.2.2.1 then 1 else 2)) : c28 o k := by
  refine c28_ok ?_
  rw [rng_sh]
  by_cases hs : sh o.2.2.2.2.1
  · rw [if_pos hs] at h; rw [decide_eq_true hs]; exact h
  · rw [if_neg hs] at h; rw [decide_eq_false hs]; exact h

def Bnd (l : LR) : Prop := ∀ i (h : i < l.length), -1 ≤ l[i].2.1 ∧ l[i].2.1 ≤ l.length
theorem ies_zero {L : Int} : ∀ {l : LR}, ies L l = 0 → ∀ x ∈ l, ie L x = 0
  | [], _, x, hx => by cases hx
  | y :: r, h, x, hx => by
    simp only [ies] at h
    by_cases hy : ie L y = 0
    · rw [if_neg (by simpa using hy)] at h
      rcases List.mem_cons.1 hx with rfl | hx
      · exact hy
      · exact ies_zero h x hx
    · rw [if_pos hy] at h; exact absurd h hy
theorem ie_bnd {L : Int} {x : RI} (h : ie L x = 0) : -1 ≤ x.2.1 ∧ x.2.1 ≤ L := by
  unfold ie at h
  split at h
  · rename_i he; exact absurd h he
  · split at h
    · cases h
    · omega
theorem ies_bnd {l : LR} (h : ies l.length l = 0) : Bnd l := fun i hi => ie_bnd (ies_zero h _ (List.getElem_mem hi))

/-- one round -/
theorem l48r15_ok {l : LR} {g0 : List Bool} {k : LR → Bool → List Bool → Prop} (hl : l.length ≤ 1000) (hb : Bnd l) (hw0 : Way' l g0)
    (h1 : Best l g0 → k l false g0) (h2 : ∀ g, Way' l g → cf g < cf g0 → k l true g) : l48r15 k l false l (l.length : Int) 0 g0 (atL g0 l.length) := by
  constructor
  intro I hI
  refine upInd (N := l.length) (M := fun i => ∀ (c : Bool) (g : List Bool), Way' l g → SubB g0 g → (c = true → cf g < cf g0) → (c = false → g = g0 ∧ ∀ j (hj : j < l.length), j < i → 0 ≤ l[j].2.1 → g0[j]? = some true ∨ sh (ds g0 j l[j].2.1)) → I l c l (l.length : Int) (i : Int) g (atL g0 l.length)) ?_ ?_ 0 (Nat.zero_le _) false g0 hw0 (fun _ h => h) (fun h => by cases h) (fun _ => ⟨rfl, fun j _ h => by omega⟩)
  · intro c g hw hs ht hf
    apply hI
    refine brDn (by omega) ?_
    cases c with
    | true => exact h2 g hw (ht rfl)
    | false =>
      obtain ⟨rfl, hc⟩ := hf rfl
      exact h1 ⟨hw.len, hw.bas, fun i hi ht => hc i hi hi ht, hw.low⟩
  · intro i hi ih c g hw hs ht hf
    apply hI
    have hgi : i < g.length := by rw [hw.len]; exact hi
    have hB := hb i hi
    have hal := atL_len (g := g0) (n := l.length)
    rw [wrapS (by omega), Int.toNat_natCast]
    refine brD (by omega) (needAt hi (brP (fun hn => ?_) fun hn => brD (by omega) (needNth hgi (brB (fun hb1 => ?_) fun hb1 => ?_))))
    · exact ih c g hw hs ht fun hc => ⟨(hf hc).1, fun j hj hji h0 => by
        by_cases hje : j = i
        · subst hje; omega
        · exact (hf hc).2 j hj (by omega) h0⟩
    · exact ih c g hw hs ht fun hc => ⟨(hf hc).1, fun j hj hji h0 => by
        by_cases hje : j = i
        · subst hje
          rw [← (hf hc).1, List.getElem?_eq_getElem hgi, hb1]; exact .inl rfl
        · exact (hf hc).2 j hj (by omega) h0⟩
    · have hA1 := A_le g0 l[i].2.1.toNat
      have hA2 := A_le g0 i
      refine brD (by omega) (needNth (by omega) (brD (by omega) (needNth (by omega) ?_)))
      rw [atL_get, atL_get, wrap64 (a := (Ad g0 l[i].2.1.toNat : Int) - (Ad g0 i : Int)) (by omega) (by omega), wrap64 (by omega) (by omega)]
      refine c28_two ?_
      dsimp only
      by_cases hsh : sh ((Ad g0 l[i].2.1.toNat : Int) - (Ad g0 i : Int) - 1)
      · rw [if_pos hsh]
        refine brF rfl (ih c g hw hs ht fun hc => ⟨(hf hc).1, fun j hj hji h0 => ?_⟩)
        by_cases hje : j = i
        · subst hje; exact .inr hsh
        · exact (hf hc).2 j hj (by omega) h0
      · rw [if_neg hsh]
        refine brT rfl (brD (by omega) (needNth hgi ?_))
        refine ih true _ (way_set hw hs hi (by omega) hsh) (sub_set hs) (fun _ => ?_) (fun hc => by cases hc)
        have e1 := cf_set (g := g) (i := i) (by rw [List.getElem?_eq_getElem hgi, hb1])
        cases c with
        | true => have := ht rfl; omega
        | false => have := (hf rfl).1; rw [← this]; omega

theorem l48r11_ok {l : LR} {k : List Bool → Prop} (hl : l.length ≤ 1000) (hb : Bnd l) (h : ∀ g, Best l g → k g) {g : List Bool} (hw : Way' l g) : l48r11 k l true g := by
  constructor
  intro I hI
  have key : ∀ n (g : List Bool), cf g ≤ n → Way' l g → I l true g := by
    intro n
    induction n with
    | zero =>
      intro g hn hw
      exact hI _ _ _ (brT rfl (c116_ok hl hw.len (l48r15_ok hl hb hw (fun hB => hI _ _ _ (brF rfl (h g hB))) fun g' _ hlt => by omega)))
    | succ n ih =>
      intro g hn hw
      exact hI _ _ _ (brT rfl (c116_ok hl hw.len (l48r15_ok hl hb hw (fun hB => hI _ _ _ (brF rfl (h g hB))) fun g' hw' hlt => ih g' (by omega) hw')))
  exact key _ g (Nat.le_refl _) hw

/-- the longs at the begin -/
def bs (l : LR) : List Bool := l.map base
def pb (l : LR) (i : Nat) : List Bool := (List.range l.length).map fun j => if j < i then (l[j]?.map base).getD false else false
theorem pb_len {l : LR} {i : Nat} : (pb l i).length = l.length := by simp [pb]
theorem pb_set {l : LR} {i : Nat} (hi : i < l.length) : (pb l i).set i (base l[i]) = pb l (i + 1) := by
  refine List.ext_getElem (by simp [pb]) fun j h1 h2 => ?_
  have hj : j < l.length := by rw [pb_len] at h2; exact h2
  by_cases hij : i = j
  · subst hij; rw [List.getElem_set_self]; simp [pb, hj]
  · rw [List.getElem_set_ne hij]
    simp only [pb, List.getElem_map, List.getElem_range]
    by_cases hlt : j < i
    · rw [if_pos hlt, if_pos (by omega)]
    · rw [if_neg hlt, if_neg (by omega)]
theorem pb_zero {l : LR} : pb l 0 = List.replicate l.length false := by
  refine List.ext_getElem (by simp [pb]) fun j h1 h2 => by simp [pb]
theorem pb_all {l : LR} : pb l l.length = bs l := by
  refine List.ext_getElem (by simp [pb, bs]) fun j h1 h2 => ?_
  have hj : j < l.length := by rw [pb_len] at h1; exact h1
  simp [pb, bs, hj]
theorem way_bs {l : LR} : Way' l (bs l) := by
  refine ⟨by simp [bs], fun i hi hb => by simp [bs, hi, hb], fun m h1 h2 h3 j hj => ?_⟩
  have hl : j < l.length := by
    rcases Nat.lt_or_ge j l.length with h | h
    · exact h
    · rw [List.getElem?_eq_none (by simp [bs]; exact h)] at hj; cases hj
  exact h2 j hl (by simpa [bs, hl] using hj)

theorem l48r6_ok {l : LR} {k : LR → List Bool → Prop} (hl : l.length ≤ 1000) (h : k l (bs l)) : l48r6 k l l (l.length : Int) 0 (List.replicate l.length false) := by
  constructor
  intro I hI
  rw [← pb_zero]
  refine upInd (N := l.length) (M := fun i => I l l (l.length : Int) (i : Int) (pb l i)) ?_ ?_ 0 (Nat.zero_le _)
  · refine hI _ _ _ _ _ (brDn (by omega) ?_)
    rw [pb_all]; exact h
  · intro i hi ih
    apply hI
    have hpl := pb_len (l := l) (i := i)
    rw [wrapS (by omega), Int.toNat_natCast]
    refine brD (by omega) (needAt hi (brP (fun hn => c28_two (brD (by omega) (needNth (by omega) ?_))) fun hn => brD (by omega) (needNth (by omega) ?_)))
    · have : ((if sh l[i].1.2.2.2.2.1 then (1 : Int) else 2) == 2) = base l[i] := by
        unfold base
        rw [decide_eq_true hn, rng_sh]
        by_cases hs : sh l[i].1.2.2.2.2.1 <;> simp [hs]
      rw [this, pb_set hi]; exact ih
    · have : base l[i] = false := by unfold base; rw [decide_eq_false hn]; rfl
      rw [← this, pb_set hi]; exact ih

theorem c48_ok {l : LR} {k : Int → List Bool → Prop} (hl : l.length ≤ 1000) (h1 : ies l.length l ≠ 0 → k (ies l.length l) []) (h2 : ies l.length l = 0 → ∀ g, Best l g → k 0 g) : c48 l k := by
  constructor
  unfold tc48
  refine c50_ok hl (brN (fun e => h1 e) fun e => brD (by omega) ?_)
  rw [Int.toNat_natCast]
  exact l48r6_ok hl (l48r11_ok hl (ies_bnd e) (h2 e) way_bs)

/-! ### the reference -/

theorem c29_sh {n : Int} {k : Bool → Prop} (h : k (decide (sh n))) : c29 n k := c29_ok h

theorem l52r3_ok {l : LR} {k : LR → List Bool → Prop} (hl : l.length ≤ 1000) (h : k l (bs l)) : l52r3 k l l (l.length : Int) 0 (List.replicate l.length false) := by
  constructor
  intro I hI
  rw [← pb_zero]
  refine upInd (N := l.length) (M := fun i => I l l (l.length : Int) (i : Int) (pb l i)) ?_ ?_ 0 (Nat.zero_le _)
  · refine hI _ _ _ _ _ (brDn (by omega) ?_)
    rw [pb_all]; exact h
  · intro i hi ih
    apply hI
    have hpl := pb_len (l := l) (i := i)
    rw [wrapS (by omega), Int.toNat_natCast]
    refine brD (by omega) (needAt hi (brP (fun hn => c29_sh (brD (by omega) (needNth (by omega) ?_))) fun hn => brD (by omega) (needNth (by omega) ?_)))
    · have : (!decide (sh l[i].1.2.2.2.2.1)) = base l[i] := by
        unfold base
        rw [decide_eq_true hn, rng_sh]; rfl
      rw [this, pb_set hi]; exact ih
    · have : base l[i] = false := by unfold base; rw [decide_eq_false hn]; rfl
      rw [← this, pb_set hi]; exact ih

theorem c146_ok {a b : Nat} {g : List Bool} {k : Int → List Bool → Prop} (hab : a ≤ b) (hb : b ≤ g.length) (hl : g.length ≤ 1000) (h : k ((Ad g b : Int) - Ad g a) g) : c146 (a : Int) (b : Int) g k := by
  constructor
  constructor
  intro I hI
  refine upInd (N := b) (M := fun i => a ≤ i → I (b : Int) ((Ad g i : Int) - Ad g a) (i : Int) g) ?_ ?_ a hab (Nat.le_refl _) |> (fun x => by simpa using x)
  · intro _
    exact hI _ _ _ _ (brDn (by omega) h)
  · intro i hi ih hai
    apply hI
    have h1 := A_le g i
    have h2 := A_le g a
    have hA : Ad g (i + 1) = Ad g i + (if g[i]? = some true then 2 else 1) := rfl
    rw [List.getElem?_eq_getElem (by omega : i < g.length)] at hA
    have ih := ih (by omega)
    rw [wrapS (n := i) (by omega), wrap64 (a := (Ad g i : Int) - Ad g a + 1) (by omega) (by omega)]
    refine brD (by omega) (needAt (by omega) (brB (fun e => ?_) fun e => ?_))
    · rw [e] at hA
      rw [wrap64 (by omega) (by omega)]
      rw [show (Ad g i : Int) - Ad g a + 1 + 1 = (Ad g (i + 1) : Int) - Ad g a by rw [hA]; simp; omega]
      exact ih
    · rw [e] at hA
      rw [show (Ad g i : Int) - Ad g a + 1 = (Ad g (i + 1) : Int) - Ad g a by rw [hA]; simp; omega]
      exact ih

theorem c117_ok {l : LR} {g : List Bool} {i : Nat} {k : Int → Prop} (hl : l.length ≤ 1000) (hg : g.length = l.length) (hi : i < l.length) (h0 : 0 ≤ l[i].2.1) (h1 : l[i].2.1 ≤ l.length) (h : k ((Ad g l[i].2.1.toNat : Int) - Ad g (i + 1))) : c117 l g (i : Int) k := by
  constructor
  unfold tc117
  obtain ⟨t, ht⟩ := Int.eq_ofNat_of_zero_le h0
  refine needAt hi (brP (fun hgt => needAt hi ?_) fun hgt => needAt hi ?_)
  · rw [wrapS (by omega), ht]
    rw [ht, Int.toNat_natCast] at h
    exact c146_ok (by omega) (by omega) (by omega) h
  · rw [wrapS (by omega), ht]
    rw [ht, Int.toNat_natCast] at h
    refine c146_ok (by omega) (by omega) (by omega) ?_
    have a1 := A_le g (i + 1)
    have a2 := A_le g t
    rw [wrap64 (by omega) (by omega), show (0 : Int) - ((Ad g (i + 1) : Int) - Ad g t) = (Ad g t : Int) - Ad g (i + 1) by omega]
    exact h

theorem c52_ok {l : LR} {k : List Bool → Prop} (hl : l.length ≤ 1000) (hb : Bnd l) (h : ∀ g, Best l g → k g) : c52 l k := by
  constructor
  unfold tc52
  refine brD (by omega) ?_
  rw [Int.toNat_natCast]
  refine l52r3_ok hl ⟨?_⟩
  intro I hI
  have key : ∀ n (i : Nat) (g : List Bool), cf g * (l.length + 1) + i ≤ n → i ≤ l.length → Way' l g → (∀ j (hj : j < l.length), i ≤ j → 0 ≤ l[j].2.1 → g[j]? = some true ∨ sh (ds g j l[j].2.1)) → I l ((i : Int) - 1) g := by
    intro n
    induction n with
    | zero =>
      intro i g hn hi hw hc
      have : i = 0 := by omega
      subst this
      exact hI _ _ _ (brDn (by omega) (h g ⟨hw.len, hw.bas, fun j hj => hc j hj (Nat.zero_le _), hw.low⟩))
    | succ n ih =>
      intro i g hn hi hw hc
      cases i with
      | zero => exact hI _ _ _ (brDn (by omega) (h g ⟨hw.len, hw.bas, fun j hj => hc j hj (Nat.zero_le _), hw.low⟩))
      | succ i =>
        have e : ((i + 1 : Nat) : Int) - 1 = (i : Int) := by omega
        rw [e]
        apply hI
        have hil : i < l.length := by omega
        have hgi : i < g.length := by rw [hw.len]; exact hil
        have hB := hb i hil
        rw [Int.toNat_natCast, wrap64 (a := (i : Int) - 1) (by omega) (by omega), wrap64 (a := (l.length : Int) - 1) (by omega) (by omega)]
        have next : (0 ≤ l[i].2.1 → g[i]? = some true ∨ sh (ds g i l[i].2.1)) → I l ((i : Int) - 1) g := fun hx => ih i g (by omega) (by omega) hw fun j hj hij h0 => by
          by_cases hje : j = i
          · subst hje; exact hx h0
          · exact hc j hj (by omega) h0
        refine brD (by omega) (needAt hil (brP (fun h0 => brD (by omega) (needNth hgi (brB (fun hb1 => ?_) fun hb1 => ?_))) fun h0 => next fun h => absurd h h0))
        · have hb1 : g[i] = false := by simpa using hb1
          refine c117_ok hl hw.len hil h0 hB.2 (c29_sh ?_)
          have hA : Ad g (i + 1) = Ad g i + 1 := by
            have : Ad g (i + 1) = Ad g i + (if g[i]? = some true then 2 else 1) := rfl
            rw [this, if_neg (by rw [List.getElem?_eq_getElem hgi, hb1]; simp)]
          have hd : (Ad g l[i].2.1.toNat : Int) - Ad g (i + 1) = ds g i l[i].2.1 := by unfold ds; rw [hA]; omega
          rw [hd]
          refine brB (fun hs => ?_) fun hs => ?_
          · have hs : ¬sh (ds g i l[i].2.1) := by simpa using hs
            refine brD (by omega) (needNth hgi ?_)
            have e1 := cf_set (g := g) (i := i) (by rw [List.getElem?_eq_getElem hgi, hb1])
            refine ih l.length _ ?_ (Nat.le_refl _) (way_set hw (fun _ h => h) hil h0 hs) fun j hj hij => by omega
            rw [← e1, Nat.add_mul, Nat.one_mul] at hn
            omega
          · exact next fun _ => .inr (by simpa using hs)
        · have hb1 : g[i] = true := by simpa using hb1
          exact next fun _ => .inl (by rw [List.getElem?_eq_getElem hgi, hb1])
  have hlen : ((l.length : Nat) : Int) - 1 = IntKind.wrap .i64 (((l.length : Nat) : Int) - 1) := by rw [wrap64 (by omega) (by omega)]
  rw [← hlen]
  exact key _ l.length (bs l) (Nat.le_refl _) (Nat.le_refl _) way_bs fun j hj hij => by omega

theorem c51_self {g : List Bool} {k : Bool → Prop} (hl : g.length ≤ 1000) (h : k true) : c51 g g k := by
  constructor
  refine brN (fun e => absurd rfl e) fun _ => ⟨?_⟩
  intro I hI
  exact upInd (N := g.length) (M := fun i => I g g (g.length : Int) (i : Int)) (hI _ _ _ _ (brDn (by omega) h))
    (fun i hi ih => hI _ _ _ _ (brD (by omega) (needAt hi (needAt hi (brF (by simp) (by rw [wrapS (by omega)]; exact ih)))))) 0 (Nat.zero_le _)
end Go.Proofs.Ytfdoaacapkopmaa
