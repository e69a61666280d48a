/- The law of 'DebugSays', in plain Lean. -/
import Derived.Test.YtfdoaacapkopmaaAD7
import Derived.Test.YtfdoaacapkopmaaAPKit2
import Derived.Test.YtfdoaacapkopmaaARow6
set_option linter.unusedVariables false
set_option linter.unusedSimpArgs false
namespace Go.Proofs.Ytfdoaacapkopmaa
open Go.Abs

abbrev LV := List (List UInt8 × Int × Int × Unit)
abbrev MK := Int × Int × Int × LV × Unit
abbrev LM := List MK
abbrev LP := List (Int × Int × List Int × Int × Unit)
abbrev IM := List Int × Int × List Int × LP × LM × Unit

/-- the error of marks -/
def chk (N S : Int) : Int → LM → Int
  | _, [] => 0
  | last, m :: r => if m.1 < 0 ∨ m.1 ≥ N ∨ m.2.1 < 0 ∨ m.2.1 ≥ S ∨ m.2.2.1 < 0 then 4 else if m.1 < last then 3 else chk N S m.1 r

theorem l39_ok {im : IM} {ms : LM} {k1 : Int → Prop} {k2 : Prop} (hl : ms.length ≤ 16384) (h1 : chk im.1.length im.2.2.1.length (-1) ms ≠ 0 → k1 (chk im.1.length im.2.2.1.length (-1) ms)) (h2 : chk im.1.length im.2.2.1.length (-1) ms = 0 → k2) :
    l39r5 k1 k2 (-1) ms (ms.length : Int) 0 im := by
  constructor
  intro I hI
  have key := upInd (N := ms.length) (M := fun i => ∀ last : Int, (chk im.1.length im.2.2.1.length last (ms.drop i) ≠ 0 → k1 (chk im.1.length im.2.2.1.length last (ms.drop i))) → (chk im.1.length im.2.2.1.length last (ms.drop i) = 0 → k2) → I last ms (ms.length : Int) (i : Int) im)
    (by
      intro last _ h
      apply hI
      refine brDn (by omega) (h ?_)
      simp [chk])
    (by
      intro i hi ih last g1 g2
      apply hI
      refine brD (by omega) (needAt hi ?_)
      rw [drop_cons hi] at g1 g2
      simp only [chk] at g1 g2
      generalize ms[i] = m at *
      have four : (m.1 < 0 ∨ m.1 ≥ im.1.length ∨ m.2.1 < 0 ∨ m.2.1 ≥ im.2.2.1.length ∨ m.2.2.1 < 0) → k1 4 := fun h => by
        rw [if_pos h] at g1; exact g1 (by decide)
      refine brP (fun h => four (.inl h)) fun a1 => brP (fun h => four (.inr (.inl h))) fun a2 => brP (fun h => four (.inr (.inr (.inl h)))) fun a3 => brP (fun h => four (.inr (.inr (.inr (.inl h))))) fun a4 => brP (fun h => four (.inr (.inr (.inr (.inr h))))) fun a5 => ?_
      rw [if_neg (by omega)] at g1 g2
      rw [wrapS (by omega)]
      refine brP (fun h => ?_) fun h => ?_
      · rw [if_pos h] at g1; exact g1 (by decide)
      · rw [if_neg h] at g1 g2
        exact ih _ g1 g2)
  exact key 0 (Nat.zero_le _) (-1) (by simpa using h1) (by simpa using h2)

theorem c39_ok {im : IM} {k : Int → Prop} (hl : im.2.2.2.2.1.length ≤ 16384) (h : k (chk im.1.length im.2.2.1.length (-1) im.2.2.2.2.1)) : c39 im k := by
  constructor
  unfold tc39
  exact brDn (by omega) (l39_ok hl (fun _ => h) fun e => by rw [e] at h; exact h)

def prev (ms : LM) : Nat → Int
  | 0 => -1
  | i + 1 => match ms[i]? with | some m => m.1 | none => 0

theorem l7r8_ok {k1 : Int → Int → Int → Int → LM → List Int → List Int → LP → Int → Int → LV → Prop} {a1 a2 a7 a12 a13 : Int} {ms : LM} {a9 a10 : List Int} {a11 : LP} {a14 : LV} (hl : ms.length ≤ 20)
    (h : k1 a1 a2 (chk 40 3 (-1) ms) a7 ms a9 a10 a11 a12 a13 a14) : l7r8 k1 a1 a2 0 ms (ms.length : Int) 0 a7 ms a9 a10 a11 a12 a13 a14 := by
  constructor
  intro I hI
  have key := upInd (N := ms.length) (M := fun i => ∀ w : Int, k1 a1 a2 (if w ≠ 0 then w else chk 40 3 (prev ms i) (ms.drop i)) a7 ms a9 a10 a11 a12 a13 a14 → I a1 a2 w ms (ms.length : Int) (i : Int) a7 ms a9 a10 a11 a12 a13 a14)
    (by
      intro w g
      apply hI
      refine brDn (by omega) ?_
      have : (if w ≠ 0 then w else chk 40 3 (prev ms ms.length) (ms.drop ms.length)) = w := by
        split
        · rfl
        · rename_i h; simp [chk]; omega
      rw [this] at g
      exact g)
    (by
      intro i hi ih w g
      apply hI
      refine brD (by omega) (needAt hi ?_)
      have hp : prev ms (i + 1) = ms[i].1 := by simp [prev, hi]
      rw [wrapS (by omega)]
      refine brN (fun hw => ?_) fun hw => ?_
      · rw [if_pos hw] at g
        refine ih w ?_
        rw [if_pos hw]; exact g
      · rw [if_neg (by omega), drop_cons hi] at g
        simp only [chk] at g
        rw [hp] at ih
        have hm : ∀ j, (h : j < ms.length) → i = j + 1 → prev ms i = ms[j].1 := by
          intro j hj e; subst e; simp [prev, hj]
        have h0 : i = 0 → prev ms i = -1 := by intro e; subst e; rfl
        have four : (ms[i].1 < 0 ∨ ms[i].1 ≥ 40 ∨ ms[i].2.1 < 0 ∨ ms[i].2.1 ≥ 3 ∨ ms[i].2.2.1 < 0) → I a1 a2 4 ms (ms.length : Int) ((i + 1 : Nat) : Int) a7 ms a9 a10 a11 a12 a13 a14 := fun h => by
          rw [if_pos h] at g
          exact ih 4 (by rw [if_pos (by decide)]; exact g)
        refine brP (fun h => four (.inl h)) fun b1 => brP (fun h => four (.inr (.inl h))) fun b2 => brP (fun h => four (.inr (.inr (.inl h)))) fun b3 => brP (fun h => four (.inr (.inr (.inr (.inl (by omega)))))) fun b4 => brP (fun h => four (.inr (.inr (.inr (.inr h))))) fun b5 => ?_
        rw [if_neg (by omega)] at g
        subst hw
        refine brP (fun hi0 => ?_) fun hi0 => ?_
        · obtain ⟨j, rfl⟩ : ∃ j, i = j + 1 := ⟨i - 1, by omega⟩
          rw [hm j (by omega) rfl] at g
          have e : IntKind.wrap .i64 (((j + 1 : Nat) : Int) - 1) = (j : Int) := by rw [wrap64 (by omega) (by omega)]; omega
          rw [e]
          refine needAt (by omega) (brP (fun h => ?_) fun h => ?_)
          · rw [if_pos h] at g
            exact ih 3 (by rw [if_pos (by decide)]; exact g)
          · rw [if_neg h] at g
            exact ih 0 (by rw [if_neg (by decide)]; exact g)
        · rw [h0 (by omega), if_neg (by omega)] at g
          exact ih 0 (by rw [if_neg (by decide)]; exact g))
  exact key 0 (Nat.zero_le _) 0 (by simpa [prev] using h)

theorem c106_ok {v m : Int} {k : Int → Prop} (hm : 0 < m) (hm2 : m ≤ 4294967296) (h : k (v % m)) : c106 v m k := by
  constructor
  unfold tc106
  refine brE (fun e => by omega) (fun _ => ?_)
  have h1 : Int.tmod v m = if 0 ≤ v % m ∧ 0 ≤ v ∨ v % m = 0 then v % m else v % m - m := by
    rw [Int.tmod_eq_emod]
    have h2 := Int.emod_nonneg v (Int.ne_of_gt hm)
    by_cases hv : 0 ≤ v
    · simp [hv, h2]
    · by_cases hd : m ∣ v
      · simp [hd, Int.emod_eq_zero_of_dvd hd]
      · have : v % m ≠ 0 := fun e => hd (Int.dvd_of_emod_eq_zero e)
        simp [hv, hd, this]
        omega
  have h2 := Int.emod_nonneg v (Int.ne_of_gt hm)
  have h3 := Int.emod_lt_of_pos v hm
  rw [h1]
  refine brP (fun e => ?_) (fun e => ?_)
  · split at e
    · omega
    · rename_i hc
      rw [if_neg hc, wrap64 (by omega) (by omega)]
      rw [show v % m - m + m = v % m by omega]
      exact h
  · split at e
    · rename_i hc
      rw [if_pos hc]; exact h
    · omega

theorem c32_self {l : List Int} {k : Bool → Prop} (hl : l.length ≤ 1000) (h : k true) : c32 l l k := by
  constructor
  unfold tc32
  refine brN (fun e => absurd rfl e) (fun _ => ?_)
  constructor
  intro I hI
  exact upInd (N := l.length) (M := fun i => I l l (l.length : Int) (i : Int)) (hI _ _ _ _ (brDn (by omega) h))
    (fun i hi ih => hI _ _ _ _ (brD (by omega) (needAt hi (needAt hi (brN (fun e => absurd rfl e) (fun _ => by rw [wrapS (by omega)]; exact ih)))))) 0 (Nat.zero_le _)

/-- the number of the function -/
def fnOf (pc : Int) : Int := if pc < 40 then (if pc ≥ 20 then 2 else if pc ≥ 9 then 1 else if pc ≥ 2 then 0 else -1) else -1

theorem l7r21_ok {k1 : Int → Int → Int → Int → Int → LM → List Int → List Int → LP → Int → Int → LV → Prop} {pc a2 a3 a7 a12 a13 : Int} {a8 : LM} {a9 : List Int} {a11 : LP} {a14 : LV}
    (h : k1 pc a2 a3 (fnOf pc) a7 a8 a9 [2, 9, 20] a11 a12 a13 a14) : l7r21 k1 pc a2 a3 (-1) 3 0 a7 a8 a9 [2, 9, 20] a11 a12 a13 a14 := by
  constructor
  intro I hI
  have w1 : IntKind.wrap .i64 (0 + 1) = 1 := by decide
  have w2 : IntKind.wrap .i64 (1 + 1) = 2 := by decide
  have w3 : IntKind.wrap .i64 (2 + 1) = 3 := by decide
  have fin : ∀ f, f = fnOf pc → I pc a2 a3 f 3 3 a7 a8 a9 [2, 9, 20] a11 a12 a13 a14 := fun f e => by
    apply hI; subst e; exact brDn (by omega) h
  have s2 : ∀ f, (if pc < 40 ∧ pc ≥ 20 then 2 else f) = fnOf pc → I pc a2 a3 f 3 2 a7 a8 a9 [2, 9, 20] a11 a12 a13 a14 := fun f e => by
    apply hI
    refine brD (by omega) (brD (by decide) (needS (v := 20) rfl (brP (fun g => brP (fun g' => ?_) fun g' => ?_) fun g => ?_)))
    · rw [w3]; exact fin _ (by rw [if_pos ⟨g', g⟩] at e; exact e)
    · rw [w3]; exact fin _ (by rw [if_neg (by omega)] at e; exact e)
    · rw [w3]; exact fin _ (by rw [if_neg (by omega)] at e; exact e)
  have s1 : ∀ f, (if pc < 40 ∧ pc ≥ 20 then 2 else if pc < 40 ∧ pc ≥ 9 then 1 else f) = fnOf pc → I pc a2 a3 f 3 1 a7 a8 a9 [2, 9, 20] a11 a12 a13 a14 := fun f e => by
    apply hI
    refine brD (by omega) (brD (by decide) (needS (v := 9) rfl (brP (fun g => brP (fun g' => ?_) fun g' => ?_) fun g => ?_)))
    · rw [w2]; exact s2 _ (by rw [← e]; simp only [g, g', and_self, if_true])
    · rw [w2]; exact s2 _ (by rw [← e]; simp only [g', false_and, if_false])
    · rw [w2]; exact s2 _ (by rw [← e]; simp only [g, and_false, if_false])
  apply hI
  refine brD (by omega) (brD (by decide) (needS (v := 2) rfl (brP (fun g => brP (fun g' => ?_) fun g' => ?_) fun g => ?_)))
  all_goals
    rw [w1]
    refine s1 _ ?_
    unfold fnOf
    repeat' split
    all_goals first | rfl | omega

/-- sorted, each number once -/
def Asc (xs : List Int) : Prop := ∀ i j (hi : i < xs.length) (hj : j < xs.length), i < j → xs[i] < xs[j]

theorem c158_ok {a b : Int} {k : Bool → Prop} (h : k (decide (a < b))) : c158 a b k := by
  refine ⟨⟨?_⟩⟩
  unfold tc165
  exact brF (by simp) h

theorem c135_ok {xs : List Int} {x : Int} {k : Int → Bool → Prop} (hl : xs.length ≤ 1000000) (hs : Asc xs)
    (h : ∀ i : Nat, i ≤ xs.length → (∀ j (hj : j < xs.length), j < i → xs[j] < x) → (∀ j (hj : j < xs.length), i ≤ j → x ≤ xs[j]) → k (i : Int) (decide (xs[i]? = some x))) : c135 xs x k := by
  constructor
  constructor
  intro I hI
  have key : ∀ n (lo hi : Nat), hi ≤ lo + n → lo ≤ hi → hi ≤ xs.length → (∀ j (hj : j < xs.length), j < lo → xs[j] < x) → (∀ j (hj : j < xs.length), hi ≤ j → x ≤ xs[j]) → I xs x (xs.length : Int) (lo : Int) (hi : Int) := by
    intro n
    induction n with
    | zero =>
      intro lo hi h1 h2 h3 g1 g2
      have : hi = lo := by omega
      subst this
      apply hI
      refine brDn (by omega) ?_
      have hk := h hi h3 g1 g2
      refine brP (fun hlt => ?_) fun hlt => ?_
      · have hlt : hi < xs.length := by omega
        refine needAt hlt (brE (fun e => ?_) fun e => ?_)
        · rw [decide_eq_true (by rw [List.getElem?_eq_getElem hlt, e])] at hk; exact hk
        · rw [decide_eq_false (by rw [List.getElem?_eq_getElem hlt]; simpa using e)] at hk
          exact needAt hlt ⟨brF (by simp) hk⟩
      · rw [decide_eq_false (by rw [List.getElem?_eq_none (by omega)]; simp)] at hk; exact hk
    | succ n ih =>
      intro lo hi h1 h2 h3 g1 g2
      by_cases hlh : lo = hi
      · exact ih lo hi (by omega) h2 h3 g1 g2
      · apply hI
        refine brD (by omega) ?_
        rw [midI (by omega)]
        have hm : (lo + hi) / 2 < xs.length := by omega
        refine needAt hm (c158_ok (brP (fun hlt => ?_) fun hlt => ?_))
        · rw [wrapS (by omega)]
          refine ih _ _ (by omega) (by omega) h3 (fun j hj hjl => ?_) g2
          by_cases hjm : j = (lo + hi) / 2
          · subst hjm; exact hlt
          · have := hs j ((lo + hi) / 2) hj hm (by omega); omega
        · refine ih _ _ (by omega) (by omega) (by omega) g1 (fun j hj hjl => ?_)
          by_cases hjm : j = (lo + hi) / 2
          · subst hjm; omega
          · have := hs ((lo + hi) / 2) j hm hj (by omega); omega
  exact key xs.length 0 xs.length (by omega) (by omega) (by omega) (fun j _ h => by omega) (fun j hj h => by omega)

theorem c110_ok {im : IM} {pc : Int} {k : Int → Prop} (hl : im.2.2.1.length ≤ 1000) (hs : Asc im.2.2.1) (h1 : pc < 0 ∨ pc ≥ im.1.length → k (-1))
    (h2 : 0 ≤ pc → pc < im.1.length → ∀ i : Nat, i ≤ im.2.2.1.length → (∀ j (hj : j < im.2.2.1.length), j < i → im.2.2.1[j] ≤ pc) → (∀ j (hj : j < im.2.2.1.length), i ≤ j → pc < im.2.2.1[j]) → k ((i : Int) - 1)) : c110 im pc k := by
  constructor
  unfold tc110
  refine brP (fun g => h1 (.inl g)) fun g => brP (fun g' => h1 (.inr g')) fun g' => c135_ok (by omega) hs fun i hi g1 g2 => ?_
  have h2 := h2 (by omega) (by omega)
  refine brP (fun e => ?_) fun e => ?_
  · have hil : i < im.2.2.1.length := by
      rcases Nat.lt_or_ge i im.2.2.1.length with h | h
      · exact h
      · rw [List.getElem?_eq_none h] at e; cases e
    rw [List.getElem?_eq_getElem hil, Option.some.injEq] at e
    have := h2 (i + 1) (by omega) (fun j hj hji => by
      by_cases hj2 : j = i
      · subst hj2; omega
      · have := g1 j hj (by omega); omega) (fun j hj hji => by
      have := hs i j hil hj (by omega); omega)
    rw [show ((i + 1 : Nat) : Int) - 1 = i by omega] at this
    exact this
  · rw [wrap64 (by omega) (by omega)]
    refine h2 i hi (fun j hj hji => Int.le_of_lt (g1 j hj hji)) fun j hj hji => ?_
    have a := g2 j hj hji
    by_cases hj2 : j = i
    · subst hj2
      rw [List.getElem?_eq_getElem hj, Option.some.injEq] at e
      omega
    · have a2 := g2 i (by omega) (Nat.le_refl _)
      have := hs i j (by omega) hj (by omega); omega

theorem c110_fn {a1 : List Int} {a2 : Int} {a4 : LP} {a5 : LM} {pc : Int} {k : Int → Prop} (ha : a1.length = 40) (h : k (fnOf pc)) : c110 (a1, a2, [2, 9, 20], a4, a5, ()) pc k := by
  refine c110_ok (by simp) (fun i j hi hj hij => ?_) (fun g => ?_) fun g1 g2 i hi e1 e2 => ?_
  · simp at hi hj
    rcases (by omega : i = 0 ∨ i = 1) with rfl | rfl <;> rcases (by omega : j = 1 ∨ j = 2) with rfl | rfl <;> simp at hij ⊢
  · simp only [ha] at g
    have : fnOf pc = -1 := by unfold fnOf; repeat' split
                              all_goals first | rfl | omega
    rw [this] at h; exact h
  · simp only [ha] at g2
    simp only [List.length_cons, List.length_nil] at hi e1 e2
    have b0 := fun h => e1 0 (by omega) h
    have b1 := fun h => e1 1 (by omega) h
    have b2 := fun h => e1 2 (by omega) h
    have d0 := fun h => e2 0 (by omega) h
    have d1 := fun h => e2 1 (by omega) h
    have d2 := fun h => e2 2 (by omega) h
    simp only [List.getElem_cons_zero, List.getElem_cons_succ] at b0 b1 b2 d0 d1 d2
    have : fnOf pc = (i : Int) - 1 := by
      unfold fnOf
      rcases (by omega : i = 0 ∨ i = 1 ∨ i = 2 ∨ i = 3) with rfl | rfl | rfl | rfl
      all_goals
        simp at b0 b1 b2 d0 d1 d2
        repeat' split
        all_goals first | rfl | omega
    rw [this] at h; exact h

theorem c111_ok {v : LV} {k : LV → Prop} (hv : v.length * 32 ≤ 140737488351232) (h : k v) : c111 v k := by
  constructor
  unfold tc111
  have fin : br (List.isEmpty v) (k []) (br (roomB (0 + v.length) 32) (k ([] ++ v)) False) := by
    refine brB (fun e => ?_) fun e => brT (roomS (by omega)) (by simpa using h)
    have := List.isEmpty_iff.1 e
    subst this; exact h
  refine brB (fun e => ⟨?_, fin⟩) fun e => fin
  have := List.isEmpty_iff.1 e
  subst this; exact h

/-- the line of a place -/
def fl (pc st fn : Int) (ms : LM) (l : Int) : Int := ms.foldl (fun l m => if m.1 ≤ pc ∧ m.1 ≥ st ∧ m.2.1 = fn then m.2.2.1 else l) l

theorem l38_ok {k1 : Int → Int → LV → Int → Int → LV → Prop} {pc a7 a8 : Int} {fn : Nat} {ms : LM} {im : IM} {a9 v : LV} (hl : ms.length ≤ 1000) (hf : fn < im.2.2.1.length) (hv : ∀ m ∈ ms, m.2.2.2.1.length * 32 ≤ 140737488351232)
    (h : ∀ w, k1 a7 a8 a9 (fn : Int) (fl pc im.2.2.1[fn] fn ms 0) w) : l38r9 k1 pc (fn : Int) ms (ms.length : Int) 0 im a7 a8 a9 (fn : Int) 0 v := by
  constructor
  intro I hI
  refine upInd (N := ms.length) (M := fun i => ∀ l w, (∀ w, k1 a7 a8 a9 (fn : Int) (fl pc im.2.2.1[fn] fn (ms.drop i) l) w) → I pc (fn : Int) ms (ms.length : Int) (i : Int) im a7 a8 a9 (fn : Int) l w) ?_ ?_ 0 (Nat.zero_le _) 0 v (by simpa using h)
  · intro l w g
    apply hI
    refine brDn (by omega) ?_
    simpa [fl] using g w
  · intro i hi ih l w g
    apply hI
    refine brD (by omega) (needAt hi ?_)
    rw [wrapS (by omega)]
    rw [drop_cons hi] at g
    simp only [fl, List.foldl_cons] at g
    have skip : ¬(ms[i].1 ≤ pc ∧ ms[i].1 ≥ im.2.2.1[fn] ∧ ms[i].2.1 = fn) → I pc (fn : Int) ms (ms.length : Int) ((i + 1 : Nat) : Int) im a7 a8 a9 (fn : Int) l w := fun hc => by
      rw [if_neg hc] at g; exact ih l w g
    refine brP (fun h1 => needAt hf (brP (fun h2 => brE (fun h3 => ?_) fun h3 => skip fun hc => h3 hc.2.2) fun h2 => skip fun hc => h2 hc.2.1)) fun h1 => skip fun hc => h1 hc.1
    rw [if_pos ⟨h1, h2, h3⟩] at g
    exact c111_ok (hv _ (List.getElem_mem hi)) (brT (eqT_self _ _) (ih _ _ g))

theorem c38_ok {im : IM} {pc : Int} {k : Int → Int → Int → LV → Prop} (hl : im.2.2.2.2.1.length ≤ 1000) (hv : ∀ m ∈ im.2.2.2.2.1, m.2.2.2.1.length * 32 ≤ 140737488351232) {fn : Int} (hfn : ∀ kk : Int → Prop, kk fn → c110 im pc kk)
    (h1 : chk im.1.length im.2.2.1.length (-1) im.2.2.2.2.1 ≠ 0 → k 0 0 (chk im.1.length im.2.2.1.length (-1) im.2.2.2.2.1) [])
    (h2 : chk im.1.length im.2.2.1.length (-1) im.2.2.2.2.1 = 0 → fn < 0 → k 0 0 12 [])
    (h3 : chk im.1.length im.2.2.1.length (-1) im.2.2.2.2.1 = 0 → ∀ f : Nat, fn = f → ∃ hf : f < im.2.2.1.length, ∀ w, k (f : Int) (fl pc im.2.2.1[f] f im.2.2.2.2.1 0) 0 w) : c38 im pc k := by
  constructor
  unfold tc38
  refine c39_ok (by omega) (brN (fun e => h1 e) fun e => hfn _ (brP (fun g => h2 e g) fun g => ?_))
  obtain ⟨f, rfl⟩ := Int.eq_ofNat_of_zero_le (by omega : 0 ≤ fn)
  obtain ⟨hf, hk⟩ := h3 e f rfl
  exact l38_ok hl hf hv hk

/-- the addresses of a line -/
def wh (fn line : Int) : Int → LM → List Int
  | _, [] => []
  | last, m :: r => if m.2.1 = fn then (if m.2.2.1 ≠ last ∧ m.2.2.1 = line then m.1 :: wh fn line m.2.2.1 r else wh fn line m.2.2.1 r) else wh fn line last r
theorem wh_len {fn line : Int} : ∀ (ms : LM) (last : Int), (wh fn line last ms).length ≤ ms.length
  | [], _ => Nat.le_refl _
  | m :: r, last => by
    simp only [wh]
    have a := wh_len (fn := fn) (line := line) r m.2.2.1
    have b := wh_len (fn := fn) (line := line) r last
    repeat' split
    all_goals simp only [List.length_cons]; omega

theorem l41_ok {k1 : List Int → Prop} {fn line : Int} {ms : LM} (hl : ms.length ≤ 1000) (h : k1 (wh fn line 0 ms)) : l41r9 k1 fn line 0 ms (ms.length : Int) 0 [] := by
  constructor
  intro I hI
  refine upInd (N := ms.length) (M := fun i => ∀ last (l : List Int), l.length ≤ i → k1 (l ++ wh fn line last (ms.drop i)) → I fn line last ms (ms.length : Int) (i : Int) l) ?_ ?_ 0 (Nat.zero_le _) 0 [] (Nat.le_refl _) (by simpa using h)
  · intro last l _ g
    apply hI
    refine brDn (by omega) ?_
    simpa [wh] using g
  · intro i hi ih last l hll g
    apply hI
    refine brD (by omega) (needAt hi ?_)
    rw [wrapS (by omega)]
    rw [drop_cons hi] at g
    simp only [wh] at g
    refine brN (fun h1 => ?_) fun h1 => brN (fun h2 => brE (fun h3 => ?_) fun h3 => ?_) fun h2 => ?_
    · rw [if_neg h1] at g; exact ih _ _ (by omega) g
    · rw [if_pos h1, if_pos ⟨h2, h3⟩] at g
      exact brT (roomS (by omega)) (ih _ _ (by simp; omega) (by simpa using g))
    · rw [if_pos h1, if_neg (fun hc => h3 hc.2)] at g; exact ih _ _ (by omega) g
    · rw [if_pos h1, if_neg (fun hc => hc.1 h2)] at g; exact ih _ _ (by omega) g

theorem c41_ok {im : IM} {line : Int} {k : Int → List Int → Prop} (hl : im.2.2.2.2.1.length ≤ 1000) (hs : im.2.2.1.length = 3)
    (h1 : chk im.1.length im.2.2.1.length (-1) im.2.2.2.2.1 ≠ 0 → k (chk im.1.length im.2.2.1.length (-1) im.2.2.2.2.1) [])
    (h2 : chk im.1.length im.2.2.1.length (-1) im.2.2.2.2.1 = 0 → k 0 (wh 1 line 0 im.2.2.2.2.1)) : c41 im 1 line k := by
  constructor
  unfold tc41
  refine c39_ok (by omega) (brN (fun e => h1 e) fun e => brDn (by omega) (brDn (by rw [hs]; omega) (l41_ok hl (h2 e))))

theorem j7r39_ok {k1 : Int → Int → Int → Int → Int → Int → Int → LM → Int → Int → Int → LM → List Int → List Int → LP → Int → Int → LV → List Int → List Int → Prop} {pc a2 a3 fn a5 a6 a7 : Int} {a8 : LM} {a9 a10 a11 : Int} {a12 : LM} {a13 st : List Int} {a15 : LP} {a16 a17 : Int} {a18 : LV} {a19 a20 : List Int} {m : MK}
    (hf : fn < (st.length : Int)) (h : k1 pc a2 a3 fn a5 a6 (if 0 ≤ fn ∧ m.1 ≤ pc ∧ m.1 ≥ (st[fn.toNat]?).getD 0 ∧ m.2.1 = fn then m.2.2.1 else a7) a8 a9 a10 a11 a12 a13 st a15 a16 a17 a18 a19 a20) :
    j7r39 k1 pc a2 a3 fn a5 a6 a7 a8 a9 a10 a11 a12 a13 st a15 a16 a17 a18 a19 a20 m := by
  constructor
  unfold tj7r39
  refine brE (fun e1 => brP (fun e2 => brD (by omega) ?_) fun e2 => ?_) fun e1 => ?_
  · have hlt : fn.toNat < st.length := by omega
    rw [List.getElem?_eq_getElem hlt] at h ⊢
    rw [need_some]
    refine brP (fun e3 => brP (fun e4 => ?_) fun e4 => ?_) fun e3 => ?_
    · rw [if_pos ⟨e2, e4, e3, e1⟩] at h; exact h
    · rw [if_neg (fun hc => e4 hc.2.1)] at h; exact h
    · rw [if_neg (fun hc => e3 hc.2.2.1)] at h; exact h
  · rw [if_neg (fun hc => e2 hc.1)] at h; exact h
  · rw [if_neg (fun hc => e1 hc.2.2.2)] at h; exact h

/-- what the reference finds -/
def fr (pc fn st : Int) (ms : LM) (l : Int) : Int := ms.foldl (fun l m => if 0 ≤ fn ∧ m.1 ≤ pc ∧ m.1 ≥ st ∧ m.2.1 = fn then m.2.2.1 else l) l

theorem l7r33_ok {k1 : Int → Int → Int → Int → Int → Int → LV → List Int → List Int → Prop} {pc line a3 fn a5 : Int} {ms : LM} {a11 : Int} {a12 : LM} {a13 st : List Int} {a15 : LP} {a16 a17 : Int} {a18 : LV} {a19 : List Int} (hl : ms.length ≤ 1000) (hf : fn < (st.length : Int))
    (h : k1 a3 fn a5 (fr pc fn ((st[fn.toNat]?).getD 0) ms 0) a16 a17 a18 a19 (wh 1 line 0 ms)) : l7r33 k1 pc line a3 fn a5 0 0 ms (ms.length : Int) 0 a11 a12 a13 st a15 a16 a17 a18 a19 [] := by
  constructor
  intro I hI
  refine upInd (N := ms.length) (M := fun i => ∀ was now (l : List Int), l.length ≤ i → k1 a3 fn a5 (fr pc fn ((st[fn.toNat]?).getD 0) (ms.drop i) now) a16 a17 a18 a19 (l ++ wh 1 line was (ms.drop i)) → I pc line a3 fn a5 was now ms (ms.length : Int) (i : Int) a11 a12 a13 st a15 a16 a17 a18 a19 l) ?_ ?_ 0 (Nat.zero_le _) 0 0 [] (Nat.le_refl _) (by simpa using h)
  · intro was now l _ g
    apply hI
    refine brDn (by omega) ?_
    simpa [wh, fr] using g
  · intro i hi ih was now l hll g
    apply hI
    refine brD (by omega) (needAt hi ?_)
    have hw : IntKind.wrap .i64 ((i : Int) + 1) = ((i + 1 : Nat) : Int) := wrapS (by omega)
    rw [drop_cons hi] at g
    simp only [fr, List.foldl_cons] at g
    have fin : ∀ (w' : Int) (l' : List Int), l'.length ≤ i + 1 → l ++ wh 1 line was (ms[i] :: ms.drop (i + 1)) = l' ++ wh 1 line w' (ms.drop (i + 1)) →
        I pc line a3 fn a5 w' (if 0 ≤ fn ∧ ms[i].1 ≤ pc ∧ ms[i].1 ≥ (st[fn.toNat]?).getD 0 ∧ ms[i].2.1 = fn then ms[i].2.2.1 else now) ms (ms.length : Int) (IntKind.wrap .i64 ((i : Int) + 1)) a11 a12 a13 st a15 a16 a17 a18 a19 l' := fun w' l' hl' e => by
      rw [e] at g
      rw [hw]
      exact ih _ _ _ hl' g
    refine brE (fun h1 => brE (fun h2 => brN (fun h3 => brT (roomS (by omega)) (j7r39_ok hf (fin _ _ (by simp; omega) ?_))) fun h3 => j7r39_ok hf (fin _ _ (by omega) ?_)) fun h2 => j7r39_ok hf (fin _ _ (by omega) ?_)) fun h1 => j7r39_ok hf (fin _ _ (by omega) ?_)
    · simp only [wh]; rw [if_pos h1, if_pos ⟨by omega, h2⟩]; simp
    · simp only [wh]; rw [if_pos h1, if_neg (by omega)]
    · simp only [wh]; rw [if_pos h1, if_neg (by omega)]
    · simp only [wh]; rw [if_neg h1]

theorem fr_fl {pc fn st : Int} (hf : 0 ≤ fn) (ms : LM) (l : Int) : fr pc fn st ms l = fl pc st fn ms l := by
  unfold fr fl
  congr 1
  funext l m
  simp [hf]

theorem fnOf_lt {pc : Int} : fnOf pc < 3 := by
  unfold fnOf
  repeat' split
  all_goals omega

abbrev mkT : Ty := .pair (.int .i64) (.pair (.int .i64) (.pair (.int .i64) (.pair (.sl (.pair .str (.pair (.int .i64) (.pair (.int .i64) .unit)))) .unit)))

theorem law7 {x1 : LM} {x2 x3 : Int} {k : Bool → Prop} (g1 : Go.Abs.Good (.sl mkT) x1 ∧ Go.Abs.Sz (.sl mkT) x1) (_ : Go.Abs.Good (.int .i64) x2 ∧ Go.Abs.Sz (.int .i64) x2) (_ : Go.Abs.Good (.int .i64) x3 ∧ Go.Abs.Sz (.int .i64) x3) (h : k true) : c7 x1 x2 x3 k := by
  constructor
  unfold tc7
  have hvars : ∀ m ∈ x1, m.2.2.2.1.length * 32 ≤ 140737488351232 := fun m hm => (g1.2.2 m hm).2.2.2.1.1
  refine c38_ok (fn := 0) (by simp) (by simp) (fun kk hk => c110_ok (by simp) (fun i j hi hj hij => by simp at hi hj; omega) (fun g => by simp at g) fun a b i hi e1 e2 => ?_) (fun e => absurd rfl e) (fun _ e => by omega) (fun _ f hf => ?_)
  · simp only [List.length_cons, List.length_nil] at hi e1 e2
    have b0 := e2 0 (by omega)
    have : i = 1 := by
      rcases (by omega : i = 0 ∨ i = 1) with rfl | rfl
      · simp at b0
      · rfl
    subst this; exact hk
  · obtain rfl : f = 0 := by omega
    refine ⟨by simp, fun w => brF rfl (brF rfl (brF rfl ?_))⟩
    have hmin : minI ((x1.length : Nat) : Int) 20 = ((min x1.length 20 : Nat) : Int) := by unfold minI; split <;> omega
    rw [hmin, Int.toNat_natCast, List.drop_zero]
    refine brD (by omega) ?_
    generalize hms : x1.take (min x1.length 20) = ms
    have hml : ms.length ≤ 20 := by rw [← hms, List.length_take]; omega
    have hmv : ∀ m ∈ ms, m.2.2.2.1.length * 32 ≤ 140737488351232 := fun m hm => hvars m (List.mem_of_mem_take (hms ▸ hm))
    refine l7r8_ok hml (c39_ok (by dsimp only; omega) (brF ?_ ?_))
    · show (chk ((List.replicate 40 (0 : Int)).length : Int) (([2, 9, 20] : List Int).length : Int) (-1) ms != chk 40 3 (-1) ms) = false
      simp
    refine ⟨c106_ok (by decide) (by decide) ?_⟩
    have hm45 := Int.emod_nonneg x2 (by decide : (45 : Int) ≠ 0)
    have hm45' := Int.emod_lt_of_pos x2 (by decide : (0 : Int) < 45)
    show l7r21 _ (IntKind.wrap .i64 (x2 % 45 - 2)) _ _ _ _ _ _ _ _ _ _ _ _ _
    rw [wrap64 (by omega) (by omega)]
    generalize x2 % 45 - 2 = pc
    refine l7r21_ok ?_
    have hN : ((List.replicate 40 (0 : Int)).length : Int) = 40 := by simp
    have hS : (([2, 9, 20] : List Int).length : Int) = 3 := rfl
    have h41 : ∀ kk : Int → List Int → Prop, (chk 40 3 (-1) ms ≠ 0 → kk (chk 40 3 (-1) ms) []) → (chk 40 3 (-1) ms = 0 → kk 0 (wh 1 x3 0 ms)) → c41 (List.replicate 40 (0 : Int), 0, [2, 9, 20], [], ms, ()) 1 x3 kk := fun kk p1 p2 =>
      c41_ok (by dsimp only; omega) rfl (by rw [hN, hS]; exact p1) (by rw [hN, hS]; exact p2)
    refine c38_ok (by dsimp only; omega) hmv (fun kk hk => c110_fn (by simp) hk) (fun e => ?_) (fun e hf => ?_) (fun e f hf => ?_)
    · rw [hN, hS] at e ⊢
      refine h41 _ (fun e' => ?_) fun e' => absurd e' e
      exact brT (by simpa using e) (brT (by simp) (brT (by simp) (by simpa using h)))
    · rw [hN, hS] at e
      refine h41 _ (fun e' => absurd e e') fun _ => ?_
      refine brF (by rw [e]; rfl) (l7r33_ok (by omega) fnOf_lt (brF rfl (c32_self (Nat.le_trans (wh_len _ _) (by omega)) (brF rfl (brD hf ?_)))))
      exact h
    · rw [hN, hS] at e
      have hlt := fnOf_lt (pc := pc)
      have hf3 : f < 3 := by omega
      refine ⟨by simpa using hf3, fun w => ?_⟩
      refine h41 _ (fun e' => absurd e e') fun _ => ?_
      refine brF (by rw [e]; rfl) (l7r33_ok (by omega) fnOf_lt (brF rfl (c32_self (Nat.le_trans (wh_len _ _) (by omega)) (brF rfl (brDn (by omega) (brT rfl (brT (by rw [hf]; simp) ?_)))))))
      rw [hf, fr_fl (by omega), Int.toNat_natCast, List.getElem?_eq_getElem (by simpa using hf3)]
      simpa using h
end Go.Proofs.Ytfdoaacapkopmaa
