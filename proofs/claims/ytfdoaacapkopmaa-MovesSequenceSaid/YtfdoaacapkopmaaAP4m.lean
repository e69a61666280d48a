/- The law of 'MovesSequence', in plain Lean: the code of Sequence. -/
import Derived.Test.YtfdoaacapkopmaaAD4
import Derived.Test.YtfdoaacapkopmaaAPKit2
import Derived.Test.YtfdoaacapkopmaaARow1
set_option linter.unusedVariables false
set_option linter.unusedSimpArgs false
namespace Go.Proofs.Ytfdoaacapkopmaa
open Go.Abs

theorem hml : maxLen = 9223372036854775807 := rfl
theorem allInd {N : Nat} {p : Nat → Prop} {M : Nat → Prop} (hN : (∀ i, i < N → p i) → M N)
    (hs : ∀ i, i < N → (∀ j, j < i → p j) → (p i → M (i + 1)) → M i) : M 0 := by
  have key := upInd (N := N) (M := fun i => (∀ j, j < i → p j) → M i) hN (fun i hi ih hp =>
    hs i hi hp (fun h => ih fun j hj => by
      by_cases e : j = i
      · subst e; exact h
      · exact hp j (by omega)))
  exact key 0 (Nat.zero_le _) fun j hj => absurd hj (by omega)

def mix {α : Type} (a b : List α) (i : Nat) : List α := a.take i ++ b.drop i
theorem mix_len {α : Type} {a b : List α} (h : a.length = b.length) {i : Nat} (hi : i ≤ a.length) : (mix a b i).length = b.length := by
  simp [mix]; omega
theorem mix_get {α : Type} {a b : List α} (h : a.length = b.length) {i : Nat} (hi : i < b.length) : (mix a b i)[i]? = b[i]? := by
  unfold mix
  rw [List.getElem?_append_right (by simp; omega)]
  simp [List.getElem?_drop, Nat.min_eq_left (by omega : i ≤ a.length)]
theorem mix_set {α : Type} {a b : List α} (h : a.length = b.length) {i : Nat} (hi : i < a.length) : (mix a b i).set i a[i] = mix a b (i + 1) := by
  unfold mix
  have hl : (a.take i).length = i := by simp; omega
  rw [List.set_append_right _ _ (by omega), hl, Nat.sub_self, drop_cons (by omega), List.set_cons_zero, List.take_succ_eq_append_getElem hi, List.append_assoc]
  rfl
theorem mix_same {α : Type} {a b : List α} (h : a.length = b.length) {i : Nat} (hi : i < a.length) (e : a[i] = b[i]'(by omega)) : mix a b i = mix a b (i + 1) := by
  rw [← mix_set h hi]
  have h1 := mix_get h (i := i) (by omega)
  have hml := mix_len h (i := i) (by omega)
  rw [List.getElem?_eq_getElem (by omega), List.getElem?_eq_getElem (by omega)] at h1
  have h1 := Option.some.inj h1
  rw [e, ← h1, List.set_getElem_self]
theorem mix_zero {α : Type} {a b : List α} : mix a b 0 = b := by simp [mix]
theorem mix_all {α : Type} {a b : List α} (h : a.length = b.length) : mix a b a.length = a := by
  unfold mix
  rw [List.take_length, List.drop_eq_nil_of_le (by omega), List.append_nil]

abbrev LL := List (List Int)
def dd (x : List Int) : Int := x[0]?.getD 0
def ss (x : List Int) : Int := x[1]?.getD 0
def Prs (T : LL) : Prop := ∀ y ∈ T, y.length = 2
theorem need0 {x : List Int} {K : Int → Prop} (h : x.length = 2) (hk : K (dd x)) : need False x[0]? K := by
  match x, h with
  | [a, b], _ => exact hk
theorem need1 {x : List Int} {K : Int → Prop} (h : x.length = 2) (hk : K (ss x)) : need False x[1]? K := by
  match x, h with
  | [a, b], _ => exact hk
theorem pair_eq {x : List Int} (h : x.length = 2) : x = [dd x, ss x] := by
  match x, h with
  | [a, b], _ => rfl

theorem c92_ok {l : LL} {x : List Int} {k : Bool → List Int → Prop} (hl : l.length ≤ maxLen) (hp : Prs l) (hx : x.length = 2) (h1 : (∃ i, ∃ h : i < l.length, dd l[i] = dd x) → k true x) (h2 : (∀ y ∈ l, dd y ≠ dd x) → k false x) : c92 l x k := by
  have hm := hml
  constructor
  constructor
  constructor
  intro I hI
  refine allInd (N := l.length) (p := fun i => ∀ h : i < l.length, dd l[i] ≠ dd x) (M := fun i => I l (l.length : Int) (i : Int) x) (fun h => hI _ _ _ _ (brDn (by omega) (h2 fun y hy => ?_))) fun i hi hlt ih => hI _ _ _ _ ?_
  · obtain ⟨i, hi, rfl⟩ := List.mem_iff_getElem.1 hy
    exact h i hi hi
  · rw [wrapS (by omega)]
    refine brD (by omega) (needAt hi ⟨need0 (hp _ (List.getElem_mem hi)) (need0 hx (brE (fun e => ?_) fun e => ih fun _ => e))⟩)
    have := h1 ⟨i, hi, e⟩
    show k (decide ((i : Int) ≥ 0)) x
    rw [decide_eq_true (by omega)]; exact this
theorem c92v2_ok {l : LL} {x : List Int} {k : Bool → List Int → Prop} (hl : l.length ≤ maxLen) (hp : Prs l) (hx : x.length = 2) (h1 : (∃ y ∈ l, ss y = dd x) → k true x) (h2 : (∀ y ∈ l, ss y ≠ dd x) → k false x) : c92v2 l x k := by
  have hm := hml
  constructor
  constructor
  constructor
  intro I hI
  refine allInd (N := l.length) (p := fun i => ∀ h : i < l.length, ss l[i] ≠ dd x) (M := fun i => I l (l.length : Int) (i : Int) x) (fun h => hI _ _ _ _ (brDn (by omega) (h2 fun y hy => ?_))) fun i hi hlt ih => hI _ _ _ _ ?_
  · obtain ⟨i, hi, rfl⟩ := List.mem_iff_getElem.1 hy
    exact h i hi hi
  · rw [wrapS (by omega)]
    refine brD (by omega) (needAt hi ⟨need1 (hp _ (List.getElem_mem hi)) (need0 hx (brE (fun e => ?_) fun e => ih fun _ => e))⟩)
    have := h1 ⟨_, List.getElem_mem hi, e⟩
    show k (decide ((i : Int) ≥ 0)) x
    rw [decide_eq_true (by omega)]; exact this

/-- the error of the list's place i -/
def chk (l : LL) (sp : Int) (i : Nat) : Int :=
  let x := l[i]?.getD []
  if dd x < 0 ∨ ss x < 0 then 4 else if ∃ j, j < i ∧ dd (l[j]?.getD []) = dd x then 7 else if dd x = sp ∨ ss x = sp then 1 else 0
open Classical in
theorem chk_eq {l : LL} {sp : Int} {i : Nat} (h : i < l.length) : chk l sp i = if dd l[i] < 0 ∨ ss l[i] < 0 then 4 else if ∃ j, j < i ∧ dd (l[j]?.getD []) = dd l[i] then 7 else if dd l[i] = sp ∨ ss l[i] = sp then 1 else 0 := by
  simp only [chk, List.getElem?_eq_getElem h, Option.getD_some]
end Go.Proofs.Ytfdoaacapkopmaa

/- The law of 'MovesSequence', in plain Lean: the code of Sequence, its loops. -/
set_option linter.unusedVariables false
set_option linter.unusedSimpArgs false
namespace Go.Proofs.Ytfdoaacapkopmaa
open Go.Abs

theorem l20r2_ok {l : LL} {sp : Int} {k1 : Int → LL → Prop} {k2 : LL → Int → Prop} (hl : l.length ≤ 1000) (hp : Prs l)
    (h1 : ∀ i, i < l.length → (∀ j, j < i → chk l sp j = 0) → chk l sp i ≠ 0 → k1 (chk l sp i) []) (h2 : (∀ i, i < l.length → chk l sp i = 0) → k2 l sp) : l20r2 k1 k2 l sp l (l.length : Int) 0 := by
  have hm := hml
  constructor
  intro I hI
  refine allInd (N := l.length) (p := fun i => chk l sp i = 0) (M := fun i => I l sp l (l.length : Int) (i : Int)) (fun h => hI _ _ _ _ _ (brDn (by omega) (h2 h))) fun i hi hlt ih => hI _ _ _ _ _ ?_
  have hx := hp _ (List.getElem_mem hi)
  have hc := chk_eq (sp := sp) hi
  have hk : ∀ c : Int, chk l sp i = c → c ≠ 0 → k1 c [] := fun c e e2 => e ▸ h1 i hi hlt (by rw [e]; exact e2)
  rw [wrapS (by omega), Int.toNat_natCast, List.drop_zero]
  refine brD (by omega) (needAt hi (need0 hx (brP (fun e => hk 4 (by rw [hc, if_pos (.inl e)]) (by decide)) fun e1 => need1 hx (brP (fun e => hk 4 (by rw [hc, if_pos (.inr e)]) (by decide)) fun e2 => brD (by omega) ?_))))
  have e0 : ¬ (dd l[i] < 0 ∨ ss l[i] < 0) := by omega
  rw [if_neg e0] at hc
  refine c92_ok (by simp; omega) (fun y hy => hp y (List.mem_of_mem_take hy)) hx (fun ⟨j, hj, e⟩ => ?_) fun hno => ?_
  · have hj2 : j < i := by simp at hj; omega
    have hex : ∃ j, j < i ∧ dd (l[j]?.getD []) = dd l[i] := ⟨j, hj2, by rw [List.getElem_take] at e; rw [List.getElem?_eq_getElem (by omega)]; exact e⟩
    exact brT rfl (hk 7 (by rw [hc, if_pos hex]) (by decide))
  · have hex : ¬ ∃ j, j < i ∧ dd (l[j]?.getD []) = dd l[i] := fun ⟨j, hj, e⟩ => hno (l[j]'(by omega)) (List.mem_take_iff_getElem.2 ⟨j, by omega, rfl⟩) (by rw [List.getElem?_eq_getElem (by omega)] at e; exact e)
    rw [if_neg hex] at hc
    refine brF rfl (need0 hx (brE (fun e => hk 1 (by rw [hc, if_pos (.inl e)]) (by decide)) fun e3 => need1 hx (brE (fun e => hk 1 (by rw [hc, if_pos (.inr e)]) (by decide)) fun e4 => ih ?_)))
    rw [hc, if_neg (by omega)]

theorem c95_ok {l : LL} {k : LL → Prop} (hl : l.length ≤ 1000) (h : k l) : c95 l k := by
  have hr : roomB (0 + l.length) 16 = true := roomS (by omega)
  have h2 : br (List.isEmpty l) (k []) (br (roomB (0 + l.length) 16) (k ([] ++ l)) False) := by
    refine brB (fun e => ?_) fun e => brT hr h
    have : l = [] := List.isEmpty_iff.1 e
    rw [this] at h; exact h
  constructor
  refine brB (fun e => ⟨?_, h2⟩) fun e => h2
  have : l = [] := List.isEmpty_iff.1 e
  rw [this] at h; exact h

/-- a part of a row, its list -/
def Sl (T : LL) (len cap : Nat) (row : LL) : Prop := cap = row.length ∧ T.length = len ∧ len ≤ cap ∧ row.take len = T

def self (x : List Int) : Bool := dd x == ss x
def keep (l : LL) : LL := l.filter fun x => !self x
theorem c96_ok {x : List Int} {k : Bool → Prop} (hx : x.length = 2) (h : k (self x)) : c96 x k := ⟨need0 hx (need1 hx h)⟩

theorem l94r5_ok {l : LL} {i : Nat} {k : Int → LL → Prop} (hl : l.length ≤ 1000) (hp : Prs l) (hi : i < l.length) (h0 : l.take i = keep (l.take (i + 1)))
    (h : ∀ (m : Nat) (row : LL), row.length = l.length → m ≤ l.length → m = (keep l).length → row.take m = keep l → k (m : Int) row) : l94r5 k (i : Int) ((i + 1 : Nat) : Int) l := by
  constructor
  intro I hI
  have key := upInd (N := l.length) (M := fun j => ∀ (m : Nat) (row : LL), row.length = l.length → m ≤ j → m = (keep (l.take j)).length → row.take m = keep (l.take j) → row.drop j = l.drop j → I (m : Int) (j : Int) row)
    (by
      intro m row h1 h2 h3 h4 h5
      apply hI
      rw [List.take_length] at h3 h4
      exact brDn (by omega) (h m row h1 h2 h3 h4))
    (by
      intro j hj ih m row h1 h2 h3 h4 h5
      apply hI
      have hg : row[j]'(by omega) = l[j] := by
        have e1 := drop_cons (l := row) (i := j) (by omega)
        have e2 := drop_cons (l := l) (i := j) hj
        rw [e1, e2] at h5
        exact (List.cons.inj h5).1
      have hd : row.drop (j + 1) = l.drop (j + 1) := by
        have e1 := drop_cons (l := row) (i := j) (by omega)
        have e2 := drop_cons (l := l) (i := j) hj
        rw [e1, e2] at h5
        exact (List.cons.inj h5).2
      have hk : keep (l.take (j + 1)) = keep (l.take j) ++ (if self l[j] then [] else [l[j]]) := by
        unfold keep
        rw [List.take_succ_eq_append_getElem hj, List.filter_append]
        cases hs : self l[j] <;> simp [hs]
      rw [wrapS (by omega), wrapS (by omega), Int.toNat_natCast, Int.toNat_natCast]
      refine brD (by omega) (brD (by omega) (needNth (by omega) ?_))
      rw [hg]
      refine c96_ok (hp _ (List.getElem_mem hj)) (brB (fun e => ?_) fun e => ?_)
      · have e : self l[j] = false := by simpa using e
        rw [e] at hk
        refine brD (by omega) (needNth (by omega) (ih (m + 1) _ (by simp [h1]) (by omega) (by rw [hk]; simp; exact h3) ?_ ?_))
        · rw [hk, ← h4, List.take_add_one, List.getElem?_set_self (by omega), List.take_set_of_le (by omega)]
          simp
        · rw [List.drop_set_of_lt (by omega)]; exact hd
      · have e : self l[j] = true := by simpa using e
        rw [e] at hk
        have hk : keep (l.take (j + 1)) = keep (l.take j) := by rw [hk]; simp
        exact ih m row h1 (by omega) (by rw [hk]; exact h3) (by rw [hk]; exact h4) hd)
    (i + 1) hi
  refine key i l rfl (by omega) ?_ h0 rfl
  rw [← h0]; simp; omega

theorem c94_ok {l : LL} {k1 : LL → Prop} {k2 : Nat → Nat → Nat → LL → Prop} (hl : l.length ≤ 1000) (hp : Prs l) (h1 : keep l = l → k1 l) (h2 : ∀ len cap row, Sl (keep l) len cap row → k2 0 len cap row) : c94 l k1 k2 := by
  constructor
  constructor
  constructor
  intro I hI
  refine allInd (N := l.length) (p := fun i => ∀ h : i < l.length, self l[i] = false) (M := fun i => I l (l.length : Int) (i : Int)) (fun h => hI _ _ _ (brDn (by omega) (brT rfl (h1 ?_)))) fun i hi hlt ih => hI _ _ _ ?_
  · unfold keep
    rw [List.filter_eq_self]
    intro y hy
    obtain ⟨i, hi, rfl⟩ := List.mem_iff_getElem.1 hy
    rw [h i hi hi]; rfl
  · rw [wrapS (by omega)]
    refine brD (by omega) (needAt hi (c96_ok (hp _ (List.getElem_mem hi)) (brB (fun e => brF (by simp) ?_) fun e => ih fun _ => e)))
    rw [wrapS (by omega)]
    refine l94r5_ok hl hp hi ?_ fun m row g1 g2 g3 g4 => ?_
    · unfold keep
      rw [List.take_succ_eq_append_getElem hi, List.filter_append]
      have : (l.take i).filter (fun x => !self x) = l.take i := by
        rw [List.filter_eq_self]
        intro y hy
        obtain ⟨j, hj, rfl⟩ := List.mem_take_iff_getElem.1 hy
        rw [hlt j (by omega) (by omega)]; rfl
      rw [this]; simp [e]
    · have hlen : (((row.take m) ++ List.replicate (Int.toNat ((row.length : Int) - (m : Int))) ([0, 0] : List Int)) ++ row.drop (m + (List.replicate (Int.toNat ((row.length : Int) - (m : Int))) ([0, 0] : List Int)).length)).length = l.length := by
        simp; omega
      simp only [Int.toNat_natCast, Int.sub_zero]
      refine brD (by omega) (brD (by rw [hlen]; omega) (h2 _ _ _ ⟨rfl, by omega, by rw [hlen]; omega, ?_⟩))
      rw [List.append_assoc, List.take_append_of_le_length (by simp; omega), List.take_take, Nat.min_self, g4]
end Go.Proofs.Ytfdoaacapkopmaa

/- The law of 'MovesSequence', in plain Lean: the rounds of Sequence. -/
set_option linter.unusedVariables false
set_option linter.unusedSimpArgs false
namespace Go.Proofs.Ytfdoaacapkopmaa
open Go.Abs

theorem c98_ok {x : List Int} {T : LL} {k : Bool → LL → Prop} (hl : T.length ≤ 1000) (hp : Prs T) (hx : x.length = 2) (h1 : (∃ y ∈ T, ss y = dd x) → k false T) (h2 : (∀ y ∈ T, ss y ≠ dd x) → k true T) : c98 x T k :=
  ⟨c92v2_ok (by rw [hml]; omega) hp hx h1 h2⟩

theorem c97v3_ok {T : LL} {k : Int → LL → Prop} (hl : T.length ≤ 1000) (hp : Prs T) (h1 : ∀ i (h : i < T.length), (∀ y ∈ T, ss y ≠ dd T[i]) → k i T) (h2 : (∀ x ∈ T, ∃ y ∈ T, ss y = dd x) → k (-1) T) : c97v3 T k := by
  constructor
  constructor
  intro I hI
  refine allInd (N := T.length) (p := fun i => ∀ h : i < T.length, ∃ y ∈ T, ss y = dd T[i]) (M := fun i => I (T.length : Int) (i : Int) T) (fun h => hI _ _ _ (brDn (by omega) (h2 fun x hx => ?_))) fun i hi hlt ih => hI _ _ _ ?_
  · obtain ⟨i, hi, rfl⟩ := List.mem_iff_getElem.1 hx
    exact h i hi hi
  · rw [wrapS (by omega), Int.toNat_natCast]
    exact brD (by omega) (brD (by omega) (needNth hi (c98_ok hl hp (hp _ (List.getElem_mem hi)) (fun e => brF rfl (ih fun _ => e)) fun e => brT rfl (h1 i hi e))))

theorem sl_get {T row : LL} {len cap : Nat} (h : Sl T len cap row) {i : Nat} (hi : i < T.length) : ∃ h2 : i < row.length, row[i] = T[i] := by
  obtain ⟨h1, h2, h3, h4⟩ := h
  have h5 : i < row.length := by omega
  refine ⟨h5, ?_⟩
  have : (row.take len)[i]'(by simp; omega) = row[i] := List.getElem_take
  rw [← this]; simp only [h4]

theorem c97v5_ok {T row : LL} {len cap : Nat} (hs : Sl T len cap row) {k : Int → LL → Nat → Nat → Nat → Prop} (hl : T.length ≤ 1000) (hp : Prs T) (h1 : ∀ i (h : i < T.length), (∀ y ∈ T, ss y ≠ dd T[i]) → k i row 0 len cap) (h2 : (∀ x ∈ T, ∃ y ∈ T, ss y = dd x) → k (-1) row 0 len cap) : c97v5 0 len cap row 0 len cap k := by
  have hs' := hs
  obtain ⟨hc, hlen, hle, ht⟩ := hs'
  subst hlen
  constructor
  constructor
  intro I hI
  refine allInd (N := T.length) (p := fun i => ∀ h : i < T.length, ∃ y ∈ T, ss y = dd T[i]) (M := fun i => I 0 T.length cap (T.length : Int) (i : Int) row 0 T.length cap) (fun h => hI _ _ _ _ _ _ _ _ _ (brDn (by omega) (h2 fun x hx => ?_))) fun i hi hlt ih => hI _ _ _ _ _ _ _ _ _ ?_
  · obtain ⟨i, hi, rfl⟩ := List.mem_iff_getElem.1 hx
    exact h i hi hi
  · obtain ⟨g1, g2⟩ := sl_get hs hi
    rw [wrapS (by omega), Int.toNat_natCast, Nat.zero_add]
    refine brD (by omega) (brD (by omega) (needNth g1 ⟨?_⟩))
    unfold tc98v2
    rw [g2, List.drop_zero, ht]
    exact c92v2_ok (by rw [hml]; omega) hp (hp _ (List.getElem_mem hi)) (fun e => brF rfl (ih fun _ => e)) fun e => brT rfl (h1 i hi e)

/-- a source is given another name -/
def ren (r sp : Int) (y : List Int) : List Int := if ss y = r then y.set 1 sp else y
theorem ren_len {r sp : Int} {y : List Int} (h : y.length = 2) : (ren r sp y).length = 2 := by unfold ren; split <;> simp [h]

theorem l20r19_ok {T out : LL} {r sp : Int} {k : Int → LL → LL → Prop} (hl : T.length ≤ 1000) (hp : Prs T) (h : k sp (T.map (ren r sp)) out) : l20r19 k sp r (T.length : Int) 0 T out := by
  constructor
  intro I hI
  have hL : (T.map (ren r sp)).length = T.length := by simp
  have key := upInd (N := T.length) (M := fun i => I sp r (T.length : Int) (i : Int) (mix (T.map (ren r sp)) T i) out)
    (by
      apply hI
      refine brDn (by omega) ?_
      have : mix (T.map (ren r sp)) T T.length = T.map (ren r sp) := by rw [← hL]; exact mix_all (by omega)
      rw [this]; exact h)
    (by
      intro i hi ih
      apply hI
      have hm := mix_len (a := T.map (ren r sp)) (b := T) (by omega) (i := i) (by omega)
      have hget : (mix (T.map (ren r sp)) T i)[i]? = some (T[i]) := by rw [mix_get (by omega) (by omega), List.getElem?_eq_getElem]
      have hset := mix_set (a := T.map (ren r sp)) (b := T) (by omega) (i := i) (by omega)
      have hv : (T.map (ren r sp))[i]'(by omega) = ren r sp T[i] := List.getElem_map _
      have hx := hp _ (List.getElem_mem hi)
      rw [hv] at hset
      rw [wrapS (by omega), Int.toNat_natCast]
      refine brD (by omega) (brD (by omega) (needS hget (need1 hx (brE (fun e => brD (by omega) (needS hget (need1 hx ?_))) fun e => ?_))))
      · rw [show ren r sp T[i] = List.set T[i] 1 sp from if_pos e] at hset
        rw [hset]; exact ih
      · rw [mix_same (a := T.map (ren r sp)) (by omega) (by omega) (by rw [hv]; exact if_neg e)]; exact ih)
    0 (Nat.zero_le _)
  rw [mix_zero] at key
  exact key

theorem l20r19v2_ok {T row out : LL} {len cap : Nat} (hs : Sl T len cap row) {r sp : Int} {k : Int → Nat → Nat → Nat → LL → LL → Prop} (hl : T.length ≤ 1000) (hp : Prs T) (h : ∀ row, Sl (T.map (ren r sp)) len cap row → k sp 0 len cap row out) : l20r19v2 k sp r (len : Int) 0 0 len cap row out := by
  have hs' := hs
  obtain ⟨hc, hlen, hle, ht⟩ := hs'
  constructor
  intro I hI
  have hL : (row.map (ren r sp)).length = row.length := by simp
  have key := upInd (N := len) (M := fun i => I sp r (len : Int) (i : Int) 0 len cap (mix (row.map (ren r sp)) row i) out)
    (by
      apply hI
      refine brDn (by omega) (h _ ⟨by rw [mix_len (by omega) (by omega)]; exact hc, by simp [hlen], by omega, ?_⟩)
      unfold mix
      rw [List.take_append_of_le_length (by simp; omega), List.take_take, Nat.min_self, ← List.map_take, ht])
    (by
      intro i hi ih
      apply hI
      have hm := mix_len (a := row.map (ren r sp)) (b := row) (by omega) (i := i) (by omega)
      obtain ⟨g1, g2⟩ := sl_get hs (i := i) (by omega)
      have hget : (mix (row.map (ren r sp)) row i)[i]? = some (row[i]) := by rw [mix_get (by omega) (by omega), List.getElem?_eq_getElem]
      have hset := mix_set (a := row.map (ren r sp)) (b := row) (by omega) (i := i) (by omega)
      have hv : (row.map (ren r sp))[i]'(by omega) = ren r sp row[i] := List.getElem_map _
      have hx : (row[i]).length = 2 := by rw [g2]; exact hp _ (List.getElem_mem (by omega))
      rw [hv] at hset
      rw [wrapS (by omega), Int.toNat_natCast, Nat.zero_add]
      refine brD (by omega) (brD (by omega) (needS hget (need1 hx (brE (fun e => brD (by omega) (needS hget (need1 hx ?_))) fun e => ?_))))
      · rw [show ren r sp row[i] = List.set row[i] 1 sp from if_pos e] at hset
        rw [hset]; exact ih
      · rw [mix_same (a := row.map (ren r sp)) (by omega) (by omega) (by rw [hv]; exact if_neg e)]; exact ih)
    0 (Nat.zero_le _)
  rw [mix_zero] at key
  exact key

theorem cut_take {A B C : LL} {m n : Nat} (h : m = A.length) : ((A.take m ++ B) ++ C).take m = A := by
  subst h
  rw [List.append_assoc, List.take_append_of_le_length (by simp), List.take_take, Nat.min_self, List.take_length]
theorem c100_ok {T : LL} {i : Nat} {k1 : LL → Prop} {k2 : Nat → Nat → Nat → LL → Prop} {k3 : LL → Prop} (hl : T.length ≤ 1000) (hi : i < T.length) (h : ∀ len cap row, Sl (T.eraseIdx i) len cap row → k2 0 len cap row) : c100 (i : Int) ((i + 1 : Nat) : Int) T k1 k2 k3 := by
  constructor
  have hA : (List.take (Int.toNat ((T.length : Int) - ((i + 1 : Nat) : Int))) (List.drop (Int.toNat ((i + 1 : Nat) : Int)) T)) = T.drop (i + 1) := by
    rw [Int.toNat_natCast, List.take_of_length_le (by simp; omega)]
  have hE : T.eraseIdx i = T.take i ++ T.drop (i + 1) := List.eraseIdx_eq_take_drop_succ ..
  unfold tc100
  rw [hA]
  simp only [Int.sub_zero, Int.toNat_natCast, Nat.zero_add]
  have hd : (T.drop (i + 1)).length = T.length - (i + 1) := by simp
  refine brD (by omega) (brF (by simp; omega) (brD (by omega) (brD (by omega) (brD (by omega) (brD (by omega) (h _ _ _ ⟨?_, ?_, ?_, ?_⟩))))))
  · simp; omega
  · rw [hE]; simp; omega
  · omega
  · rw [List.append_assoc, List.take_append_of_le_length (by simp; omega), List.take_take, Nat.min_self, hE, List.take_append_of_le_length (by simp; omega), List.take_of_length_le (by simp; omega)]

theorem c100v2_ok {T row : LL} {len cap : Nat} (hs : Sl T len cap row) {i : Nat} {k1 : Nat → Nat → Nat → LL → Prop} {k2 : LL → Prop} (hl : T.length ≤ 1000) (hi : i < T.length) (h : ∀ len cap row, Sl (T.eraseIdx i) len cap row → k1 0 len cap row) : c100v2 0 len cap (i : Int) ((i + 1 : Nat) : Int) row k1 k2 := by
  obtain ⟨hc, hlen, hle, ht⟩ := hs
  constructor
  have hA : (List.take (Int.toNat ((len : Int) - ((i + 1 : Nat) : Int))) (List.drop (0 + Int.toNat ((i + 1 : Nat) : Int)) row)) = T.drop (i + 1) := by
    rw [Int.toNat_natCast, Nat.zero_add, ← ht, List.drop_take]
    congr 1
    omega
  have hT : row.take i = T.take i := by rw [← ht, List.take_take, Nat.min_eq_left (by omega)]
  have hE : T.eraseIdx i = T.take i ++ T.drop (i + 1) := List.eraseIdx_eq_take_drop_succ ..
  unfold tc100v2
  rw [hA]
  simp only [Int.sub_zero, Int.toNat_natCast, Nat.zero_add, Nat.add_zero]
  have hd : (T.drop (i + 1)).length = T.length - (i + 1) := by simp
  refine brD (by omega) (brF (by simp; omega) (brD (by omega) (brD (by omega) (brD (by omega) (brD (by omega) (h _ _ _ ⟨?_, ?_, ?_, ?_⟩))))))
  · simp; omega
  · rw [hE]; simp; omega
  · omega
  · rw [List.append_assoc, List.take_append_of_le_length (by simp; omega), List.take_take, Nat.min_self, hE, hT, List.take_append_of_le_length (by simp; omega), List.take_of_length_le (by simp; omega)]
end Go.Proofs.Ytfdoaacapkopmaa

/- The law of 'MovesSequence', in plain Lean: Sequence. -/
set_option linter.unusedVariables false
set_option linter.unusedSimpArgs false
namespace Go.Proofs.Ytfdoaacapkopmaa
open Go.Abs

/-- what the rounds keep: pending moves, moves made -/
structure Keeps (Inv : LL → LL → Prop) (sp : Int) : Prop where
  prs : ∀ {T out}, Inv T out → Prs T
  bnd : ∀ {T out}, Inv T out → out.length + 2 * T.length ≤ 1000
  free : ∀ {T out} (i : Nat) (h : i < T.length), Inv T out → (∀ y ∈ T, ss y ≠ dd T[i]) → Inv (T.eraseIdx i) (out ++ [T[i]])
  cyc : ∀ {T out} (h : 0 < T.length), Inv T out → (∀ x ∈ T, ∃ y ∈ T, ss y = dd x) → Inv ((T.map (ren (dd T[0]) sp)).eraseIdx 0) (out ++ [[sp, dd T[0]]] ++ [ren (dd T[0]) sp T[0]])

theorem erase_len {T : LL} {i : Nat} (h : i < T.length) : (T.eraseIdx i).length + 1 = T.length := by
  rw [List.length_eraseIdx_of_lt h]; omega

section
variable {Inv : LL → LL → Prop} {sp : Int} (K : Keeps Inv sp)
include K

theorem round1 {T out : LL} {k1 : LL → Prop} {I1 : Int → LL → LL → Prop} {I2 : Int → Nat → Nat → Nat → LL → LL → Prop} (h : Inv T out) (h0 : T = [] → k1 out)
    (hn : ∀ T' out' len cap row, T'.length + 1 = T.length → Inv T' out' → Sl T' len cap row → I2 sp 0 len cap row out') :
    br (decide (((T.length : Nat) : Int) > 0))
    (c97v3 T
     (fun z4 z5 => br (decide ((z4 : Int) < 0))
      (br (decide ((0 : Int) ≤ 0 ∧ (0 : Int) < ((z5.length : Nat) : Int)))
       (need False (z5)[0]? fun y6 =>
        need False (y6)[0]? fun y7 =>
         br (roomB ((List.length out) + 1) 16)
          (l20r19
           (fun z8 z9 z10 => br (decide ((0 : Int) ≤ 0 ∧ (0 : Int) < ((z9.length : Nat) : Int)))
            (need False (z9)[0]? fun y11 =>
             br (roomB ((List.length z10) + 1) 16)
              (c100 0 1 z9
               (fun z12 => I1 z8 z12 (z10 ++ [y11]))
               (fun z13 z14 z15 z16 => I2 z8 z13 z14 z15 z16 (z10 ++ [y11]))
               (fun z17 => I1 z8 z17 (z10 ++ [y11])))
              (False))
            (False))
           sp y7 ((z5.length : Nat) : Int) 0 z5 (out ++ [[sp, y7]]))
          (False))
       (False))
      (br (decide ((0 : Int) ≤ z4 ∧ (z4 : Int) < ((z5.length : Nat) : Int)))
       (need False (z5)[(Int.toNat z4)]? fun y18 =>
        br (roomB ((List.length out) + 1) 16)
         (c100 z4 (IntKind.wrap .i64 (z4 + 1)) z5
          (fun z19 => I1 sp z19 (out ++ [y18]))
          (fun z20 z21 z22 z23 => I2 sp z20 z21 z22 z23 (out ++ [y18]))
          (fun z24 => I1 sp z24 (out ++ [y18])))
         (False))
       (False))))
    (k1 out) := by
  have hb := K.bnd h
  have hp := K.prs h
  refine brP (fun hpos => ?_) fun hz => h0 (List.length_eq_zero_iff.1 (by omega))
  have hpos : 0 < T.length := by omega
  refine c97v3_ok (by omega) hp (fun i hi hf => ?_) fun hf => ?_
  · refine brDn (by omega) (brD (by omega) ?_)
    rw [Int.toNat_natCast, wrapS (by omega)]
    refine needNth hi (brT (roomS (by omega)) (c100_ok (by omega) hi fun len cap row hs => ?_))
    exact hn _ _ _ _ _ (erase_len hi) (K.free i hi h hf) hs
  · refine brD (by omega) (brD (by omega) (needNth hpos (need0 (hp _ (List.getElem_mem hpos)) (brT (roomS (by omega)) (l20r19_ok (by omega) hp ?_)))))
    have hl : (T.map (ren (dd T[0]) sp)).length = T.length := by simp
    refine brD (by omega) (needNth (by omega) (brT (roomS (by simp; omega)) ?_))
    have hc := K.cyc hpos h hf
    rw [List.getElem_map]
    refine c100_ok (i := 0) (by omega) (by omega) fun len cap row hs => ?_
    exact hn _ _ _ _ _ (by rw [erase_len (by omega), hl]) hc hs

theorem round2 {T out row : LL} {len cap : Nat} {k1 : LL → Prop} {I1 : Int → LL → LL → Prop} {I2 : Int → Nat → Nat → Nat → LL → LL → Prop} (h : Inv T out) (hs : Sl T len cap row) (h0 : T = [] → k1 out)
    (hn : ∀ T' out' len cap row, T'.length + 1 = T.length → Inv T' out' → Sl T' len cap row → I2 sp 0 len cap row out') :
    br (decide ((((len : Nat) : Int) : Int) > 0))
    (c97v5 0 len cap row 0 len cap
     (fun z31 z32 z33 z34 z35 => br (decide ((z31 : Int) < 0))
      (br (decide ((0 : Int) ≤ 0 ∧ (0 : Int) < ((z34 : Nat) : Int)))
       (need False (z32)[(z33 + 0)]? fun y36 =>
        need False (y36)[0]? fun y37 =>
         br (roomB ((List.length out) + 1) 16)
          (l20r19v2
           (fun z38 z39 z40 z41 z42 z43 => br (decide ((0 : Int) ≤ 0 ∧ (0 : Int) < ((z40 : Nat) : Int)))
            (need False (z42)[(z39 + 0)]? fun y44 =>
             br (roomB ((List.length z43) + 1) 16)
              (c100v2 z39 z40 z41 0 1 z42
               (fun z45 z46 z47 z48 => I2 z38 z45 z46 z47 z48 (z43 ++ [y44]))
               (fun z49 => I1 z38 z49 (z43 ++ [y44])))
              (False))
            (False))
           sp y37 ((z34 : Nat) : Int) 0 z33 z34 z35 z32 (out ++ [[sp, y37]]))
          (False))
       (False))
      (br (decide ((0 : Int) ≤ z31 ∧ (z31 : Int) < ((z34 : Nat) : Int)))
       (need False (z32)[(z33 + (Int.toNat z31))]? fun y50 =>
        br (roomB ((List.length out) + 1) 16)
         (c100v2 z33 z34 z35 z31 (IntKind.wrap .i64 (z31 + 1)) z32
          (fun z51 z52 z53 z54 => I2 sp z51 z52 z53 z54 (out ++ [y50]))
          (fun z55 => I1 sp z55 (out ++ [y50])))
         (False))
       (False))))
    (k1 out) := by
  have hb := K.bnd h
  have hp := K.prs h
  have hlen := hs.2.1
  refine brP (fun hpos => ?_) fun hz => h0 (List.length_eq_zero_iff.1 (by omega))
  have hpos : 0 < T.length := by omega
  refine c97v5_ok hs (by omega) hp (fun i hi hf => ?_) fun hf => ?_
  · obtain ⟨g1, g2⟩ := sl_get hs hi
    refine brDn (by omega) (brD (by omega) ?_)
    rw [Int.toNat_natCast, wrapS (by omega), Nat.zero_add]
    refine needNth g1 (brT (roomS (by omega)) (c100v2_ok hs (by omega) hi fun len cap row hs => ?_))
    rw [g2]
    exact hn _ _ _ _ _ (erase_len hi) (K.free i hi h hf) hs
  · obtain ⟨g1, g2⟩ := sl_get hs hpos
    refine brD (by omega) (brD (by omega) (needNth g1 ?_))
    rw [g2]
    refine need0 (hp _ (List.getElem_mem hpos)) (brT (roomS (by omega)) (l20r19v2_ok hs (by omega) hp fun row2 hs2 => ?_))
    have hl : (T.map (ren (dd T[0]) sp)).length = T.length := by simp
    obtain ⟨q1, q2⟩ := sl_get hs2 (i := 0) (by omega)
    refine brD (by omega) (needNth q1 (brT (roomS (by simp; omega)) ?_))
    have hc := K.cyc hpos h hf
    rw [q2, List.getElem_map]
    refine c100v2_ok (i := 0) hs2 (by omega) (by omega) fun len cap row hs => ?_
    exact hn _ _ _ _ _ (by rw [erase_len (by omega), hl]) hc hs

theorem l20r13_ok {T out : LL} {k1 : LL → Prop} (h : Inv T out) (hk : ∀ out, Inv [] out → k1 out) : l20r13 k1 sp T out := by
  constructor
  intro I1 I2 hI1 hI2
  have key : ∀ n, ∀ T out len cap row, T.length = n → Inv T out → Sl T len cap row → I2 sp 0 len cap row out := by
    intro n
    induction n with
    | zero =>
      intro T out len cap row hn h hs
      exact hI2 _ _ _ _ _ _ (round2 K (I1 := I1) h hs (fun e => hk out (e ▸ h)) fun T' _ _ _ _ e => by omega)
    | succ n ih =>
      intro T out len cap row hn h hs
      exact hI2 _ _ _ _ _ _ (round2 K (I1 := I1) h hs (fun e => hk out (e ▸ h)) fun T' out' len cap row e h1 h2 => ih T' out' len cap row (by omega) h1 h2)
  exact hI1 _ _ _ (round1 K (I1 := I1) h (fun e => hk out (e ▸ h)) fun T' out' len cap row e h1 h2 => key _ T' out' len cap row rfl h1 h2)
theorem l20r13v2_ok {T out row : LL} {len cap : Nat} {k1 : LL → Prop} (h : Inv T out) (hs : Sl T len cap row) (hk : ∀ out, Inv [] out → k1 out) : l20r13v2 k1 sp 0 len cap row out := by
  constructor
  intro I2 I1 hI2 hI1
  have key : ∀ n, ∀ T out len cap row, T.length = n → Inv T out → Sl T len cap row → I2 sp 0 len cap row out := by
    intro n
    induction n with
    | zero =>
      intro T out len cap row hn h hs
      exact hI2 _ _ _ _ _ _ (round2 K (I1 := I1) h hs (fun e => hk out (e ▸ h)) fun T' _ _ _ _ e => by omega)
    | succ n ih =>
      intro T out len cap row hn h hs
      exact hI2 _ _ _ _ _ _ (round2 K (I1 := I1) h hs (fun e => hk out (e ▸ h)) fun T' out' len cap row e h1 h2 => ih T' out' len cap row (by omega) h1 h2)
  exact key _ T out len cap row rfl h hs
end

theorem c20_ok {l : LL} {sp : Int} {k : Int → LL → Prop} (hl : l.length ≤ 300) (hp : Prs l)
    (h1 : ∀ i, i < l.length → (∀ j, j < i → chk l sp j = 0) → chk l sp i ≠ 0 → k (chk l sp i) [])
    (h2 : (∀ i, i < l.length → chk l sp i = 0) → ∃ Inv, Keeps Inv sp ∧ Inv (keep l) [] ∧ ∀ out, Inv [] out → k 0 out) : c20 l sp k := by
  constructor
  refine l20r2_ok (by omega) hp h1 fun h0 => ?_
  obtain ⟨Inv, K, hi, hk⟩ := h2 h0
  refine c95_ok (by omega) (c94_ok (by omega) hp (fun e => ?_) fun len cap row hs => ?_)
  · rw [e] at hi
    exact l20r13_ok K hi hk
  · exact l20r13v2_ok K hi hs hk
end Go.Proofs.Ytfdoaacapkopmaa

/- The law of 'MovesSequence', in plain Lean: what the moves do. -/
set_option linter.unusedVariables false
set_option linter.unusedSimpArgs false
namespace Go.Proofs.Ytfdoaacapkopmaa
open Go.Abs

def upd (σ : Int → Int) (v a : Int) : Int → Int := fun u => if u = v then a else σ u
theorem upd_self {σ : Int → Int} {v a : Int} : upd σ v a v = a := if_pos rfl
theorem upd_ne {σ : Int → Int} {v a u : Int} (h : u ≠ v) : upd σ v a u = σ u := if_neg h
def ex1 (σ : Int → Int) (x : List Int) : Int → Int := upd σ (dd x) (σ (ss x))
def ex (out : LL) : Int → Int := out.foldl ex1 id
theorem ex_snoc {out : LL} {x : List Int} : ex (out ++ [x]) = ex1 (ex out) x := by simp [ex]

theorem dd_ren {r sp : Int} {y : List Int} (h : y.length = 2) : dd (ren r sp y) = dd y := by
  match y, h with
  | [a, b], _ => unfold ren; split <;> rfl
theorem ss_ren {r sp : Int} {y : List Int} (h : y.length = 2) : ss (ren r sp y) = if ss y = r then sp else ss y := by
  match y, h with
  | [a, b], _ => unfold ren; split <;> rfl

theorem pig : ∀ (A B : List Int), A.Nodup → (∀ a ∈ A, a ∈ B) → B.length ≤ A.length → ∀ b ∈ B, b ∈ A
  | [], B, _, _, h, b, hb => by
    have : B = [] := List.length_eq_zero_iff.1 (by simpa using h)
    subst this; cases hb
  | a :: A, B, hn, hs, h, b, hb => by
    have ha := hs a List.mem_cons_self
    obtain ⟨h1, h2⟩ := List.nodup_cons.1 hn
    by_cases e : b = a
    · subst e; exact List.mem_cons_self
    · have hl : (B.erase a).length = B.length - 1 := List.length_erase_of_mem ha
      exact List.mem_cons_of_mem _ (pig A (B.erase a) h2 (fun x hx => (List.mem_erase_of_ne (show x ≠ a from fun e => h1 (by rw [← e]; exact hx))).2 (hs x (List.mem_cons_of_mem _ hx))) (by rw [hl]; simp at h; omega) b ((List.mem_erase_of_ne e).2 hb))

structure Inv0 (l : LL) (sp : Int) (T out : LL) : Prop where
  prT : Prs T
  prO : Prs out
  nd : T.Pairwise (fun a b => dd a ≠ dd b)
  dl : ∀ y ∈ T, dd y ≠ sp
  pend : ∀ x ∈ l, (∃ y ∈ T, dd y = dd x ∧ ex out (ss y) = ss x) ∨ (ex out (dd x) = ss x ∧ ∀ y ∈ T, dd y ≠ dd x)
  src : ∀ y ∈ T, ∃ x ∈ l, dd x = dd y
  oth : ∀ v, v ≠ sp → (∀ x ∈ l, dd x ≠ v) → ex out v = v

theorem erase_ne {T : LL} {i : Nat} (h : i < T.length) (nd : T.Pairwise (fun a b => dd a ≠ dd b)) {y : List Int} (hy : y ∈ T.eraseIdx i) : dd y ≠ dd T[i] := by
  obtain ⟨j, hj, hne, rfl⟩ := List.mem_eraseIdx_iff_getElem.1 hy
  have hp := List.pairwise_iff_getElem.1 nd
  by_cases h1 : j < i
  · exact hp j i hj h h1
  · exact fun e => hp i j h hj (by omega) e.symm

theorem inv_free {l T out : LL} {sp : Int} (h : Inv0 l sp T out) {i : Nat} (hi : i < T.length) (hf : ∀ y ∈ T, ss y ≠ dd T[i]) : Inv0 l sp (T.eraseIdx i) (out ++ [T[i]]) := by
  have hm : ∀ y, y ∈ T.eraseIdx i → y ∈ T := fun y hy => List.mem_of_mem_eraseIdx hy
  refine ⟨fun y hy => h.prT y (hm y hy), fun y hy => ?_, h.nd.sublist (List.eraseIdx_sublist ..), fun y hy => h.dl y (hm y hy), fun x hx => ?_, fun y hy => h.src y (hm y hy), fun v hv hno => ?_⟩
  · rcases List.mem_append.1 hy with hy | hy
    · exact h.prO y hy
    · have : y = T[i] := by simpa using hy
      rw [this]; exact h.prT _ (List.getElem_mem hi)
  · rw [ex_snoc]
    rcases h.pend x hx with ⟨y, hy, e1, e2⟩ | ⟨e1, e2⟩
    · obtain ⟨j, hj, rfl⟩ := List.mem_iff_getElem.1 hy
      by_cases e : j = i
      · subst e
        refine .inr ⟨?_, fun z hz => by rw [← e1]; exact erase_ne hi h.nd hz⟩
        unfold ex1
        rw [← e1, upd_self]; exact e2
      · refine .inl ⟨_, List.mem_eraseIdx_iff_getElem.2 ⟨j, hj, e, rfl⟩, e1, ?_⟩
        unfold ex1
        rw [upd_ne (hf _ (List.getElem_mem hj))]; exact e2
    · refine .inr ⟨?_, fun z hz => e2 z (hm z hz)⟩
      unfold ex1
      rw [upd_ne (fun e => e2 _ (List.getElem_mem hi) e.symm)]; exact e1
  · rw [ex_snoc]
    obtain ⟨x, hx, e⟩ := h.src _ (List.getElem_mem hi)
    unfold ex1
    rw [upd_ne (fun e2 => hno x hx (by rw [e, e2]))]
    exact h.oth v hv hno

theorem inv_ren {l T out : LL} {sp : Int} (hl : ∀ x ∈ l, dd x ≠ sp) (h : Inv0 l sp T out) {r : Int} (hns : ∀ y ∈ T, ss y ≠ sp) : Inv0 l sp (T.map (ren r sp)) (out ++ [[sp, r]]) := by
  have hm : ∀ {y}, y ∈ T.map (ren r sp) → ∃ z ∈ T, ren r sp z = y := fun hy => List.mem_map.1 hy
  have e1 : ex1 (ex out) [sp, r] = upd (ex out) sp (ex out r) := rfl
  refine ⟨fun y hy => ?_, fun y hy => ?_, ?_, fun y hy => ?_, fun x hx => ?_, fun y hy => ?_, fun v hv hno => ?_⟩
  · obtain ⟨z, hz, rfl⟩ := hm hy
    exact ren_len (h.prT z hz)
  · rcases List.mem_append.1 hy with hy | hy
    · exact h.prO y hy
    · have : y = [sp, r] := by simpa using hy
      rw [this]; rfl
  · rw [List.pairwise_map]
    refine List.Pairwise.imp_of_mem (fun {a b} ha hb hab => ?_) h.nd
    rw [dd_ren (h.prT a ha), dd_ren (h.prT b hb)]; exact hab
  · obtain ⟨z, hz, rfl⟩ := hm hy
    rw [dd_ren (h.prT z hz)]; exact h.dl z hz
  · rw [ex_snoc, e1]
    rcases h.pend x hx with ⟨y, hy, q1, q2⟩ | ⟨q1, q2⟩
    · refine .inl ⟨_, List.mem_map.2 ⟨y, hy, rfl⟩, by rw [dd_ren (h.prT y hy)]; exact q1, ?_⟩
      rw [ss_ren (h.prT y hy)]
      by_cases e : ss y = r
      · rw [if_pos e, upd_self, ← e]; exact q2
      · rw [if_neg e, upd_ne (hns y hy)]; exact q2
    · refine .inr ⟨?_, fun z hz => ?_⟩
      · rw [upd_ne (hl x hx)]; exact q1
      · obtain ⟨w, hw, rfl⟩ := hm hz
        rw [dd_ren (h.prT w hw)]; exact q2 w hw
  · obtain ⟨z, hz, rfl⟩ := hm hy
    rw [dd_ren (h.prT z hz)]; exact h.src z hz
  · rw [ex_snoc, e1, upd_ne hv]; exact h.oth v hv hno

def InvB (l : LL) (sp : Int) (T out : LL) : Prop := Inv0 l sp T out ∧ out.length + 2 * T.length ≤ 80
theorem keeps {l : LL} {sp : Int} (hl : ∀ x ∈ l, dd x ≠ sp) : Keeps (InvB l sp) sp := by
  refine ⟨fun h => h.1.prT, fun h => Nat.le_trans h.2 (by omega), fun {T out} i hi h hf => ⟨inv_free h.1 hi hf, ?_⟩, fun {T out} h0 h hf => ?_⟩
  · have h2 := h.2
    have := erase_len hi
    simp; omega
  · have hi := h.1
    have hdd : ∀ y ∈ T.map ss, y ∈ T.map dd := by
      refine pig (T.map dd) (T.map ss) ?_ (fun a ha => ?_) (by simp)
      · unfold List.Nodup
        rw [List.pairwise_map]; exact hi.nd
      · obtain ⟨x, hx, rfl⟩ := List.mem_map.1 ha
        obtain ⟨y, hy, e⟩ := hf x hx
        exact List.mem_map.2 ⟨y, hy, e⟩
    have hns : ∀ y ∈ T, ss y ≠ sp := fun y hy e => by
      obtain ⟨x, hx, e2⟩ := List.mem_map.1 (hdd _ (List.mem_map.2 ⟨y, hy, rfl⟩))
      exact hi.dl x hx (by rw [e2, e])
    have hr := inv_ren (r := dd T[0]) hl hi hns
    have hlen : (T.map (ren (dd T[0]) sp)).length = T.length := by simp
    have hg : (T.map (ren (dd T[0]) sp))[0]'(by omega) = ren (dd T[0]) sp T[0] := List.getElem_map _
    have hfr := inv_free hr (i := 0) (by omega) (fun y hy => by
      rw [hg, dd_ren (hi.prT _ (List.getElem_mem h0))]
      obtain ⟨z, hz, rfl⟩ := List.mem_map.1 hy
      rw [ss_ren (hi.prT z hz)]
      by_cases e : ss z = dd T[0]
      · rw [if_pos e]; exact fun e2 => hi.dl _ (List.getElem_mem h0) e2.symm
      · rw [if_neg e]; exact e)
    rw [hg] at hfr
    refine ⟨hfr, ?_⟩
    have h2 := h.2
    have := erase_len (T := T.map (ren (dd T[0]) sp)) (i := 0) (by omega)
    simp only [List.length_append, List.length_cons, List.length_nil]
    omega

theorem chk_zero {l : LL} {sp : Int} {i : Nat} (h : i < l.length) (hz : chk l sp i = 0) : (∀ j (hj : j < i), dd (l[j]'(by omega)) ≠ dd l[i]) ∧ dd l[i] ≠ sp ∧ ss l[i] ≠ sp := by
  rw [chk_eq h] at hz
  by_cases e1 : dd l[i] < 0 ∨ ss l[i] < 0
  · rw [if_pos e1] at hz; omega
  · rw [if_neg e1] at hz
    by_cases e2 : ∃ j, j < i ∧ dd (l[j]?.getD []) = dd l[i]
    · rw [if_pos e2] at hz; omega
    · rw [if_neg e2] at hz
      by_cases e3 : dd l[i] = sp ∨ ss l[i] = sp
      · rw [if_pos e3] at hz; omega
      · refine ⟨fun j hj e => e2 ⟨j, hj, ?_⟩, fun e => e3 (.inl e), fun e => e3 (.inr e)⟩
        rw [List.getElem?_eq_getElem (by omega)]; exact e

theorem inv_start {l : LL} {sp : Int} (hl : l.length ≤ 40) (hp : Prs l) (hz : ∀ i, i < l.length → chk l sp i = 0) : (∀ x ∈ l, dd x ≠ sp) ∧ InvB l sp (keep l) [] := by
  have hsp : ∀ x ∈ l, dd x ≠ sp := fun x hx => by
    obtain ⟨i, hi, rfl⟩ := List.mem_iff_getElem.1 hx
    exact (chk_zero hi (hz i hi)).2.1
  have hpw : l.Pairwise (fun a b => dd a ≠ dd b) := List.pairwise_iff_getElem.2 fun i j hi hj hij => (chk_zero hj (hz j hj)).1 i hij
  have hm : ∀ y, y ∈ keep l → y ∈ l := fun y hy => (List.mem_filter.1 hy).1
  have hkl : (keep l).length ≤ l.length := List.length_filter_le _ _
  refine ⟨hsp, ⟨fun y hy => hp y (hm y hy), (fun y hy => by cases hy), hpw.sublist List.filter_sublist, fun y hy => hsp y (hm y hy), fun x hx => ?_, fun y hy => ⟨y, hm y hy, rfl⟩, fun v _ _ => rfl⟩, by simp; omega⟩
  by_cases e : self x = true
  · refine .inr ⟨?_, fun y hy e2 => ?_⟩
    · show dd x = ss x
      simpa [self] using e
    · obtain ⟨g1, g2⟩ := List.mem_filter.1 hy
      have : y = x := by
        obtain ⟨i, hi, rfl⟩ := List.mem_iff_getElem.1 g1
        obtain ⟨j, hj, rfl⟩ := List.mem_iff_getElem.1 hx
        have hq := List.pairwise_iff_getElem.1 hpw
        by_cases h1 : i < j
        · exact absurd e2 (hq i j hi hj h1)
        · by_cases h2 : j < i
          · exact absurd e2.symm (hq j i hj hi h2)
          · have : i = j := by omega
            subst this; rfl
      subst this
      simp [e] at g2
  · exact .inl ⟨x, List.mem_filter.2 ⟨hx, by simp [e]⟩, rfl, rfl⟩
end Go.Proofs.Ytfdoaacapkopmaa
