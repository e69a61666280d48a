/- The law of 'LinkMerges', in plain Lean: equal functions. -/
import Derived.Test.YtfdoaacapkopmaaAP10a
set_option linter.unusedVariables false
set_option linter.unusedSimpArgs false
namespace Go.Proofs.Ytfdoaacapkopmaa
open Go.Abs

theorem allInd {N : Nat} {p : Nat → Prop} {M : Nat → Prop} (hN : (∀ i, i < N → p i) → M N)
    (hs : ∀ i, i < N → (p i → M (i + 1)) → (¬ p i → ¬ ∀ i, i < N → p i) → M i) : M 0 := by
  have key := upInd (N := N) (M := fun i => (∀ j, j < i → p j) → M i) hN (fun i hi ih hp =>
    hs i hi (fun h => ih fun j hj => by
      by_cases e : j = i
      · subst e; exact h
      · exact hp j (by omega)) (fun h h2 => h (h2 i hi)))
  exact key 0 (Nat.zero_le _) fun j hj => absurd hj (by omega)

theorem cmpInd {α : Type} {a b : List α} (hlen : a.length = b.length) {M : Nat → Prop} (hN : a = b → M a.length)
    (hs : ∀ i (h : i < a.length), (a[i] = b[i]'(by omega) → M (i + 1)) → (a[i] ≠ b[i]'(by omega) → a ≠ b) → M i) : M 0 := by
  refine allInd (N := a.length) (p := fun i => a[i]? = b[i]?) (fun h => hN ?_) (fun i hi h1 h2 => hs i hi (fun e => h1 ?_) fun e e2 => e (by subst e2; rfl))
  · refine List.ext_getElem? fun i => ?_
    by_cases hi : i < a.length
    · exact h i hi
    · rw [List.getElem?_eq_none (by omega), List.getElem?_eq_none (by omega)]
  · rw [List.getElem?_eq_getElem hi, List.getElem?_eq_getElem (by omega), e]

theorem hml : maxLen = 9223372036854775807 := rfl

theorem c32_ok {a b : List Int} {k : Bool → Prop} (hl : a.length ≤ maxLen) (h1 : a = b → k true) (h2 : a ≠ b → k false) : c32 a b k := by
  have hm := hml
  constructor
  unfold tc32
  refine brN (fun h => h2 fun e => h (by rw [e])) fun h => ?_
  have hlen : a.length = b.length := by omega
  constructor
  intro I hI
  refine cmpInd (M := fun i => I a b (a.length : Int) (i : Int)) hlen (fun e => hI _ _ _ _ (brDn (by omega) (h1 e))) fun i hi e1 e2 => hI _ _ _ _ ?_
  rw [wrapS (by omega)]
  exact brD (by omega) (needAt hi (needAt (by omega) (brN (fun h => h2 (e2 h)) fun h => e1 h)))
theorem c119_ok {a b : List Int} {k : Bool → Prop} (hl : a.length ≤ maxLen) (h1 : a = b → k true) (h2 : a ≠ b → k false) : c119 a b k := by
  have hm := hml
  constructor
  unfold tc119
  refine brN (fun h => h2 fun e => h (by rw [e])) fun h => ?_
  have hlen : a.length = b.length := by omega
  constructor
  intro I hI
  refine cmpInd (M := fun i => I a b (a.length : Int) (i : Int)) hlen (fun e => hI _ _ _ _ (brDn (by omega) (h1 e))) fun i hi e1 e2 => hI _ _ _ _ ?_
  rw [wrapS (by omega)]
  exact brD (by omega) (needAt hi (needAt (by omega) (brN (fun h => h2 (e2 h)) fun h => e1 h)))

def itB (y5 y6 : IT) : Bool := ((((y5.1.1 : Int) == y6.1.1) && (((y5.1.2.1 : Int) == y6.1.2.1) && (((y5.1.2.2.1 : Int) == y6.1.2.2.1) && (((y5.1.2.2.2.1 : Int) == y6.1.2.2.2.1) && (((y5.1.2.2.2.2.1 : Int) == y6.1.2.2.2.2.1) && true))))) && (((y5.2.1 : Int) == y6.2.1) && true))
theorem itB_iff {x y : IT} : itB x y = true ↔ x = y := by
  obtain ⟨⟨a1, a2, a3, a4, a5, _⟩, a6, _⟩ := x
  obtain ⟨⟨b1, b2, b3, b4, b5, _⟩, b6, _⟩ := y
  simp [itB]
theorem brIt {x y : IT} {A B : Prop} (h1 : x ≠ y → A) (h2 : x = y → B) : br (!itB x y) A B := by
  refine brB (fun e => h1 fun h => ?_) fun e => h2 (itB_iff.1 (by simpa using e))
  rw [itB_iff.2 h] at e; cases e

theorem c147_ok {a b : List IT} {k : Bool → Prop} (hl : a.length ≤ maxLen) (h1 : a = b → k true) (h2 : a ≠ b → k false) : c147 a b k := by
  have hm := hml
  constructor
  unfold tc147
  refine brN (fun h => h2 fun e => h (by rw [e])) fun h => ?_
  have hlen : a.length = b.length := by omega
  constructor
  intro I hI
  refine cmpInd (M := fun i => I a b (a.length : Int) (i : Int)) hlen (fun e => hI _ _ _ _ (brDn (by omega) (h1 e))) fun i hi e1 e2 => hI _ _ _ _ ?_
  rw [wrapS (by omega)]
  exact brD (by omega) (needAt hi (needAt (by omega) (brIt (fun h => h2 (e2 h)) fun h => e1 h)))

theorem mp_ext {x y : MP} (h1 : x.1 = y.1) (h2 : x.2.1 = y.2.1) (h3 : x.2.2.1 = y.2.2.1) (h4 : x.2.2.2.1 = y.2.2.2.1) : x = y := by
  obtain ⟨a1, a2, a3, a4, _⟩ := x
  obtain ⟨b1, b2, b3, b4, _⟩ := y
  cases h1; cases h2; cases h3; cases h4; rfl
theorem c149_ok {x y : MP} {k : Bool → Prop} (hl : x.2.2.1.length ≤ maxLen) (h1 : x = y → k true) (h2 : x ≠ y → k false) : c149 x y k := by
  constructor
  unfold tc149
  refine brE (fun e1 => brB (fun e2 => brE (fun e3 => c119_ok hl (fun e4 => h1 (mp_ext e1 (by simpa using e2) e4 e3)) fun e => h2 fun h => e (by rw [h])) fun e => h2 fun h => e (by rw [h])) fun e => h2 fun h => ?_) fun e => h2 fun h => e (by rw [h])
  rw [h] at e; simp at e
theorem c148_ok {a b : List MP} {k : Bool → Prop} (hl : a.length ≤ maxLen) (hls : ∀ m ∈ a, m.2.2.1.length ≤ maxLen) (h1 : a = b → k true) (h2 : a ≠ b → k false) : c148 a b k := by
  have hm := hml
  constructor
  unfold tc148
  refine brN (fun h => h2 fun e => h (by rw [e])) fun h => ?_
  have hlen : a.length = b.length := by omega
  constructor
  intro I hI
  refine cmpInd (M := fun i => I b a (a.length : Int) (i : Int)) hlen (fun e => hI _ _ _ _ (brDn (by omega) (h1 e))) fun i hi e1 e2 => hI _ _ _ _ ?_
  rw [wrapS (by omega)]
  refine brD (by omega) (needAt hi (needAt (by omega) (c149_ok (hls _ (List.getElem_mem hi)) (fun h => ?_) fun h => h2 (e2 h))))
  exact e1 h

/-- equal but for the calls' functions, and these related -/
def CallS (R : Nat → Nat → Prop) (a b : List CL) : Prop := a.length = b.length ∧ ∀ i (h1 : i < a.length) (h2 : i < b.length), a[i].1 = b[i].1 ∧ R a[i].2.1.toNat b[i].2.1.toNat
def S (R : Nat → Nat → Prop) (f g : LF) : Prop := f.2.2.2.2.1 = g.2.2.2.2.1 ∧ f.2.1 = g.2.1 ∧ f.2.2.2.1 = g.2.2.2.1 ∧ CallS R f.2.2.1 g.2.2.1
def RC (cls : List Int) (i j : Nat) : Prop := cls[i]? = cls[j]?

theorem at?_in {α : Type} {l : List α} {i : Int} (h0 : 0 ≤ i) (h : i.toNat < l.length) : at? l i = some l[i.toNat] := by
  unfold at?
  rw [if_pos h0, List.getElem?_eq_getElem]
theorem c150_ok {a b : List CL} {cls : List Int} {k : Bool → List Int → Prop} (hl : a.length ≤ maxLen) (ha : CallsIn cls.length a 0) (hb : CallsIn cls.length b 0)
    (h1 : CallS (RC cls) a b → k true cls) (h2 : ¬ CallS (RC cls) a b → k false cls) : c150 a b cls k := by
  have hm := hml
  constructor
  unfold tc150
  refine brN (fun h => h2 fun e => h (by rw [e.1])) fun h => ?_
  have hlen : a.length = b.length := by omega
  constructor
  intro I hI
  refine allInd (N := a.length) (p := fun i => ∀ (h1 : i < a.length) (h2 : i < b.length), a[i].1 = b[i].1 ∧ RC cls a[i].2.1.toNat b[i].2.1.toNat) (M := fun i => I b a (a.length : Int) (i : Int) cls)
    (fun e => hI _ _ _ _ _ (brDn (by omega) (h1 ⟨hlen, fun i h1 h2 => e i h1 h1 h2⟩))) fun i hi e1 e2 => hI _ _ _ _ _ ?_
  rw [wrapS (by omega)]
  have hn : ¬ (a[i].1 = b[i].1 ∧ RC cls a[i].2.1.toNat b[i].2.1.toNat) → k false cls := fun hh => h2 fun hs => e2 (fun hp => hh (hp hi (by omega))) fun j hj q1 q2 => hs.2 j q1 q2
  have hy : (a[i].1 = b[i].1 ∧ RC cls a[i].2.1.toNat b[i].2.1.toNat) → I b a (a.length : Int) ((i + 1 : Nat) : Int) cls := fun hh => e1 fun _ _ => hh
  have h3 := ha i hi (Nat.zero_le _)
  have h4 := hb i (by omega) (Nat.zero_le _)
  refine brD (by omega) (needAt hi (needAt (by omega) ⟨?_⟩))
  refine brE (fun e => needS (at?_in h3.1 (by omega)) (needS (at?_in h4.1 (by omega)) ?_)) fun e => hn fun hh => e hh.1
  refine brB (fun e3 => hn fun hh => ?_) fun e3 => hy ⟨e, ?_⟩
  · have := hh.2
    unfold RC at this
    rw [List.getElem?_eq_getElem (by omega), List.getElem?_eq_getElem (by omega)] at this
    simp [Option.some.inj this] at e3
  · unfold RC
    rw [List.getElem?_eq_getElem (by omega), List.getElem?_eq_getElem (by omega)]
    simpa using e3

theorem c118_ok {f g : LF} {cls : List Int} {k : Bool → Prop} (hf : Lens f) (ha : CallsIn cls.length f.2.2.1 0) (hb : CallsIn cls.length g.2.2.1 0)
    (h1 : S (RC cls) f g → k true) (h2 : ¬ S (RC cls) f g → k false) : c118 f g cls k := by
  obtain ⟨hf1, hf2, hf3, hf4⟩ := hf
  constructor
  unfold tc118
  refine brE (fun e1 => c147_ok hf1 (fun e2 => c148_ok hf3 hf4 (fun e3 => c150_ok hf2 ha hb (fun e4 => h1 ⟨e1, e2, e3, e4⟩) fun e => h2 fun h => e h.2.2.2) fun e => h2 fun h => e h.2.2.1) fun e => h2 fun h => e h.2.1) fun e => h2 fun h => e h.1

/-- the reference's pairs -/
def RM (n : Nat) (m : List Bool) (i j : Nat) : Prop := i < n ∧ j < n ∧ m[i * n + j]? = some true
theorem idx {n i j : Nat} (hi : i < n) (hj : j < n) : i * n + j < n * n := by
  have : (i + 1) * n ≤ n * n := Nat.mul_le_mul_right n hi
  rw [Nat.add_mul] at this; omega
theorem idxI {n i j : Nat} (hn : n ≤ 12) (hi : i < n) (hj : j < n) : IntKind.wrap .i64 (IntKind.wrap .i64 ((i : Int) * (n : Int)) + (j : Int)) = ((i * n + j : Nat) : Int) := by
  have h1 := idx hi hj
  have h2 : n * n ≤ 12 * 12 := Nat.mul_le_mul hn hn
  have h3 : (i : Int) * (n : Int) = ((i * n : Nat) : Int) := by simp
  rw [h3, wrap64 (a := ((i * n : Nat) : Int)) (by omega) (by omega), wrap64 (by omega) (by omega)]; simp
theorem c121_ok {f g : LF} {n : Nat} {m : List Bool} {k : Bool → Prop} (hn : n ≤ 12) (hm2 : m.length = n * n) (hf : Lens f) (ha : CallsIn n f.2.2.1 0) (hb : CallsIn n g.2.2.1 0)
    (h1 : S (RM n m) f g → k true) (h2 : ¬ S (RM n m) f g → k false) : c121 f g m n k := by
  have hm := hml
  obtain ⟨hf1, hf2, hf3, hf4⟩ := hf
  constructor
  unfold tc121
  refine brN (fun e => h2 fun h => e h.1) fun s1 => brN (fun e => h2 fun h => e (by rw [h.2.1])) fun s2 => brN (fun e => h2 fun h => e (by rw [h.2.2.2.1])) fun s3 => brN (fun e => h2 fun h => e (by rw [h.2.2.1])) fun s4 => ?_
  constructor
  intro I hI
  refine cmpInd (a := f.2.1) (b := g.2.1) (M := fun i => I m n (f.2.1.length : Int) (i : Int) f g) (by omega) (fun t1 => hI _ _ _ _ _ _ (brDn (by omega) ?_)) fun i hi e1 e2 => hI _ _ _ _ _ _ ?_
  · constructor
    intro I hI
    refine allInd (N := f.2.2.1.length) (p := fun i => ∀ (h1 : i < f.2.2.1.length) (h2 : i < g.2.2.1.length), f.2.2.1[i].1 = g.2.2.1[i].1 ∧ RM n m f.2.2.1[i].2.1.toNat g.2.2.1[i].2.1.toNat) (M := fun i => I m n (f.2.2.1.length : Int) (i : Int) f g)
      (fun e => hI _ _ _ _ _ _ (brDn (by omega) ?_)) fun i hi e1 e2 => hI _ _ _ _ _ _ ?_
    · have hc : CallS (RM n m) f.2.2.1 g.2.2.1 := ⟨by omega, fun i h1 h2 => e i h1 h1 h2⟩
      clear hI e I
      constructor
      intro I hI
      refine cmpInd (a := f.2.2.2.1) (b := g.2.2.2.1) (M := fun i => I (f.2.2.2.1.length : Int) (i : Int) f g) (by omega) (fun t2 => hI _ _ _ _ (brDn (by omega) (h1 ⟨s1, t1, t2, hc⟩))) fun i hi e1 e2 => hI _ _ _ _ ?_
      rw [wrapS (by omega)]
      have hno : f.2.2.2.1[i] ≠ g.2.2.2.1[i]'(by omega) → k false := fun h => h2 fun hs => e2 h hs.2.2.1
      refine brD (by omega) (needAt hi (needAt (by omega) ?_))
      have hg : i < g.2.2.2.1.length := by omega
      refine ⟨?_, ?_⟩
      all_goals
        repeat (first
          | refine brT (eqT_self _ _) ?_
          | refine needAt hi ?_
          | refine needAt hg ?_)
        refine brN (fun e => hno fun h => e (by rw [h])) fun u1 => ?_
        refine brB (fun e => hno fun h => ?_) fun u2 => ?_
        · rw [h] at e; simp at e
        refine brN (fun e => hno fun h => e (by rw [h])) fun u3 => ?_
        exact c32_ok (hf4 _ (List.getElem_mem hi)) (fun u4 => e1 (mp_ext u1 (by simpa using u2) u4 u3)) fun e => hno fun h => e (by rw [h])
    · rw [wrapS (by omega)]
      have hn' : ¬ (f.2.2.1[i].1 = (g.2.2.1[i]'(by omega)).1 ∧ RM n m f.2.2.1[i].2.1.toNat (g.2.2.1[i]'(by omega)).2.1.toNat) → k false := fun hh => h2 fun hs => hh (hs.2.2.2.2 i hi (by omega))
      have h3 := ha i hi (Nat.zero_le _)
      have h4 := hb i (by omega) (Nat.zero_le _)
      refine brD (by omega) (needAt hi (needAt (by omega) (brN (fun e => hn' fun hh => e hh.1) fun e => needAt hi (needAt (by omega) ?_))))
      have e3 : (f.2.2.1[i].2.1 : Int) = ((f.2.2.1[i].2.1.toNat : Nat) : Int) := by omega
      have e4 : ((g.2.2.1[i]'(by omega)).2.1 : Int) = (((g.2.2.1[i]'(by omega)).2.1.toNat : Nat) : Int) := by omega
      have hlt := idx (n := n) (i := f.2.2.1[i].2.1.toNat) (j := (g.2.2.1[i]'(by omega)).2.1.toNat) (by omega) (by omega)
      have e5 : IntKind.wrap .i64 (IntKind.wrap .i64 (f.2.2.1[i].2.1 * (n : Int)) + (g.2.2.1[i]'(by omega)).2.1) = ((f.2.2.1[i].2.1.toNat * n + (g.2.2.1[i]'(by omega)).2.1.toNat : Nat) : Int) := by
        rw [← idxI hn (by omega) (by omega), ← e3, ← e4]
      rw [e5]
      refine needAt (by omega) (brB (fun e6 => hn' fun hh => ?_) fun e6 => e1 fun _ _ => ⟨e, by omega, by omega, ?_⟩)
      · have := hh.2.2.2
        rw [List.getElem?_eq_getElem (by omega)] at this
        rw [Option.some.inj this] at e6; cases e6
      · rw [List.getElem?_eq_getElem (by omega)]
        exact congrArg some (by simpa using e6)
  · rw [wrapS (by omega)]
    exact brD (by omega) (needAt hi (needAt (by omega) (brIt (fun h => h2 fun hs => e2 h hs.2.1) fun h => e1 h)))
end Go.Proofs.Ytfdoaacapkopmaa
