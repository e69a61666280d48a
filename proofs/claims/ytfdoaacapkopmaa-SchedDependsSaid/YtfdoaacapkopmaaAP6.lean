/- The law of 'SchedDepends', in plain Lean. -/
import Derived.Test.YtfdoaacapkopmaaAD6
import Derived.Test.YtfdoaacapkopmaaAPKit
set_option linter.unusedVariables false
set_option linter.unusedSimpArgs false
namespace Go.Proofs.Ytfdoaacapkopmaa
open Go.Abs

abbrev O := Int × Int × Int × Int × Int × Unit

/-! ### Check answers something; 0 only for an operation in range -/

theorem c103_all {a b c : Int} {k : Bool → Prop} (h : ∀ z, k z) : c103 a b c k := by
  constructor
  unfold tc103
  exact brA (h _) (h _)
theorem c103_in {a b c : Int} {k : Bool → Prop} (h1 : b ≤ a ∧ a ≤ c → k true) (h2 : k false) : c103 a b c k := by
  constructor
  unfold tc103
  refine brP (fun h => ?_) (fun _ => h2)
  by_cases h' : a ≤ c
  · rw [decide_eq_true h']; exact h1 ⟨h, h'⟩
  · rw [decide_eq_false h']; exact h2
theorem c104_all {a : Int} {k : Bool × Bool × Bool × Bool × Unit → Prop} (h : ∀ z, k z) : c104 a k := by
  constructor
  unfold tc104
  repeat' (first | exact h _ | apply brA)
theorem check_any {x : O} {k : Int → Prop} (h : ∀ e, (e = 0 → 0 ≤ x.1 ∧ x.1 ≤ 24) → k e) : c25 x k := by
  constructor
  unfold tc25
  refine c103_in (fun h0 => ?_) (h 1 fun e => absurd e (by decide))
  have h : ∀ e, k e := fun e => h e fun _ => h0
  simp only [Bool.not_true, br_false]
  repeat' (first | exact h _ | apply brA | (apply c103_all; intro z) | (apply c104_all; intro z))

/-! ### registers -/

theorem ops {n : Int} (h : 0 ≤ n ∧ n ≤ 24) : n = 0 ∨ n = 1 ∨ n = 2 ∨ n = 3 ∨ n = 4 ∨ n = 5 ∨ n = 6 ∨ n = 7 ∨ n = 8 ∨ n = 9 ∨ n = 10 ∨ n = 11 ∨ n = 12 ∨ n = 13 ∨ n = 14 ∨ n = 15 ∨ n = 16 ∨ n = 17 ∨ n = 18 ∨ n = 19 ∨ n = 20 ∨ n = 21 ∨ n = 22 ∨ n = 23 ∨ n = 24 := by omega

def wr (x : O) : Int := br (x.1 == 20 || x.1 == 21) 15 (br (x.1 == 0 || x.1 == 13 || x.1 == 16 || x.1 == 17 || x.1 == 18 || x.1 == 19 || x.1 == 22 || x.1 == 23 || x.1 == 24) 0 x.2.1)
def rd (x : O) : List Int :=
  (br (x.1 == 0) [1] (br (x.1 == 22) [15] (br (x.1 == 1 || x.1 == 2 || x.1 == 3 || x.1 == 4 || x.1 == 5 || x.1 == 6 || x.1 == 7 || x.1 == 13 || x.1 == 15 || x.1 == 16 || x.1 == 17 || x.1 == 18) [x.2.2.1, x.2.2.2.1]
    (br (x.1 == 8 || x.1 == 9 || x.1 == 10 || x.1 == 12 || x.1 == 21 || x.1 == 23) [x.2.2.1] (br (x.1 == 14) [x.2.2.2.1] []))))).filter (· != 0)

theorem c140_ok {l : List Int} {k : List Int → Prop} (hl : l.length ≤ 1000) (h : k (l.filter (· != 0))) : c140 l k := by
  constructor
  unfold tc140
  constructor
  intro I hI
  have key : ∀ n (i : Nat) (a : List Int), n + i = l.length → a.length ≤ i → a ++ (l.drop i).filter (· != 0) = l.filter (· != 0) → I l (l.length : Int) (i : Int) a := by
    intro n
    induction n with
    | zero =>
      intro i a hn ha he
      have hi : i = l.length := by omega
      apply hI
      refine brP (fun h' => by omega) (fun _ => ?_)
      subst hi
      simp at he
      rw [he]; exact h
    | succ n ih =>
      intro i a hn ha he
      have hi : i < l.length := by omega
      apply hI
      refine brP (fun _ => ?_) (fun h' => by omega)
      refine needS (v := l[i]) (by simp [at?, hi]) ?_
      have hw : IntKind.wrap .i64 ((i : Int) + 1) = ((i + 1 : Nat) : Int) := by rw [wrap64 (by omega) (by omega)]; rfl
      rw [hw]
      have hd : l.drop i = l[i] :: l.drop (i + 1) := List.drop_eq_getElem_cons hi
      rw [hd, List.filter_cons] at he
      refine brN (fun h' => brT (roomS (by omega)) (ih _ _ (by omega) (by simp; omega) ?_)) (fun h' => ih _ _ (by omega) (by omega) ?_)
      · rw [if_pos (by simpa using h')] at he
        rw [← he]; simp
      · rw [if_neg (by simpa using h')] at he
        exact he
  exact key l.length 0 [] (by omega) (by simp) (by simp)

theorem c81_ok {x : O} {k : Int → Prop} (h0 : 0 ≤ x.1 ∧ x.1 ≤ 24) (h : k (wr x)) : c81 x k := by
  obtain ⟨o, d, a, b, n, u⟩ := x
  constructor
  rcases ops h0 with e | e | e | e | e | e | e | e | e | e | e | e | e | e | e | e | e | e | e | e | e | e | e | e | e <;> (dsimp only at e; subst e; exact h)
theorem c83_ok {x : O} {k : List Int → Prop} (h0 : 0 ≤ x.1 ∧ x.1 ≤ 24) (h : k (rd x)) : c83 x k := by
  obtain ⟨o, d, a, b, n, u⟩ := x
  constructor
  rcases ops h0 with e | e | e | e | e | e | e | e | e | e | e | e | e | e | e | e | e | e | e | e | e | e | e | e | e <;> (dsimp only at e; subst e; first | exact h | exact c140_ok (by simp) h)
theorem in_ok {a b c : Int} {k : Bool → Prop} (h1 : b ≤ a ∧ a ≤ c) (h : k true) : c139 a b c k := by
  constructor
  unfold tc139
  refine brP (fun _ => ?_) (fun h' => absurd h1.1 h')
  rw [decide_eq_true h1.2]; exact h
theorem c102_ok {s : List UInt8} {c : Int} {k : Bool → Prop} (hl : s.length ≤ 1000) (h : k (s.any fun b => (b.toNat : Int) == c)) : c102 s c k := by
  constructor
  unfold tc102
  constructor
  intro I hI
  have key : ∀ n (i : Nat), n + i = s.length → ((s.drop i).any fun b => (b.toNat : Int) == c) = (s.any fun b => (b.toNat : Int) == c) → I s c (s.length : Int) (i : Int) := by
    intro n
    induction n with
    | zero =>
      intro i hn he
      have hi : i = s.length := by omega
      apply hI
      refine brP (fun h' => by omega) (fun _ => ?_)
      subst hi
      simp only [List.drop_length, List.any_nil] at he
      rw [he]; exact h
    | succ n ih =>
      intro i hn he
      have hi : i < s.length := by omega
      apply hI
      refine brP (fun _ => ?_) (fun h' => by omega)
      refine needS (v := s[i]) (by simp [at?, hi]) ?_
      have hw : IntKind.wrap .i64 ((i : Int) + 1) = ((i + 1 : Nat) : Int) := by rw [wrap64 (by omega) (by omega)]; rfl
      rw [hw]
      have hd : s.drop i = s[i] :: s.drop (i + 1) := List.drop_eq_getElem_cons hi
      rw [hd, List.any_cons] at he
      cases hb : ((s[i].toNat : Int) == c) with
      | true =>
        refine brT rfl ?_
        rw [hb, Bool.true_or] at he
        rw [he]; exact h
      | false =>
        refine brF rfl (ih _ (by omega) ?_)
        rw [hb, Bool.false_or] at he
        exact he
  exact key s.length 0 (by omega) (by simp)
theorem c82_ok {x : O} {k : Int → Prop} (h0 : 0 ≤ x.1 ∧ x.1 ≤ 24) (h : k (wr x)) : c82 x k := by
  obtain ⟨o, d, a, b, n, u⟩ := x
  constructor
  have h1 := h0
  rcases ops h0 with e | e | e | e | e | e | e | e | e | e | e | e | e | e | e | e | e | e | e | e | e | e | e | e | e <;>
    (dsimp only at e; subst e; first
      | exact h
      | (refine in_ok h1 ?_; refine ⟨?_⟩; refine brT (eqT_self _ _) ?_; refine brT rfl ?_; refine needS (v := _) rfl ?_; refine c102_ok (by simp) ?_; first
        | exact h
        | (refine in_ok h1 ?_; exact h)))

theorem c84_loop {x : O} {l : List Int} {k : List Int → Prop} (hl : l.length ≤ 1000) {g : Int → Int} (hg : ∀ c ∈ l, (c = 65 ∧ g c = x.2.2.1) ∨ (c = 66 ∧ g c = x.2.2.2.1) ∨ (c = 70 ∧ g c = 15) ∨ (c ≠ 65 ∧ c ≠ 66 ∧ c ≠ 70 ∧ g c = 1))
    (h : k ((l.map g).filter (· != 0))) : l84r6 k l (l.length : Int) 0 x [] := by
  constructor
  intro I hI
  have key : ∀ n (i : Nat) (a : List Int), n + i = l.length → a.length ≤ i → a ++ ((l.drop i).map g).filter (· != 0) = (l.map g).filter (· != 0) → I l (l.length : Int) (i : Int) x a := by
    intro n
    induction n with
    | zero =>
      intro i a hn ha he
      have hi : i = l.length := by omega
      apply hI
      refine brP (fun h' => by omega) (fun _ => ?_)
      subst hi
      simp at he
      rw [he]; simpa using h
    | succ n ih =>
      intro i a hn ha he
      have hi : i < l.length := by omega
      apply hI
      refine brP (fun _ => ?_) (fun h' => by omega)
      refine needS (v := l[i]) (by simp [at?, hi]) ?_
      have hw : IntKind.wrap .i64 ((i : Int) + 1) = ((i + 1 : Nat) : Int) := by rw [wrap64 (by omega) (by omega)]; rfl
      rw [hw]
      have hd : l.drop i = l[i] :: l.drop (i + 1) := List.drop_eq_getElem_cons hi
      rw [hd, List.map_cons, List.filter_cons] at he
      have hr : roomB (a.length + 1) 8 = true := roomS (by omega)
      rcases hg l[i] (List.getElem_mem hi) with ⟨h1, h2⟩ | ⟨h1, h2⟩ | ⟨h1, h2⟩ | ⟨h1, h2, h3, h4⟩
      · refine brT (by simp [h1]) (brN (fun h' => brT hr (ih _ _ (by omega) (by simp; omega) ?_)) (fun h' => ih _ _ (by omega) (by omega) ?_))
        · rw [h2, if_pos (by simpa using h')] at he; rw [← he]; simp
        · rw [h2, if_neg (by simpa using h')] at he; exact he
      · refine brF (by simp [h1]) (brT (by simp [h1]) (brN (fun h' => brT hr (ih _ _ (by omega) (by simp; omega) ?_)) (fun h' => ih _ _ (by omega) (by omega) ?_)))
        · rw [h2, if_pos (by simpa using h')] at he; rw [← he]; simp
        · rw [h2, if_neg (by simpa using h')] at he; exact he
      · refine brF (by simp [h1]) (brF (by simp [h1]) (brT (by simp [h1]) (brT hr (ih _ _ (by omega) (by simp; omega) ?_))))
        rw [h2, if_pos (by decide)] at he; rw [← he]; simp
      · refine brF (by simpa using h1) (brF (by simpa using h2) (brF (by simpa using h3) (brT hr (ih _ _ (by omega) (by simp; omega) ?_))))
        rw [h4, if_pos (by decide)] at he; rw [← he]; simp
  exact key l.length 0 [] (by omega) (by simp) (by simp)

def letter (x : O) (c : Int) : Int := if c = 65 then x.2.2.1 else if c = 66 then x.2.2.2.1 else if c = 70 then 15 else 1
theorem letter_ok (x : O) (c : Int) : (c = 65 ∧ letter x c = x.2.2.1) ∨ (c = 66 ∧ letter x c = x.2.2.2.1) ∨ (c = 70 ∧ letter x c = 15) ∨ (c ≠ 65 ∧ c ≠ 66 ∧ c ≠ 70 ∧ letter x c = 1) := by
  unfold letter
  by_cases h1 : c = 65
  · simp [h1]
  · by_cases h2 : c = 66
    · simp [h2]
    · by_cases h3 : c = 70
      · simp [h3]
      · simp [h1, h2, h3]
/-! ### Depends, Follows -/

theorem l36r7_ok {k1 k2 s1 s2} {a b : O} {l : List Int} (hl : l.length ≤ 1000) (h : br (l.contains s1) (k1 true) (k2 s2 a b)) : l36r7 k1 k2 s1 s2 (l.length : Int) 0 a b l := by
  constructor
  intro I hI
  have key : ∀ n (i : Nat), n + i = l.length → (l.drop i).contains s1 = l.contains s1 → I s1 s2 (l.length : Int) (i : Int) a b l := by
    intro n
    induction n with
    | zero =>
      intro i hn he
      have hi : i = l.length := by omega
      apply hI
      refine brP (fun h' => by omega) (fun _ => ?_)
      subst hi
      simp only [List.drop_length, List.contains_nil] at he
      rw [← he] at h; exact h
    | succ n ih =>
      intro i hn he
      have hi : i < l.length := by omega
      apply hI
      refine brP (fun _ => ?_) (fun h' => by omega)
      refine brP (fun _ => ?_) (fun h' => by omega)
      refine needS (v := l[i]) (by simp [hi]) ?_
      have hw : IntKind.wrap .i64 ((i : Int) + 1) = ((i + 1 : Nat) : Int) := by rw [wrap64 (by omega) (by omega)]; rfl
      rw [hw]
      have hd : l.drop i = l[i] :: l.drop (i + 1) := List.drop_eq_getElem_cons hi
      rw [hd, List.contains_cons] at he
      refine brE (fun h' => ?_) (fun h' => ih _ (by omega) ?_)
      · rw [show (s1 == l[i]) = true by simp [h'], Bool.true_or] at he
        rw [← he] at h; exact h
      · rw [show (s1 == l[i]) = false by simpa using fun e => h' e.symm, Bool.false_or] at he
        exact he
  exact key l.length 0 (by omega) (by simp)
theorem l36r13_ok {k1 k2 s1} {a b : O} {l : List Int} (hl : l.length ≤ 1000) (h : br (l.contains s1) (k1 true) (k2 a b)) : l36r13 k1 k2 s1 (l.length : Int) 0 a b l := by
  constructor
  intro I hI
  have key : ∀ n (i : Nat), n + i = l.length → (l.drop i).contains s1 = l.contains s1 → I s1 (l.length : Int) (i : Int) a b l := by
    intro n
    induction n with
    | zero =>
      intro i hn he
      have hi : i = l.length := by omega
      apply hI
      refine brP (fun h' => by omega) (fun _ => ?_)
      subst hi
      simp only [List.drop_length, List.contains_nil] at he
      rw [← he] at h; exact h
    | succ n ih =>
      intro i hn he
      have hi : i < l.length := by omega
      apply hI
      refine brP (fun _ => ?_) (fun h' => by omega)
      refine brP (fun _ => ?_) (fun h' => by omega)
      refine needS (v := l[i]) (by simp [hi]) ?_
      have hw : IntKind.wrap .i64 ((i : Int) + 1) = ((i + 1 : Nat) : Int) := by rw [wrap64 (by omega) (by omega)]; rfl
      rw [hw]
      have hd : l.drop i = l[i] :: l.drop (i + 1) := List.drop_eq_getElem_cons hi
      rw [hd, List.contains_cons] at he
      refine brE (fun h' => ?_) (fun h' => ih _ (by omega) ?_)
      · rw [show (s1 == l[i]) = true by simp [h'], Bool.true_or] at he
        rw [← he] at h; exact h
      · rw [show (s1 == l[i]) = false by simpa using fun e => h' e.symm, Bool.false_or] at he
        exact he
  exact key l.length 0 (by omega) (by simp)
theorem l109r3_ok {k1 : Bool → Prop} {k2 : Prop} {s1} {l : List Int} (hl : l.length ≤ 1000) (h : br (s1 != 0 && l.contains s1) (k1 true) k2) : l109r3 k1 k2 s1 (l.length : Int) 0 l := by
  constructor
  intro I hI
  have key : ∀ n (i : Nat), n + i = l.length → (s1 != 0 && (l.drop i).contains s1) = (s1 != 0 && l.contains s1) → I s1 (l.length : Int) (i : Int) l := by
    intro n
    induction n with
    | zero =>
      intro i hn he
      have hi : i = l.length := by omega
      apply hI
      refine brP (fun h' => by omega) (fun _ => ?_)
      subst hi
      simp only [List.drop_length, List.contains_nil, Bool.and_false] at he
      rw [← he] at h; exact h
    | succ n ih =>
      intro i hn he
      have hi : i < l.length := by omega
      apply hI
      refine brP (fun _ => ?_) (fun h' => by omega)
      refine brP (fun _ => ?_) (fun h' => by omega)
      refine needS (v := l[i]) (by simp [hi]) ?_
      have hw : IntKind.wrap .i64 ((i : Int) + 1) = ((i + 1 : Nat) : Int) := by rw [wrap64 (by omega) (by omega)]; rfl
      rw [hw]
      have hd : l.drop i = l[i] :: l.drop (i + 1) := List.drop_eq_getElem_cons hi
      rw [hd, List.contains_cons] at he
      refine brN (fun h0 => ?_) (fun h0 => ih _ (by omega) ?_)
      · refine brE (fun h' => ?_) (fun h' => ih _ (by omega) ?_)
        · rw [show (s1 == l[i]) = true by simp [h'], Bool.true_or, Bool.and_true, show (s1 != 0) = true by simpa using h0] at he
          rw [Bool.true_and] at he
          rw [show (s1 != 0) = true by simpa using h0, Bool.true_and, ← he] at h; exact h
        · rw [show (s1 == l[i]) = false by simpa using fun e => h' e.symm, Bool.false_or] at he
          exact he
      · simp [h0]
  exact key l.length 0 (by omega) (by simp)

def bar (x : O) : Bool := x.1 == 14 || x.1 == 15 || x.1 == 23 || x.1 == 4 || x.1 == 5
def mm (x : O) : Bool := x.1 == 12 || x.1 == 13
theorem c107_ok {x : O} {k : Bool → Prop} (h : k (bar x)) : c107 x.1 k := by
  constructor
  unfold tc107
  unfold bar at h
  refine brI.2 ⟨fun e => ?_, fun e => brI.2 ⟨fun e1 => ?_, fun e1 => brI.2 ⟨fun e2 => ?_, fun e2 => brI.2 ⟨fun e3 => ?_, fun e3 => ?_⟩⟩⟩⟩ <;> simpa only [*, Bool.true_or, Bool.false_or] using h
theorem c108_ok {x : O} {k : Bool → Prop} (h : k (mm x)) : c108 x.1 k := by
  constructor
  unfold tc108
  unfold mm at h
  refine brI.2 ⟨fun e => ?_, fun e => ?_⟩ <;> simpa only [*, Bool.true_or, Bool.false_or] using h

def dep (x y : O) : Bool := bar x || bar y || (wr x != 0 && wr x == wr y) || (rd y).contains (wr x) || (rd x).contains (wr y) || (mm x && mm y)
end Go.Proofs.Ytfdoaacapkopmaa
