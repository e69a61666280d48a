/- The law of 'LinkMerges', in plain Lean: the checks. -/
import Derived.Test.YtfdoaacapkopmaaAD10
import Derived.Test.YtfdoaacapkopmaaAPKit2
import Derived.Test.YtfdoaacapkopmaaARow1
set_option linter.unusedVariables false
set_option linter.unusedSimpArgs false
namespace Go.Proofs.Ytfdoaacapkopmaa
open Go.Abs
abbrev O := Int × Int × Int × Int × Int × Unit

def use (op : Int) : Bool × Bool × Bool × Bool × Unit :=
  br ((op : Int) == 0)
  (false, false, false, false, ())
  (br ((op : Int) == 22)
   (false, false, false, false, ())
   (br ((op : Int) == 1)
    (true, true, true, false, ())
    (br ((op : Int) == 2)
     (true, true, true, false, ())
     (br ((op : Int) == 3)
      (true, true, true, false, ())
      (br ((op : Int) == 4)
       (true, true, true, false, ())
       (br ((op : Int) == 5)
        (true, true, true, false, ())
        (br ((op : Int) == 6)
         (true, true, true, false, ())
         (br ((op : Int) == 7)
          (true, true, true, false, ())
          (br ((op : Int) == 15)
           (true, true, true, false, ())
           (br ((op : Int) == 8)
            (true, true, false, true, ())
            (br ((op : Int) == 9)
             (true, true, false, true, ())
             (br ((op : Int) == 10)
              (true, true, false, true, ())
              (br ((op : Int) == 12)
               (true, true, false, true, ())
               (br ((op : Int) == 11)
                (true, false, false, true, ())
                (br ((op : Int) == 13)
                 (false, true, true, true, ())
                 (br ((op : Int) == 16)
                  (false, true, true, true, ())
                  (br ((op : Int) == 17)
                   (false, true, true, true, ())
                   (br ((op : Int) == 18)
                    (false, true, true, true, ())
                    (br ((op : Int) == 14)
                     (true, false, true, true, ())
                     (br ((op : Int) == 19)
                      (false, false, false, true, ())
                      (br ((op : Int) == 20)
                       (false, false, false, true, ())
                       (br ((op : Int) == 24)
                        (false, false, false, true, ())
                        (false, true, false, false, ())))))))))))))))))))))))

theorem c104_ok {op : Int} {k : Bool × Bool × Bool × Bool × Unit → Prop} (h : k (use op)) : c104 op k := by
  constructor
  unfold tc104
  simp only [br_push]
  exact h
def rng (a b c : Int) : Bool := decide (b ≤ a ∧ a ≤ c)
theorem c103_ok {a b c : Int} {k : Bool → Prop} (h : k (rng a b c)) : c103 a b c k := by
  constructor
  unfold tc103
  unfold rng at h
  refine brP (fun h1 => ?_) (fun h1 => ?_)
  · have e : decide (a ≤ c) = decide (b ≤ a ∧ a ≤ c) := by
      rw [decide_eq_decide]; exact ⟨fun x => ⟨h1, x⟩, fun x => x.2⟩
    rw [e]; exact h
  · have e : decide (b ≤ a ∧ a ≤ c) = false := decide_eq_false fun x => h1 x.1
    rw [← e]; exact h

def tail (op n : Int) : Int :=
  br (op == 9 || op == 10) (br (rng n 0 31) 0 4) (br (op == 14) (br (rng n 0 4095) 0 4) (br (op == 24) (br (rng n 1 6) 0 4) 0))
def form (x : O) : Bool := (!(use x.1).1 && x.2.1 != 0) || (!(use x.1).2.1 && x.2.2.1 != 0) || (!(use x.1).2.2.1 && x.2.2.2.1 != 0) || (!(use x.1).2.2.2.1 && x.2.2.2.2.1 != 0)
def regs (x : O) : Bool := rng x.2.1 0 15 && rng x.2.2.1 0 15 && rng x.2.2.2.1 0 15
def err (x : O) : Int :=
  br (rng x.1 0 24) (br (regs x && rng x.2.2.2.2.1 (-2147483648) 2147483647) (br (form x) 3 (tail x.1 x.2.2.2.2.1)) 4) 1

theorem tail_ok {op n : Int} {k : Int → Prop} (h : k (tail op n)) :
    br (op == 9) (c103 n 0 31 (fun z => br (!z) (k 4) (br (op == 14) (c103 n 0 4095 (fun z => br (!z) (k 4) (br (op == 24) (c103 n 1 6 (fun z => br (!z) (k 4) (k 0))) (k 0)))) (br (op == 24) (c103 n 1 6 (fun z => br (!z) (k 4) (k 0))) (k 0)))))
      (br (op == 10) (c103 n 0 31 (fun z => br (!z) (k 4) (br (op == 14) (c103 n 0 4095 (fun z => br (!z) (k 4) (br (op == 24) (c103 n 1 6 (fun z => br (!z) (k 4) (k 0))) (k 0)))) (br (op == 24) (c103 n 1 6 (fun z => br (!z) (k 4) (k 0))) (k 0)))))
        (br (op == 14) (c103 n 0 4095 (fun z => br (!z) (k 4) (br (op == 24) (c103 n 1 6 (fun z => br (!z) (k 4) (k 0))) (k 0)))) (br (op == 24) (c103 n 1 6 (fun z => br (!z) (k 4) (k 0))) (k 0)))) := by
  unfold tail at h
  refine brE (fun e => ?_) (fun e9 => brE (fun e => ?_) (fun e10 => brE (fun e => ?_) (fun e14 => brE (fun e => ?_) (fun e24 => ?_))))
  · subst e
    refine c103_ok ?_
    cases hr : rng n 0 31 with
    | true => rw [hr] at h; exact h
    | false => rw [hr] at h; exact h
  · subst e
    refine c103_ok ?_
    cases hr : rng n 0 31 with
    | true => rw [hr] at h; exact h
    | false => rw [hr] at h; exact h
  · subst e
    refine c103_ok ?_
    cases hr : rng n 0 4095 with
    | true => rw [hr] at h; exact h
    | false => rw [hr] at h; exact h
  · subst e
    refine c103_ok ?_
    cases hr : rng n 1 6 with
    | true => rw [hr] at h; exact h
    | false => rw [hr] at h; exact h
  · rw [show (op == 9 || op == 10) = false by simp [e9, e10], show (op == 14) = false by simp [e14], show (op == 24) = false by simp [e24]] at h
    exact h

theorem c25_ok {x : O} {k : Int → Prop} (h : k (err x)) : c25 x k := by
  constructor
  unfold tc25
  unfold err regs form at h
  refine c103_ok ?_
  cases h0 : rng x.1 0 24 with
  | false => rw [h0] at h; exact h
  | true =>
  rw [h0] at h
  refine c103_ok ?_
  cases h1 : rng x.2.1 0 15 with
  | false => rw [h1] at h; exact h
  | true =>
  rw [h1] at h
  refine c103_ok ?_
  cases h2 : rng x.2.2.1 0 15 with
  | false => rw [h2] at h; exact h
  | true =>
  rw [h2] at h
  refine c103_ok ?_
  cases h3 : rng x.2.2.2.1 0 15 with
  | false => rw [h3] at h; exact h
  | true =>
  rw [h3] at h
  refine c103_ok ?_
  cases h4 : rng x.2.2.2.2.1 (-2147483648) 2147483647 with
  | false => rw [h4] at h; exact h
  | true =>
  rw [h4] at h
  refine c104_ok ?_
  revert h
  generalize use x.1 = u
  obtain ⟨u1, u2, u3, u4, _⟩ := u
  intro h
  cases u1 <;> cases u2 <;> cases u3 <;> cases u4 <;>
    (simp only [Bool.not_true, Bool.not_false, br_true, br_false, Bool.true_and, Bool.false_and, Bool.and_self, Bool.or_false, Bool.false_or] at h ⊢)
  all_goals
    repeat' (first
      | exact tail_ok h
      | exact h
      | (refine brI.2 ⟨fun e => ?_, fun e => ?_⟩ <;> simp only [e, Bool.true_or, Bool.or_true, Bool.false_or, Bool.or_false, br_true, br_false] at h))

/- The law of 'InsnSays', in plain Lean: the reference's errors. -/

theorem rng_iff {a b c : Int} : rng a b c = true ↔ b ≤ a ∧ a ≤ c := by unfold rng; exact decide_eq_true_iff
theorem c26_ok {n : Int} {k : Bool → Prop} (h : k (rng n 16 20)) : c26 n k := by
  constructor
  unfold tc26
  refine brE (fun e => ?_) (fun e => brE (fun e => ?_) (fun e => brE (fun e => ?_) (fun e => brE (fun e => ?_) (fun e => ?_))))
  · subst e; exact h
  · subst e; exact h
  · subst e; exact h
  · subst e; exact h
  · have e' : (n == 20) = rng n 16 20 := by
      rw [Bool.eq_iff_iff, beq_iff_eq, rng_iff]; omega
    rw [e']; exact h


abbrev IT := O × Int × Unit
abbrev CL := Int × Int × Unit
abbrev MP := Int × Bool × List Int × Int × Unit
abbrev LF := Int × List IT × List CL × List MP × Int × Unit

/-- one answer on every road -/
def Ex {P : Type} (sel : P → Int → Prop) (Q : Int → Prop) (F : P → Prop) : Prop := ∃ e, Q e ∧ ∀ p, sel p e → F p
theorem ex_ret {P : Type} {sel : P → Int → Prop} {Q : Int → Prop} (v : Int) (h : Q v) : Ex sel Q (fun p => sel p v) := ⟨v, h, fun _ h => h⟩
theorem ex_br {P : Type} {sel : P → Int → Prop} {Q : Int → Prop} {F G : P → Prop} {b : Bool} (h1 : b = true → Ex sel Q F) (h2 : b = false → Ex sel Q G) : Ex sel Q (fun p => br b (F p) (G p)) := by
  cases b
  · exact h2 rfl
  · exact h1 rfl
theorem ex_d {P : Type} {sel : P → Int → Prop} {Q : Int → Prop} {F G : P → Prop} {c : Prop} [Decidable c] (h1 : c → Ex sel Q F) (h2 : ¬c → Ex sel Q G) : Ex sel Q (fun p => br (decide c) (F p) (G p)) :=
  ex_br (fun h => h1 (of_decide_eq_true h)) (fun h => h2 (of_decide_eq_false h))
theorem ex_n {P : Type} {sel : P → Int → Prop} {Q : Int → Prop} {F G : P → Prop} {a b : Int} (h1 : a ≠ b → Ex sel Q F) (h2 : a = b → Ex sel Q G) : Ex sel Q (fun p => br (a != b) (F p) (G p)) :=
  ex_br (fun h => h1 (by simpa using h)) (fun h => h2 (by simpa using h))
theorem ex_need {P : Type} {sel : P → Int → Prop} {Q : Int → Prop} {α : Type} {o : Option α} {F : P → α → Prop} {v : α} (ho : o = some v) (h : Ex sel Q (fun p => F p v)) : Ex sel Q (fun p => need False o (fun y => F p y)) := by
  subst ho; exact h
theorem ex_w {P : Type} {sel : P → Int → Prop} {Q : Int → Prop} {F G : P → Prop} (hw : ∀ p, G p → F p) (h : Ex sel Q G) : Ex sel Q F := by
  obtain ⟨e, h1, h2⟩ := h
  exact ⟨e, h1, fun p hp => hw p (h2 p hp)⟩
theorem ex_m {P : Type} {sel : P → Int → Prop} {Q R : Int → Prop} {F : P → Prop} (hw : ∀ e, Q e → R e) (h : Ex sel Q F) : Ex sel R F := by
  obtain ⟨e, h1, h2⟩ := h
  exact ⟨e, hw e h1, h2⟩
theorem ex_25 {P : Type} {sel : P → Int → Prop} {Q : Int → Prop} {x : O} {F : P → Int → Prop} (h : Ex sel Q (fun p => F p (err x))) : Ex sel Q (fun p => c25 x (fun z => F p z)) := by
  obtain ⟨e, h1, h2⟩ := h
  exact ⟨e, h1, fun p hp => c25_ok (h2 p hp)⟩
theorem ex_26 {P : Type} {sel : P → Int → Prop} {Q : Int → Prop} {x : Int} {F : P → Bool → Prop} (h : Ex sel Q (fun p => F p (rng x 16 20))) : Ex sel Q (fun p => c26 x (fun z => F p z)) := by
  obtain ⟨e, h1, h2⟩ := h
  exact ⟨e, h1, fun p hp => c26_ok (h2 p hp)⟩
theorem at?_some {α : Type} {l : List α} {i : Nat} (h : i < l.length) : at? l (i : Int) = some l[i] := by rw [at?_nat, List.getElem?_eq_getElem h]

def NZ (Q : Int → Prop) : Prop := ∀ e, e ≠ 0 → Q e
def b50r4 (k1 : Int → Prop) (k2 : Prop) (I1 : (List ((Int × Int × Int × Int × Int × Unit) × Int × Unit)) → (List ((Int × Int × Int × Int × Int × Unit) × Int × Unit)) → Int → Int → Prop) : Prop := ∀ (s1 : List ((Int × Int × Int × Int × Int × Unit) × Int × Unit)) (s2 : List ((Int × Int × Int × Int × Int × Unit) × Int × Unit)) (s3 : Int) (s4 : Int), (br (decide ((s4 : Int) < s3))
    (need False (at? s2 s4) fun y5 =>
     br (decide ((y5.2.1 : Int) ≥ 0))
      (c25 (y5.1.1, y5.1.2.1, y5.1.2.2.1, y5.1.2.2.2.1, 0, y5.1.2.2.2.2.2)
       (fun z6 => br ((z6 : Int) != 0)
        (k1 z6)
        (br (decide ((y5.2.1 : Int) < (-1)))
         (k1 4)
         (br (decide ((y5.2.1 : Int) > (((List.length s1) : Nat) : Int)))
          (k1 4)
          (br (decide ((y5.2.1 : Int) ≥ 0))
           (c26 y5.1.1
            (fun z7 => br (!z7)
             (k1 3)
             (br ((y5.1.2.2.2.2.1 : Int) != 0)
              (k1 3)
              (I1 s1 s2 s3 (IntKind.wrap .i64 (s4 + 1))))))
           (I1 s1 s2 s3 (IntKind.wrap .i64 (s4 + 1))))))))
      (c25 y5.1
       (fun z8 => br ((z8 : Int) != 0)
        (k1 z8)
        (br (decide ((y5.2.1 : Int) < (-1)))
         (k1 4)
         (br (decide ((y5.2.1 : Int) > (((List.length s1) : Nat) : Int)))
          (k1 4)
          (br (decide ((y5.2.1 : Int) ≥ 0))
           (c26 y5.1.1
            (fun z9 => br (!z9)
             (k1 3)
             (br ((y5.1.2.2.2.2.1 : Int) != 0)
              (k1 3)
              (I1 s1 s2 s3 (IntKind.wrap .i64 (s4 + 1))))))
           (I1 s1 s2 s3 (IntKind.wrap .i64 (s4 + 1)))))))))
    (k2)) → I1 s1 s2 s3 s4

def b120r2 (k1 : Int → Prop) (k2 : Int → (Int × (List ((Int × Int × Int × Int × Int × Unit) × Int × Unit)) × (List (Int × Int × Unit)) × (List (Int × Bool × (List Int) × Int × Unit)) × Int × Unit) → Prop) (I1 : Int → (List ((Int × Int × Int × Int × Int × Unit) × Int × Unit)) → Int → Int → (Int × (List ((Int × Int × Int × Int × Int × Unit) × Int × Unit)) × (List (Int × Int × Unit)) × (List (Int × Bool × (List Int) × Int × Unit)) × Int × Unit) → Prop) : Prop := ∀ (s1 : Int) (s2 : List ((Int × Int × Int × Int × Int × Unit) × Int × Unit)) (s3 : Int) (s4 : Int) (s5 : Int × (List ((Int × Int × Int × Int × Int × Unit) × Int × Unit)) × (List (Int × Int × Unit)) × (List (Int × Bool × (List Int) × Int × Unit)) × Int × Unit), (br (decide ((s4 : Int) < s3))
    (need False (at? s2 s4) fun y6 =>
     br ((y6.2.1 : Int) == (((List.length s5.2.1) : Nat) : Int))
      (k1 4)
      (I1 s1 s2 s3 (IntKind.wrap .i64 (s4 + 1)) s5))
    (k2 s1 s5)) → I1 s1 s2 s3 s4 s5

def b120r9 (k1 : Int → Prop) (k2 : (Int × (List ((Int × Int × Int × Int × Int × Unit) × Int × Unit)) × (List (Int × Int × Unit)) × (List (Int × Bool × (List Int) × Int × Unit)) × Int × Unit) → Prop) (I1 : Int → Int → (List (Int × Int × Unit)) → Int → Int → (Int × (List ((Int × Int × Int × Int × Int × Unit) × Int × Unit)) × (List (Int × Int × Unit)) × (List (Int × Bool × (List Int) × Int × Unit)) × Int × Unit) → Prop) : Prop := ∀ (s1 : Int) (s2 : Int) (s3 : List (Int × Int × Unit)) (s4 : Int) (s5 : Int) (s6 : Int × (List ((Int × Int × Int × Int × Int × Unit) × Int × Unit)) × (List (Int × Int × Unit)) × (List (Int × Bool × (List Int) × Int × Unit)) × Int × Unit), (br (decide ((s5 : Int) < s4))
    (need False (at? s3 s5) fun y7 =>
     br (decide ((y7.1 : Int) ≤ s2))
      (k1 4)
      (br (decide ((y7.1 : Int) ≥ (((List.length s6.2.1) : Nat) : Int)))
       (k1 4)
       (br (decide ((y7.2.1 : Int) < 0))
        (k1 4)
        (br (decide ((y7.2.1 : Int) ≥ s1))
         (k1 4)
         (need False (at? s6.2.1 y7.1) fun y8 =>
          br ((y8.1.1 : Int) != 20)
           (br ((y8.1.1 : Int) != 11)
            (k1 3)
            (br (decide ((y8.2.1 : Int) ≥ 0))
             (k1 3)
             (br ((y8.1.2.2.2.2.1 : Int) != 0)
              (k1 3)
              (I1 s1 y7.1 s3 s4 (IntKind.wrap .i64 (s5 + 1)) s6))))
           (br (decide ((y8.2.1 : Int) ≥ 0))
            (k1 3)
            (br ((y8.1.2.2.2.2.1 : Int) != 0)
             (k1 3)
             (I1 s1 y7.1 s3 s4 (IntKind.wrap .i64 (s5 + 1)) s6))))))))
    (k2 s6)) → I1 s1 s2 s3 s4 s5 s6

def b120r20 (k1 : Int → Prop) (k2 : Prop) (I1 : Int → (List (Int × Bool × (List Int) × Int × Unit)) → Int → Int → (Int × (List ((Int × Int × Int × Int × Int × Unit) × Int × Unit)) × (List (Int × Int × Unit)) × (List (Int × Bool × (List Int) × Int × Unit)) × Int × Unit) → Prop) : Prop := ∀ (s1 : Int) (s2 : List (Int × Bool × (List Int) × Int × Unit)) (s3 : Int) (s4 : Int) (s5 : Int × (List ((Int × Int × Int × Int × Int × Unit) × Int × Unit)) × (List (Int × Int × Unit)) × (List (Int × Bool × (List Int) × Int × Unit)) × Int × Unit), (br (decide ((s4 : Int) < s3))
    (need False (at? s2 s4) fun y6 =>
     br (decide ((y6.1 : Int) ≤ s1))
      (k1 4)
      (br (decide ((y6.1 : Int) ≥ (((List.length s5.2.1) : Nat) : Int)))
       (k1 4)
       (br (y6.2.1)
        (br (decide (((IntKind.wrap .i64 (y6.1 + 1)) : Int) ≥ (((List.length s5.2.1) : Nat) : Int)))
         (k1 4)
         (I1 y6.1 s2 s3 (IntKind.wrap .i64 (s4 + 1)) s5))
        (I1 y6.1 s2 s3 (IntKind.wrap .i64 (s4 + 1)) s5))))
    (k2)) → I1 s1 s2 s3 s4 s5

def b56r4 (k1 : Int → Prop) (k2 : Prop) (I1 : (List (Int × (List ((Int × Int × Int × Int × Int × Unit) × Int × Unit)) × (List (Int × Int × Unit)) × (List (Int × Bool × (List Int) × Int × Unit)) × Int × Unit)) → (List (Int × (List ((Int × Int × Int × Int × Int × Unit) × Int × Unit)) × (List (Int × Int × Unit)) × (List (Int × Bool × (List Int) × Int × Unit)) × Int × Unit)) → Int → Int → Prop) : Prop := ∀ (s1 : List (Int × (List ((Int × Int × Int × Int × Int × Unit) × Int × Unit)) × (List (Int × Int × Unit)) × (List (Int × Bool × (List Int) × Int × Unit)) × Int × Unit)) (s2 : List (Int × (List ((Int × Int × Int × Int × Int × Unit) × Int × Unit)) × (List (Int × Int × Unit)) × (List (Int × Bool × (List Int) × Int × Unit)) × Int × Unit)) (s3 : Int) (s4 : Int), (br (decide ((s4 : Int) < s3))
    (need False (at? s2 s4) fun y5 =>
     c50 y5.2.1
      (fun z6 => br ((z6 : Int) != 0)
       (k1 z6)
       (br (((((List.length y5.2.1) : Nat) : Int) : Int) == 0)
        (k1 4)
        (br (decide ((y5.2.2.2.2.1 : Int) < 1))
         (k1 4)
         (br (decide ((y5.2.2.2.2.1 : Int) > 4096))
          (k1 4)
          (c120 y5 (((List.length s1) : Nat) : Int)
           (fun z7 => br ((z7 : Int) != 0)
            (k1 z7)
            (I1 s1 s2 s3 (IntKind.wrap .i64 (s4 + 1))))))))))
    (k2)) → I1 s1 s2 s3 s4

theorem ex_l50 {P : Type} {sel : P → Int → Prop} {Q : Int → Prop} {K : P → Prop} {l : List IT} (hl : l.length ≤ 16384) (hQ : NZ Q) (hK : Ex sel Q K) :
    Ex sel Q (fun p => l50r4 (sel p) (K p) l l (l.length : Int) 0) := by
  have key : ∀ i, i ≤ l.length → Ex (P := Σ p : P, {I // b50r4 (sel p) (K p) I}) (fun q => sel q.1) Q (fun q => q.2.1 l l (l.length : Int) (i : Int)) := by
    refine upInd ?_ ?_
    · refine ex_w (fun q h => q.2.2 _ _ _ _ h) (ex_d (fun h => absurd h (by omega)) fun _ => ?_)
      obtain ⟨e, h1, h2⟩ := hK
      exact ⟨e, h1, fun q hq => h2 q.1 hq⟩
    · intro i hi ih
      refine ex_w (fun q h => q.2.2 _ _ _ _ h) (ex_d (fun _ => ex_need (at?_some hi) ?_) fun h => absurd (by omega) h)
      rw [wrapS (by omega)]
      refine ex_d (fun h => ex_25 (ex_n (fun h => ex_ret _ (hQ _ h)) fun h => ex_d (fun h => ex_ret _ (hQ _ (by decide))) fun h => ex_d (fun h => ex_ret _ (hQ _ (by decide))) fun h => ex_d (fun h => ex_26 (ex_br (fun h => ex_ret _ (hQ _ (by decide))) fun h => ex_n (fun h => ex_ret _ (hQ _ (by decide))) fun h => ih)) fun h => ih)) (fun h => ex_25 (ex_n (fun h => ex_ret _ (hQ _ h)) fun h => ex_d (fun h => ex_ret _ (hQ _ (by decide))) fun h => ex_d (fun h => ex_ret _ (hQ _ (by decide))) fun h => ex_d (fun h => ex_26 (ex_br (fun h => ex_ret _ (hQ _ (by decide))) fun h => ex_n (fun h => ex_ret _ (hQ _ (by decide))) fun h => ih)) fun h => ih))
  obtain ⟨e, h1, h2⟩ := key 0 (Nat.zero_le _)
  exact ⟨e, h1, fun p hp => ⟨fun I hI => h2 ⟨p, I, hI⟩ hp⟩⟩

theorem ex_call {P : Type} {sel : P → Int → Prop} {Q : Int → Prop} {c : (Int → Prop) → Prop} {A : Int → Prop} {F : P → Int → Prop} (hc : ∃ e, A e ∧ ∀ k : Int → Prop, k e → c k) (h : ∀ e, A e → Ex sel Q (fun p => F p e)) : Ex sel Q (fun p => c (fun z => F p z)) := by
  obtain ⟨e, ha, hk⟩ := hc
  obtain ⟨v, h1, h2⟩ := h e ha
  exact ⟨v, h1, fun p hp => hk _ (h2 p hp)⟩
theorem ex_c50 (l : List IT) : ∃ e, (e = 0 → l.length ≤ 16384) ∧ ∀ k : Int → Prop, k e → c50 l k := by
  have h : Ex (P := Int → Prop) (fun p => p) (fun e => e = 0 → l.length ≤ 16384) (fun p => tc50 l p) := by
    refine ex_d (fun h => ex_ret 2 fun h => absurd h (by decide)) fun h => ?_
    exact ex_l50 (sel := fun p : Int → Prop => p) (K := fun p => p 0) (by omega) (fun e h e0 => absurd e0 h) (ex_ret 0 fun _ => by omega)
  obtain ⟨e, h1, h2⟩ := h
  exact ⟨e, h1, fun k hk => ⟨h2 k hk⟩⟩

theorem ex_l120r2 {P : Type} {sel : P → Int → Prop} {Q : Int → Prop} {K : P → Int → LF → Prop} {n : Int} {f : LF} (hl : f.2.1.length ≤ 16384) (hQ : NZ Q) (hK : Ex sel Q (fun p => K p n f)) :
    Ex sel Q (fun p => l120r2 (sel p) (K p) n f.2.1 (f.2.1.length : Int) 0 f) := by
  have key : ∀ i, i ≤ f.2.1.length → Ex (P := Σ p : P, {I // b120r2 (sel p) (K p) I}) (fun q => sel q.1) Q (fun q => q.2.1 n f.2.1 (f.2.1.length : Int) (i : Int) f) := by
    refine upInd ?_ ?_
    · refine ex_w (fun q h => q.2.2 _ _ _ _ _ h) (ex_d (fun h => absurd h (by omega)) fun _ => ?_)
      obtain ⟨e, h1, h2⟩ := hK
      exact ⟨e, h1, fun q hq => h2 q.1 hq⟩
    · intro i hi ih
      refine ex_w (fun q h => q.2.2 _ _ _ _ _ h) (ex_d (fun _ => ex_need (at?_some hi) ?_) fun h => absurd (by omega) h)
      rw [wrapS (by omega)]
      exact ex_br (fun h => ex_ret _ (hQ _ (by decide))) fun h => ih
  obtain ⟨e, h1, h2⟩ := key 0 (Nat.zero_le _)
  exact ⟨e, h1, fun p hp => ⟨fun I hI => h2 ⟨p, I, hI⟩ hp⟩⟩

def CallsIn (n : Int) (l : List CL) (i : Nat) : Prop := ∀ j (h : j < l.length), i ≤ j → 0 ≤ l[j].2.1 ∧ l[j].2.1 < n
theorem ex_l120r9 {P : Type} {sel : P → Int → Prop} {Q : Int → Prop} {K : P → LF → Prop} {n : Int} {f : LF} (hl : f.2.2.1.length ≤ maxLen) (hQ : NZ Q) (hK : Ex sel Q (fun p => K p f)) :
    Ex sel (fun e => Q e ∧ (e = 0 → CallsIn n f.2.2.1 0)) (fun p => l120r9 (sel p) (K p) n (-1) f.2.2.1 (f.2.2.1.length : Int) 0 f) := by
  have hm : maxLen = 9223372036854775807 := rfl
  have key : ∀ i, i ≤ f.2.2.1.length → ∀ prev : Int, -1 ≤ prev → Ex (P := Σ p : P, {I // b120r9 (sel p) (K p) I}) (fun q => sel q.1) (fun e => Q e ∧ (e = 0 → CallsIn n f.2.2.1 i)) (fun q => q.2.1 n prev f.2.2.1 (f.2.2.1.length : Int) (i : Int) f) := by
    refine upInd ?_ ?_
    · intro prev hp
      refine ex_w (fun q h => q.2.2 _ _ _ _ _ _ h) (ex_d (fun h => absurd h (by omega)) fun _ => ?_)
      obtain ⟨e, h1, h2⟩ := hK
      exact ⟨e, ⟨h1, fun _ j h1 h2 => absurd h1 (by omega)⟩, fun q hq => h2 q.1 hq⟩
    · intro i hi ih prev hp
      have hQ' : NZ (fun e => Q e ∧ (e = 0 → CallsIn n f.2.2.1 i)) := fun e h => ⟨hQ e h, fun h0 => absurd h0 h⟩
      refine ex_w (fun q h => q.2.2 _ _ _ _ _ _ h) (ex_d (fun _ => ex_need (at?_some hi) ?_) fun h => absurd (by omega) h)
      rw [wrapS (by omega)]
      refine ex_d (fun h => ex_ret _ (hQ' _ (by decide))) fun h1 => ex_d (fun h => ex_ret _ (hQ' _ (by decide))) fun h2 => ex_d (fun h => ex_ret _ (hQ' _ (by decide))) fun h3 => ex_d (fun h => ex_ret _ (hQ' _ (by decide))) fun h4 => ?_
      have hat : at? f.2.1 (f.2.2.1[i]).1 = some (f.2.1[(f.2.2.1[i]).1.toNat]'(by omega)) := by
        unfold at?
        rw [if_pos (by omega), List.getElem?_eq_getElem]
      have hI : Ex (P := Σ p : P, {I // b120r9 (sel p) (K p) I}) (fun q => sel q.1) (fun e => Q e ∧ (e = 0 → CallsIn n f.2.2.1 i)) (fun q => q.2.1 n (f.2.2.1[i]).1 f.2.2.1 (f.2.2.1.length : Int) ((i + 1 : Nat) : Int) f) := by
        refine ex_m (fun e h => ⟨h.1, fun h0 j hj hij => ?_⟩) (ih (f.2.2.1[i]).1 (by omega))
        by_cases he : i = j
        · subst he; omega
        · exact h.2 h0 j hj (by omega)
      refine ex_need hat (ex_n (fun _ => ex_n (fun h => ex_ret _ (hQ' _ (by decide))) fun _ => ?_) fun _ => ?_)
      · exact ex_d (fun h => ex_ret _ (hQ' _ (by decide))) fun _ => ex_n (fun h => ex_ret _ (hQ' _ (by decide))) fun _ => hI
      · exact ex_d (fun h => ex_ret _ (hQ' _ (by decide))) fun _ => ex_n (fun h => ex_ret _ (hQ' _ (by decide))) fun _ => hI
  obtain ⟨e, h1, h2⟩ := key 0 (Nat.zero_le _) (-1) (by omega)
  exact ⟨e, h1, fun p hp => ⟨fun I hI => h2 ⟨p, I, hI⟩ hp⟩⟩

theorem ex_l120r20 {P : Type} {sel : P → Int → Prop} {Q : Int → Prop} {K : P → Prop} {f : LF} (hl : f.2.2.2.1.length ≤ maxLen) (hQ : NZ Q) (hK : Ex sel Q K) :
    Ex sel Q (fun p => l120r20 (sel p) (K p) (-1) f.2.2.2.1 (f.2.2.2.1.length : Int) 0 f) := by
  have hm : maxLen = 9223372036854775807 := rfl
  have key : ∀ i, i ≤ f.2.2.2.1.length → ∀ prev : Int, Ex (P := Σ p : P, {I // b120r20 (sel p) (K p) I}) (fun q => sel q.1) Q (fun q => q.2.1 prev f.2.2.2.1 (f.2.2.2.1.length : Int) (i : Int) f) := by
    refine upInd ?_ ?_
    · intro prev
      refine ex_w (fun q h => q.2.2 _ _ _ _ _ h) (ex_d (fun h => absurd h (by omega)) fun _ => ?_)
      obtain ⟨e, h1, h2⟩ := hK
      exact ⟨e, h1, fun q hq => h2 q.1 hq⟩
    · intro i hi ih prev
      refine ex_w (fun q h => q.2.2 _ _ _ _ _ h) (ex_d (fun _ => ex_need (at?_some hi) ?_) fun h => absurd (by omega) h)
      rw [wrapS (by omega)]
      exact ex_d (fun h => ex_ret _ (hQ _ (by decide))) fun h => ex_d (fun h => ex_ret _ (hQ _ (by decide))) fun h => ex_br (fun h => ex_d (fun h => ex_ret _ (hQ _ (by decide))) fun h => ih _) fun h => ih _
  obtain ⟨e, h1, h2⟩ := key 0 (Nat.zero_le _) (-1)
  exact ⟨e, h1, fun p hp => ⟨fun I hI => h2 ⟨p, I, hI⟩ hp⟩⟩

theorem ex_c120 {f : LF} {n : Int} (h1 : f.2.1.length ≤ 16384) (h2 : f.2.2.1.length ≤ maxLen) (h3 : f.2.2.2.1.length ≤ maxLen) : ∃ e, (e = 0 → CallsIn n f.2.2.1 0) ∧ ∀ k : Int → Prop, k e → c120 f n k := by
  have hT : NZ (fun _ => True) := fun _ _ => trivial
  have h : Ex (P := Int → Prop) (fun p => p) (fun e => True ∧ (e = 0 → CallsIn n f.2.2.1 0)) (fun p => tc120 f n p) :=
    ex_l120r2 (sel := fun p : Int → Prop => p) (K := fun p n f => l120r9 (fun z => p z) (fun z => l120r20 (fun z => p z) (p 0) (-1) z.2.2.2.1 ((z.2.2.2.1.length : Nat) : Int) 0 z) n (-1) f.2.2.1 ((f.2.2.1.length : Nat) : Int) 0 f) h1 (fun e he => ⟨trivial, fun h => absurd h he⟩)
      (ex_l120r9 (sel := fun p : Int → Prop => p) (K := fun p z => l120r20 (fun z => p z) (p 0) (-1) z.2.2.2.1 ((z.2.2.2.1.length : Nat) : Int) 0 z) h2 hT
        (ex_l120r20 (sel := fun p : Int → Prop => p) (K := fun p => p 0) h3 hT (ex_ret 0 trivial)))
  obtain ⟨e, h1, h2⟩ := h
  exact ⟨e, h1.2, fun k hk => ⟨h2 k hk⟩⟩

/-- the lists are not too long for Go -/
def Lens (f : LF) : Prop := f.2.1.length ≤ maxLen ∧ f.2.2.1.length ≤ maxLen ∧ f.2.2.2.1.length ≤ maxLen ∧ ∀ m ∈ f.2.2.2.1, m.2.2.1.length ≤ maxLen
theorem ex_c56 {x : List LF} (hx : ∀ f ∈ x, Lens f) : ∃ e, (e = 0 → ∀ j (h : j < x.length), CallsIn x.length (x[j]).2.2.1 0) ∧ ∀ k : Int → Prop, k e → c56 x k := by
  have h : Ex (P := Int → Prop) (fun p => p) (fun e => e = 0 → ∀ j (h : j < x.length), CallsIn x.length (x[j]).2.2.1 0) (fun p => tc56 x p) := by
    refine ex_d (fun h => ex_ret 2 fun h => absurd h (by decide)) fun hlen => ?_
    have key : ∀ i, i ≤ x.length → Ex (P := Σ p : Int → Prop, {I // b56r4 p (p 0) I}) (fun q => q.1) (fun e => e = 0 → ∀ j (h : j < x.length), i ≤ j → CallsIn x.length (x[j]).2.2.1 0) (fun q => q.2.1 x x (x.length : Int) (i : Int)) := by
      refine upInd ?_ ?_
      · refine ex_w (fun q h => q.2.2 _ _ _ _ h) (ex_d (fun h => absurd h (by omega)) fun _ => ?_)
        exact ex_ret (sel := fun (q : Σ p : Int → Prop, {I // b56r4 p (p 0) I}) => q.1) 0 fun _ j h1 h2 => absurd h1 (by omega)
      · intro i hi ih
        have hQ : NZ (fun e => e = 0 → ∀ j (h : j < x.length), i ≤ j → CallsIn x.length (x[j]).2.2.1 0) := fun e h h0 => absurd h0 h
        have hL := hx _ (List.getElem_mem hi)
        refine ex_w (fun q h => q.2.2 _ _ _ _ h) (ex_d (fun _ => ex_need (at?_some hi) ?_) fun h => absurd (by omega) h)
        rw [wrapS (by omega)]
        refine ex_call (ex_c50 _) fun e he => ex_n (fun h => ex_ret _ (hQ _ h)) fun h0 => ex_br (fun h => ex_ret _ (hQ _ (by decide))) fun _ => ex_d (fun h => ex_ret _ (hQ _ (by decide))) fun _ => ex_d (fun h => ex_ret _ (hQ _ (by decide))) fun _ => ?_
        refine ex_call (ex_c120 (n := x.length) (he h0) hL.2.1 hL.2.2.1) fun e2 he2 => ex_n (fun h => ex_ret _ (hQ _ h)) fun h2 => ?_
        refine ex_m (fun e h h0 j hj hij => ?_) ih
        by_cases hc : i = j
        · subst hc; exact he2 h2
        · exact h h0 j hj (by omega)
    obtain ⟨e, h1, h2⟩ := key 0 (Nat.zero_le _)
    exact ⟨e, fun h j hj => h1 h j hj (Nat.zero_le _), fun p hp => ⟨fun I hI => h2 ⟨p, I, hI⟩ hp⟩⟩
  obtain ⟨e, h1, h2⟩ := h
  exact ⟨e, h1, fun k hk => ⟨h2 k hk⟩⟩
end Go.Proofs.Ytfdoaacapkopmaa
