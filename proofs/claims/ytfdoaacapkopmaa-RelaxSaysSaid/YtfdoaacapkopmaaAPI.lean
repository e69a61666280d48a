/- The machine's instructions, in plain Lean: what the functions of insn and their references compute. -/
import Derived.Test.YtfdoaacapkopmaaAD9
import Derived.Test.YtfdoaacapkopmaaABKit
import Derived.Test.YtfdoaacapkopmaaARow1
set_option linter.unusedVariables false
set_option linter.unusedSimpArgs false
/- The law of 'InsnSays', in plain Lean: errors. -/
namespace Go.Proofs.Ytfdoaacapkopmaa
open Go.Abs
abbrev O := Int × Int × Int × Int × Int × Unit

def use (op : Int) : Bool × Bool × Bool × Bool × Unit :=
  br ((op : Int) == 0)
  (false, false, false, false, ())
  (br ((op : Int) == 22)
   (false, false, false, false, ())
   (br ((op : Int) == 1)
    (true, true, true, false, ())
    (br ((op : Int) == 2)
     (true, true, true, false, ())
     (br ((op : Int) == 3)
      (true, true, true, false, ())
      (br ((op : Int) == 4)
       (true, true, true, false, ())
       (br ((op : Int) == 5)
        (true, true, true, false, ())
        (br ((op : Int) == 6)
         (true, true, true, false, ())
         (br ((op : Int) == 7)
          (true, true, true, false, ())
          (br ((op : Int) == 15)
           (true, true, true, false, ())
           (br ((op : Int) == 8)
            (true, true, false, true, ())
            (br ((op : Int) == 9)
             (true, true, false, true, ())
             (br ((op : Int) == 10)
              (true, true, false, true, ())
              (br ((op : Int) == 12)
               (true, true, false, true, ())
               (br ((op : Int) == 11)
                (true, false, false, true, ())
                (br ((op : Int) == 13)
                 (false, true, true, true, ())
                 (br ((op : Int) == 16)
                  (false, true, true, true, ())
                  (br ((op : Int) == 17)
                   (false, true, true, true, ())
                   (br ((op : Int) == 18)
                    (false, true, true, true, ())
                    (br ((op : Int) == 14)
                     (true, false, true, true, ())
                     (br ((op : Int) == 19)
                      (false, false, false, true, ())
                      (br ((op : Int) == 20)
                       (false, false, false, true, ())
                       (br ((op : Int) == 24)
                        (false, false, false, true, ())
                        (false, true, false, false, ())))))))))))))))))))))))

theorem c104_ok {op : Int} {k : Bool × Bool × Bool × Bool × Unit → Prop} (h : k (use op)) : c104 op k := by
  constructor
  unfold tc104
  simp only [br_push]
  exact h
def rng (a b c : Int) : Bool := decide (b ≤ a ∧ a ≤ c)
theorem c103_ok {a b c : Int} {k : Bool → Prop} (h : k (rng a b c)) : c103 a b c k := by
  constructor
  unfold tc103
  unfold rng at h
  refine brP (fun h1 => ?_) (fun h1 => ?_)
  · have e : decide (a ≤ c) = decide (b ≤ a ∧ a ≤ c) := by
      rw [decide_eq_decide]; exact ⟨fun x => ⟨h1, x⟩, fun x => x.2⟩
    rw [e]; exact h
  · have e : decide (b ≤ a ∧ a ≤ c) = false := decide_eq_false fun x => h1 x.1
    rw [← e]; exact h

def tail (op n : Int) : Int :=
  br (op == 9 || op == 10) (br (rng n 0 31) 0 4) (br (op == 14) (br (rng n 0 4095) 0 4) (br (op == 24) (br (rng n 1 6) 0 4) 0))
def form (x : O) : Bool := (!(use x.1).1 && x.2.1 != 0) || (!(use x.1).2.1 && x.2.2.1 != 0) || (!(use x.1).2.2.1 && x.2.2.2.1 != 0) || (!(use x.1).2.2.2.1 && x.2.2.2.2.1 != 0)
def regs (x : O) : Bool := rng x.2.1 0 15 && rng x.2.2.1 0 15 && rng x.2.2.2.1 0 15
def err (x : O) : Int :=
  br (rng x.1 0 24) (br (regs x && rng x.2.2.2.2.1 (-2147483648) 2147483647) (br (form x) 3 (tail x.1 x.2.2.2.2.1)) 4) 1

theorem tail_ok {op n : Int} {k : Int → Prop} (h : k (tail op n)) :
    br (op == 9) (c103 n 0 31 (fun z => br (!z) (k 4) (br (op == 14) (c103 n 0 4095 (fun z => br (!z) (k 4) (br (op == 24) (c103 n 1 6 (fun z => br (!z) (k 4) (k 0))) (k 0)))) (br (op == 24) (c103 n 1 6 (fun z => br (!z) (k 4) (k 0))) (k 0)))))
      (br (op == 10) (c103 n 0 31 (fun z => br (!z) (k 4) (br (op == 14) (c103 n 0 4095 (fun z => br (!z) (k 4) (br (op == 24) (c103 n 1 6 (fun z => br (!z) (k 4) (k 0))) (k 0)))) (br (op == 24) (c103 n 1 6 (fun z => br (!z) (k 4) (k 0))) (k 0)))))
        (br (op == 14) (c103 n 0 4095 (fun z => br (!z) (k 4) (br (op == 24) (c103 n 1 6 (fun z => br (!z) (k 4) (k 0))) (k 0)))) (br (op == 24) (c103 n 1 6 (fun z => br (!z) (k 4) (k 0))) (k 0)))) := by
  unfold tail at h
  refine brE (fun e => ?_) (fun e9 => brE (fun e => ?_) (fun e10 => brE (fun e => ?_) (fun e14 => brE (fun e => ?_) (fun e24 => ?_))))
  · subst e
    refine c103_ok ?_
    cases hr : rng n 0 31 with
    | true => rw [hr] at h; exact h
    | false => rw [hr] at h; exact h
  · subst e
    refine c103_ok ?_
    cases hr : rng n 0 31 with
    | true => rw [hr] at h; exact h
    | false => rw [hr] at h; exact h
  · subst e
    refine c103_ok ?_
    cases hr : rng n 0 4095 with
    | true => rw [hr] at h; exact h
    | false => rw [hr] at h; exact h
  · subst e
    refine c103_ok ?_
    cases hr : rng n 1 6 with
    | true => rw [hr] at h; exact h
    | false => rw [hr] at h; exact h
  · rw [show (op == 9 || op == 10) = false by simp [e9, e10], show (op == 14) = false by simp [e14], show (op == 24) = false by simp [e24]] at h
    exact h

theorem c25_ok {x : O} {k : Int → Prop} (h : k (err x)) : c25 x k := by
  constructor
  unfold tc25
  unfold err regs form at h
  refine c103_ok ?_
  cases h0 : rng x.1 0 24 with
  | false => rw [h0] at h; exact h
  | true =>
  rw [h0] at h
  refine c103_ok ?_
  cases h1 : rng x.2.1 0 15 with
  | false => rw [h1] at h; exact h
  | true =>
  rw [h1] at h
  refine c103_ok ?_
  cases h2 : rng x.2.2.1 0 15 with
  | false => rw [h2] at h; exact h
  | true =>
  rw [h2] at h
  refine c103_ok ?_
  cases h3 : rng x.2.2.2.1 0 15 with
  | false => rw [h3] at h; exact h
  | true =>
  rw [h3] at h
  refine c103_ok ?_
  cases h4 : rng x.2.2.2.2.1 (-2147483648) 2147483647 with
  | false => rw [h4] at h; exact h
  | true =>
  rw [h4] at h
  refine c104_ok ?_
  revert h
  generalize use x.1 = u
  obtain ⟨u1, u2, u3, u4, _⟩ := u
  intro h
  cases u1 <;> cases u2 <;> cases u3 <;> cases u4 <;>
    (simp only [Bool.not_true, Bool.not_false, br_true, br_false, Bool.true_and, Bool.false_and, Bool.and_self, Bool.or_false, Bool.false_or] at h ⊢)
  all_goals
    repeat' (first
      | exact tail_ok h
      | exact h
      | (refine brI.2 ⟨fun e => ?_, fun e => ?_⟩ <;> simp only [e, Bool.true_or, Bool.or_true, Bool.false_or, Bool.or_false, br_true, br_false] at h))
end Go.Proofs.Ytfdoaacapkopmaa

/- The law of 'InsnSays', in plain Lean: the reference's errors. -/
namespace Go.Proofs.Ytfdoaacapkopmaa
open Go.Abs

theorem ops {n : Int} (h : 0 ≤ n ∧ n ≤ 24) : n = 0 ∨ n = 1 ∨ n = 2 ∨ n = 3 ∨ n = 4 ∨ n = 5 ∨ n = 6 ∨ n = 7 ∨ n = 8 ∨ n = 9 ∨ n = 10 ∨ n = 11 ∨ n = 12 ∨ n = 13 ∨ n = 14 ∨ n = 15 ∨ n = 16 ∨ n = 17 ∨ n = 18 ∨ n = 19 ∨ n = 20 ∨ n = 21 ∨ n = 22 ∨ n = 23 ∨ n = 24 := by omega

theorem c102_ok {s : List UInt8} {c : Int} {k : Bool → Prop} (hl : s.length ≤ 1000) (h : k (s.any fun b => (b.toNat : Int) == c)) : c102 s c k := by
  constructor
  unfold tc102
  constructor
  intro I hI
  have key : ∀ n (i : Nat), n + i = s.length → ((s.drop i).any fun b => (b.toNat : Int) == c) = (s.any fun b => (b.toNat : Int) == c) → I s c (s.length : Int) (i : Int) := by
    intro n
    induction n with
    | zero =>
      intro i hn he
      have hi : i = s.length := by omega
      apply hI
      refine brP (fun h' => by omega) (fun _ => ?_)
      subst hi
      simp only [List.drop_length, List.any_nil] at he
      rw [he]; exact h
    | succ n ih =>
      intro i hn he
      have hi : i < s.length := by omega
      apply hI
      refine brP (fun _ => ?_) (fun h' => by omega)
      refine needS (v := s[i]) (by simp [at?, hi]) ?_
      have hw : IntKind.wrap .i64 ((i : Int) + 1) = ((i + 1 : Nat) : Int) := by rw [wrap64 (by omega) (by omega)]; rfl
      rw [hw]
      have hd : s.drop i = s[i] :: s.drop (i + 1) := List.drop_eq_getElem_cons hi
      rw [hd, List.any_cons] at he
      cases hb : ((s[i].toNat : Int) == c) with
      | true =>
        refine brT rfl ?_
        rw [hb, Bool.true_or] at he
        rw [he]; exact h
      | false =>
        refine brF rfl (ih _ (by omega) ?_)
        rw [hb, Bool.false_or] at he
        exact he
  exact key s.length 0 (by omega) (by simp)

theorem br_true_v {α : Type} {x y : α} : br true x y = x := rfl
theorem out_rng {y lo hi : Int} {A P : Prop} (h1 : rng y lo hi = true → P) (h2 : rng y lo hi = false → A) : br (decide (y < lo)) A (br (decide (y > hi)) A P) := by
  unfold rng at h1 h2
  refine brP (fun e => h2 (decide_eq_false fun x => by omega)) (fun e => brP (fun e' => h2 (decide_eq_false fun x => by omega)) (fun e' => h1 (decide_eq_true (by omega))))

theorem l24r4_ok {k1 : Int → Prop} {k2 : O → Prop} {x : O} (h : br (regs x) (k2 x) (k1 4)) : l24r4 k1 k2 ((3 : Nat) : Int) 0 x [x.2.1, x.2.2.1, x.2.2.2.1] := by
  constructor
  intro I hI
  have w1 : IntKind.wrap .i64 (0 + 1) = 1 := by decide
  have w2 : IntKind.wrap .i64 (1 + 1) = 2 := by decide
  have w3 : IntKind.wrap .i64 (2 + 1) = 3 := by decide
  unfold regs at h
  apply hI
  refine brT (by decide) (brT (by simp) (needS (v := x.2.1) rfl (out_rng (fun e1 => ?_) fun e => ?_)))
  rotate_left
  · rw [e] at h; exact h
  rw [w1]
  rw [e1] at h
  apply hI
  refine brT (by decide) (brT (by simp) (needS (v := x.2.2.1) rfl (out_rng (fun e2 => ?_) fun e => ?_)))
  rotate_left
  · rw [e] at h; exact h
  rw [w2]
  rw [e2] at h
  apply hI
  refine brT (by decide) (brT (by simp) (needS (v := x.2.2.2.1) rfl (out_rng (fun e3 => ?_) fun e => ?_)))
  rotate_left
  · rw [e] at h; exact h
  rw [w3]
  rw [e3] at h
  apply hI
  refine brF (by decide) h

def memL : List (List UInt8) := [[], [(68 : UInt8), (65 : UInt8), (66 : UInt8)], [(68 : UInt8), (65 : UInt8), (66 : UInt8)], [(68 : UInt8), (65 : UInt8), (66 : UInt8)], [(68 : UInt8), (65 : UInt8), (66 : UInt8)], [(68 : UInt8), (65 : UInt8), (66 : UInt8)], [(68 : UInt8), (65 : UInt8), (66 : UInt8)], [(68 : UInt8), (65 : UInt8), (66 : UInt8)], [(68 : UInt8), (65 : UInt8), (78 : UInt8)], [(68 : UInt8), (65 : UInt8), (78 : UInt8)], [(68 : UInt8), (65 : UInt8), (78 : UInt8)], [(68 : UInt8), (78 : UInt8)], [(68 : UInt8), (65 : UInt8), (78 : UInt8)], [(65 : UInt8), (66 : UInt8), (78 : UInt8)], [(68 : UInt8), (66 : UInt8), (78 : UInt8)], [(68 : UInt8), (65 : UInt8), (66 : UInt8)], [(65 : UInt8), (66 : UInt8), (78 : UInt8)], [(65 : UInt8), (66 : UInt8), (78 : UInt8)], [(65 : UInt8), (66 : UInt8), (78 : UInt8)], [(78 : UInt8)], [(78 : UInt8)], [(65 : UInt8)], [], [(65 : UInt8)], [(78 : UInt8)]]
def memb (op : Int) : List UInt8 := memL.getD op.toNat []
def has (s : List UInt8) (c : Int) : Bool := s.any fun b => (b.toNat : Int) == c
theorem memb_len (op : Int) (h : 0 ≤ op ∧ op ≤ 24) : (memb op).length ≤ 1000 := by
  rcases ops h with e | e | e | e | e | e | e | e | e | e | e | e | e | e | e | e | e | e | e | e | e | e | e | e | e <;> subst e <;> decide
theorem memb_use (op : Int) (h : 0 ≤ op ∧ op ≤ 24) : has (memb op) 68 = (use op).1 ∧ has (memb op) 65 = (use op).2.1 ∧ has (memb op) 66 = (use op).2.2.1 ∧ has (memb op) 78 = (use op).2.2.2.1 := by
  rcases ops h with e | e | e | e | e | e | e | e | e | e | e | e | e | e | e | e | e | e | e | e | e | e | e | e | e <;> subst e <;> decide
theorem memb_get (op : Int) (h : 0 ≤ op ∧ op ≤ 24) : memL[op.toNat]? = some (memb op) := by
  rcases ops h with e | e | e | e | e | e | e | e | e | e | e | e | e | e | e | e | e | e | e | e | e | e | e | e | e <;> subst e <;> rfl

theorem one_letter {s : List UInt8} {v c : Int} {y : UInt8} (hl : s.length ≤ 1000) (hy : (y.toNat : Int) = c) {o : Option UInt8} (ho : o = some y) {A P : Prop} (h1 : (v != 0 && !has s c) = true → A) (h2 : (v != 0 && !has s c) = false → P) :
    br (v != 0) (need False o fun y7 => c102 s (UInt8.toNat y7 : Int) (fun z8 => br (!z8) A P)) P := by
  subst ho
  refine brI.2 ⟨fun e => ?_, fun e => h2 (by rw [e]; rfl)⟩
  rw [need_some]
  refine c102_ok hl ?_
  rw [hy]
  have hh : (s.any fun b => (b.toNat : Int) == c) = has s c := rfl
  rw [hh]
  rw [e, Bool.true_and] at h1 h2
  cases hs : has s c with
  | true => exact h2 (by rw [hs]; rfl)
  | false => exact h1 (by rw [hs]; rfl)

theorem l24r13_ok {k1 : Int → Prop} {k2 : O → Prop} {s : List UInt8} (hl : s.length ≤ 1000) {x : O}
    (h : br ((x.2.1 != 0 && !has s 68) || (x.2.2.1 != 0 && !has s 65) || (x.2.2.2.1 != 0 && !has s 66) || (x.2.2.2.2.1 != 0 && !has s 78)) (k1 3) (k2 x)) : l24r13 k1 k2 s ((4 : Nat) : Int) 0 x [x.2.1, x.2.2.1, x.2.2.2.1, x.2.2.2.2.1] := by
  constructor
  intro I hI
  have w1 : IntKind.wrap .i64 (0 + 1) = 1 := by decide
  have w2 : IntKind.wrap .i64 (1 + 1) = 2 := by decide
  have w3 : IntKind.wrap .i64 (2 + 1) = 3 := by decide
  have w4 : IntKind.wrap .i64 (3 + 1) = 4 := by decide
  apply hI
  refine brT (by decide) (brT (by simp) (needS (v := x.2.1) rfl (one_letter hl (y := 68) (c := 68) rfl rfl (fun e => ?_) fun e1 => ?_)))
  · rw [e, Bool.true_or, Bool.true_or, Bool.true_or] at h; exact h
  rw [w1]
  apply hI
  refine brT (by decide) (brT (by simp) (needS (v := x.2.2.1) rfl (one_letter hl (y := 65) (c := 65) rfl rfl (fun e => ?_) fun e2 => ?_)))
  · rw [e1, e, Bool.false_or, Bool.true_or, Bool.true_or] at h; exact h
  rw [w2]
  apply hI
  refine brT (by decide) (brT (by simp) (needS (v := x.2.2.2.1) rfl (one_letter hl (y := 66) (c := 66) rfl rfl (fun e => ?_) fun e3 => ?_)))
  · rw [e1, e2, e, Bool.false_or, Bool.false_or, Bool.true_or] at h; exact h
  rw [w3]
  apply hI
  refine brT (by decide) (brT (by simp) (needS (v := x.2.2.2.2.1) rfl (one_letter hl (y := 78) (c := 78) rfl rfl (fun e => ?_) fun e4 => ?_)))
  · rw [e1, e2, e3, e, Bool.false_or, Bool.false_or, Bool.false_or] at h; exact h
  rw [w4]
  apply hI
  refine brF (by decide) ?_
  rw [e1, e2, e3, e4] at h
  exact h

theorem tail24 {op n : Int} {k : Int → Prop} (hn : rng n (-2147483648) 2147483647 = true) (h : k (tail op n)) :
    br ((op : Int) == 9) (br (decide (n < 0)) (k 4) (br (decide (n > 31)) (k 4) (k 0)))
     (br ((op : Int) == 10) (br (decide (n < 0)) (k 4) (br (decide (n > 31)) (k 4) (k 0)))
      (br ((op : Int) == 14) (br (decide (n < 0)) (k 4) (br (decide (n > 4095)) (k 4) (k 0)))
       (br ((op : Int) == 24) (br (decide (n < 1)) (k 4) (br (decide (n > 6)) (k 4) (k 0)))
        (br (decide (n < (-2147483648))) (k 4) (br (decide (n > 2147483647)) (k 4) (k 0)))))) := by
  unfold tail at h
  refine brE (fun e => ?_) (fun e9 => brE (fun e => ?_) (fun e10 => brE (fun e => ?_) (fun e14 => brE (fun e => ?_) (fun e24 => ?_))))
  · subst e; exact out_rng (fun e => by rw [e] at h; exact h) (fun e => by rw [e] at h; exact h)
  · subst e; exact out_rng (fun e => by rw [e] at h; exact h) (fun e => by rw [e] at h; exact h)
  · subst e; exact out_rng (fun e => by rw [e] at h; exact h) (fun e => by rw [e] at h; exact h)
  · subst e; exact out_rng (fun e => by rw [e] at h; exact h) (fun e => by rw [e] at h; exact h)
  · rw [show (op == 9 || op == 10) = false by simp [e9, e10], show (op == 14) = false by simp [e14], show (op == 24) = false by simp [e24]] at h
    exact out_rng (fun _ => h) (fun e => by rw [hn] at e; cases e)

theorem rng_iff {a b c : Int} : rng a b c = true ↔ b ≤ a ∧ a ≤ c := by unfold rng; exact decide_eq_true_iff
theorem c24_ok {x : O} {k : Int → Prop} (h : k (err x)) : c24 x k := by
  constructor
  unfold tc24
  unfold err at h
  refine out_rng (lo := 0) (hi := 24) (fun h0 => ?_) (fun h0 => by rw [h0] at h; exact h)
  rw [h0, br_true_v] at h
  have hop := rng_iff.1 h0
  refine l24r4_ok ?_
  cases h1 : regs x with
  | false => rw [h1] at h; exact h
  | true =>
  rw [h1, Bool.true_and] at h
  rw [br_true]
  refine out_rng (fun h4 => ?_) (fun h4 => by rw [h4] at h; exact h)
  rw [h4, br_true_v] at h
  refine ⟨?_⟩
  refine brT (eqT_self _ _) (brT (by simp; omega) (needS (v := memb x.1) (memb_get _ hop) (l24r13_ok (memb_len _ hop) ?_)))
  obtain ⟨m1, m2, m3, m4⟩ := memb_use _ hop
  rw [m1, m2, m3, m4]
  unfold form at h
  rw [Bool.and_comm (x.2.1 != 0), Bool.and_comm (x.2.2.1 != 0), Bool.and_comm (x.2.2.2.1 != 0), Bool.and_comm (x.2.2.2.2.1 != 0)]
  refine brI.2 ⟨fun e => ?_, fun e => ?_⟩
  · rw [e] at h; exact h
  · rw [e] at h; exact tail24 h4 h
end Go.Proofs.Ytfdoaacapkopmaa

/- The law of 'InsnSays', in plain Lean: reading. -/
namespace Go.Proofs.Ytfdoaacapkopmaa
open Go.Abs

theorem br_false_v {α : Type} {x y : α} : br false x y = y := rfl
theorem shr_nat {y s : Nat} (hs : s ≤ 64) : shrI .i64 (y : Int) (s : Int) = ((y / 2 ^ s : Nat) : Int) := by
  unfold shrI
  have e : min ((s : Int).toNat) (IntKind.bits .i64) = s := by
    simp [IntKind.bits]; omega
  rw [e, Int.fdiv_eq_ediv_of_nonneg _ (by exact Int.le_of_lt (Int.pow_pos (by decide)))]
  simp
theorem wrap32 {v : Nat} (h : v < 4294967296) : IntKind.wrap .i64 (IntKind.wrap .i32 (v : Int)) = if 2147483648 ≤ v then (v : Int) - 4294967296 else v := by
  have e : IntKind.wrap .i32 (v : Int) = if 2147483648 ≤ v then (v : Int) - 4294967296 else v := by
    simp [IntKind.wrap, IntKind.signed, IntKind.bits]
    split <;> omega
  rw [e, wrap64 (by split <;> omega) (by split <;> omega)]
theorem wrap8 {v : Nat} (h : v < 256) : IntKind.wrap .i64 (IntKind.wrap .i8 (v : Int)) = if 128 ≤ v then (v : Int) - 256 else v := by
  have e : IntKind.wrap .i8 (v : Int) = if 128 ≤ v then (v : Int) - 256 else v := by
    simp [IntKind.wrap, IntKind.signed, IntKind.bits]
    split <;> omega
  rw [e, wrap64 (by split <;> omega) (by split <;> omega)]

abbrev V := O × Int × Int
def zv (e : Int) : V := ((0, 0, 0, 0, 0, ()), 0, e)
def fin (o : O) (n : Int) : V := br (err o != 0) (zv 3) (o, n, 0)
def mk (y : Nat) (n : Int) : O := (((y / 134217728 : Nat) : Int), ((y / 4194304 % 16 : Nat) : Int), ((y / 262144 % 16 : Nat) : Int), ((y / 16384 % 16 : Nat) : Int), n, ())
def dv (l : List Int) : V :=
  match l with
  | [] => zv 12
  | w :: r =>
    br (rng w 0 4294967295)
      (br (decide (w.toNat / 256 % 64 ≠ 0)) (zv 3)
        (br (decide (w.toNat / 67108864 % 2 = 1))
          (br (decide (w.toNat % 256 ≠ 0)) (zv 3)
            (match r with
            | [] => zv 12
            | v :: _ => br (rng v 0 4294967295) (fin (mk w.toNat (if 2147483648 ≤ v.toNat then (v.toNat : Int) - 4294967296 else v.toNat)) 2) (zv 3)))
          (fin (mk w.toNat (if 128 ≤ w.toNat % 256 then ((w.toNat % 256 : Nat) : Int) - 256 else ((w.toNat % 256 : Nat) : Int))) 1)))
      (zv 3)
def kv (k : O → Int → Int → Prop) (v : V) : Prop := k v.1 v.2.1 v.2.2

theorem fin_ok {c : O → (Int → Prop) → Prop} (hc : ∀ {x : O} {k : Int → Prop}, k (err x) → c x k) {o : O} {n : Int} {k : O → Int → Int → Prop} (h : kv k (fin o n)) :
    c o (fun z => br (z != 0) (k (0, 0, 0, 0, 0, ()) 0 3) (k o n 0)) := by
  refine hc ?_
  unfold fin at h
  refine brI.2 ⟨fun e => ?_, fun e => ?_⟩
  · rw [e] at h; exact h
  · rw [e] at h; exact h

theorem len_ne {w : Int} {r : List Int} : ((((w :: r).length : Nat) : Int) == 0) = false := by simp; omega

end Go.Proofs.Ytfdoaacapkopmaa

namespace Go.Proofs.Ytfdoaacapkopmaa
open Go.Abs
theorem tdiv_nat (y d : Nat) (hy : y < 4294967296) : IntKind.wrap .i64 (Int.tdiv (y : Int) (d : Int)) = ((y / d : Nat) : Int) := by
  have h : y / d ≤ y := Nat.div_le_self _ _
  rw [← Int.ofNat_tdiv]
  revert h
  generalize y / d = q
  intro h
  exact wrap64 (by omega) (by omega)
end Go.Proofs.Ytfdoaacapkopmaa

/- The law of 'InsnSays', in plain Lean: words; the law. -/
namespace Go.Proofs.Ytfdoaacapkopmaa
open Go.Abs

theorem shl_nat {m s : Nat} (hs : s ≤ 64) (h : m * 2 ^ s < 9223372036854775808) : shlI .i64 (m : Int) (s : Int) = ((m * 2 ^ s : Nat) : Int) := by
  unfold shlI
  have e : min ((s : Int).toNat) (IntKind.bits .i64) = s := by
    simp [IntKind.bits]; omega
  rw [e]
  have e2 : ((m : Int) * 2 ^ s) = ((m * 2 ^ s : Nat) : Int) := by simp
  rw [e2]
  generalize m * 2 ^ s = q at h
  exact wrap64 (by omega) (by omega)

structure Ok (x : O) : Prop where
  op : 0 ≤ x.1 ∧ x.1 ≤ 24
  d : 0 ≤ x.2.1 ∧ x.2.1 ≤ 15
  a : 0 ≤ x.2.2.1 ∧ x.2.2.1 ≤ 15
  b : 0 ≤ x.2.2.2.1 ∧ x.2.2.2.1 ≤ 15
  n : -2147483648 ≤ x.2.2.2.2.1 ∧ x.2.2.2.2.1 ≤ 2147483647

theorem err_ok {x : O} (h : err x = 0) : Ok x := by
  unfold err at h
  cases h0 : rng x.1 0 24 with
  | false => rw [h0] at h; cases h
  | true =>
  rw [h0, br_true_v] at h
  cases h1 : (regs x && rng x.2.2.2.2.1 (-2147483648) 2147483647) with
  | false => rw [h1] at h; cases h
  | true =>
  simp only [regs, Bool.and_eq_true, rng_iff] at h1
  exact ⟨rng_iff.1 h0, h1.1.1.1, h1.1.1.2, h1.1.2, h1.2⟩

def word (x : O) : Int := x.1 * 134217728 + x.2.1 * 4194304 + x.2.2.1 * 262144 + x.2.2.2.1 * 16384
def long (x : O) : List Int := [word x + 67108864, x.2.2.2.2.1 % 4294967296]
def short (x : O) : List Int := [word x + x.2.2.2.2.1 % 256]

theorem or_step {A B s : Nat} {a b : Nat} (hA : A = a * 2 ^ s) (hB : B < 2 ^ s) (h : A + B < 9223372036854775808) : bitop .or .i64 (A : Int) (B : Int) = ((A + B : Nat) : Int) := by
  rw [bitop_or (by omega) (by omega), hA, lor_add _ _ _ hB]

theorem c105_ok {x : O} {k : Int → Prop} (hx : Ok x) (h : k (word x)) : c105 x k := by
  obtain ⟨o, d, a, b, n, u⟩ := x
  obtain ⟨h1, h2, h3, h4, h5⟩ := hx
  dsimp only at h1 h2 h3 h4 h5
  obtain ⟨o, rfl⟩ := Int.eq_ofNat_of_zero_le h1.1
  obtain ⟨d, rfl⟩ := Int.eq_ofNat_of_zero_le h2.1
  obtain ⟨a, rfl⟩ := Int.eq_ofNat_of_zero_le h3.1
  obtain ⟨b, rfl⟩ := Int.eq_ofNat_of_zero_le h4.1
  constructor
  unfold tc105
  dsimp only
  have e1 : shlI .i64 (o : Int) 27 = ((o * 134217728 : Nat) : Int) := shl_nat (m := o) (s := 27) (by decide) (by show o * 134217728 < _; omega)
  have e2 : shlI .i64 (d : Int) 22 = ((d * 4194304 : Nat) : Int) := shl_nat (m := d) (s := 22) (by decide) (by show d * 4194304 < _; omega)
  have e3 : shlI .i64 (a : Int) 18 = ((a * 262144 : Nat) : Int) := shl_nat (m := a) (s := 18) (by decide) (by show a * 262144 < _; omega)
  have e4 : shlI .i64 (b : Int) 14 = ((b * 16384 : Nat) : Int) := shl_nat (m := b) (s := 14) (by decide) (by show b * 16384 < _; omega)
  rw [e1, e2, e3, e4]
  rw [or_step (a := o) (b := 0) (s := 27) rfl (by show _ < 134217728; omega) (by omega)]
  rw [or_step (a := o * 32 + d) (b := 0) (s := 22) (by show _ = _ * 4194304; omega) (by show _ < 4194304; omega) (by omega)]
  rw [or_step (a := (o * 32 + d) * 16 + a) (b := 0) (s := 18) (by show _ = _ * 262144; omega) (by show _ < 262144; omega) (by omega)]
  have e : word ((o : Int), (d : Int), (a : Int), (b : Int), n, u) = ((o * 134217728 + d * 4194304 + a * 262144 + b * 16384 : Nat) : Int) := by
    unfold word; dsimp only; omega
  rw [e] at h
  exact h

theorem c106_ok {v m : Int} {k : Int → Prop} (hm : 0 < m) (hm2 : m ≤ 4294967296) (h : k (v % m)) : c106 v m k := by
  constructor
  unfold tc106
  refine brE (fun e => by omega) (fun _ => ?_)
  have h1 : Int.tmod v m = if 0 ≤ v % m ∧ 0 ≤ v ∨ v % m = 0 then v % m else v % m - m := by
    rw [Int.tmod_eq_emod]
    have h2 := Int.emod_nonneg v (Int.ne_of_gt hm)
    by_cases hv : 0 ≤ v
    · simp [hv, h2]
    · by_cases hd : m ∣ v
      · simp [hd, Int.emod_eq_zero_of_dvd hd]
      · have : v % m ≠ 0 := fun e => hd (Int.dvd_of_emod_eq_zero e)
        simp [hv, hd, this]
        omega
  have h2 := Int.emod_nonneg v (Int.ne_of_gt hm)
  have h3 := Int.emod_lt_of_pos v hm
  rw [h1]
  refine brP (fun e => ?_) (fun e => ?_)
  · split at e
    · omega
    · rename_i hc
      rw [if_neg hc, wrap64 (by omega) (by omega)]
      rw [show v % m - m + m = v % m by omega]
      exact h
  · split at e
    · rename_i hc
      rw [if_pos hc]; exact h
    · omega

theorem c33_ok {x : O} {b : Bool} {k : List Int → Prop} (hx : Ok x) (h : k (br b (long x) (short x))) : c33 x b k := by
  constructor
  unfold tc33
  have hw : ∀ (z : Int), 0 ≤ z → z ≤ 67108864 → IntKind.wrap .i64 ((IntKind.wrap .i64 ((IntKind.wrap .i64 ((IntKind.wrap .i64 ((IntKind.wrap .i64 (x.1 * 134217728)) + (IntKind.wrap .i64 (x.2.1 * 4194304)))) + (IntKind.wrap .i64 (x.2.2.1 * 262144)))) + (IntKind.wrap .i64 (x.2.2.2.1 * 16384)))) + z) = word x + z := by
    intro z hz1 hz2
    obtain ⟨h1, h2, h3, h4, h5⟩ := hx
    unfold word
    rw [wrap64 (a := x.1 * 134217728) (by omega) (by omega), wrap64 (a := x.2.1 * 4194304) (by omega) (by omega), wrap64 (a := x.2.2.1 * 262144) (by omega) (by omega), wrap64 (a := x.2.2.2.1 * 16384) (by omega) (by omega)]
    rw [wrap64 (a := x.1 * 134217728 + x.2.1 * 4194304) (by omega) (by omega), wrap64 (a := x.1 * 134217728 + x.2.1 * 4194304 + x.2.2.1 * 262144) (by omega) (by omega), wrap64 (a := x.1 * 134217728 + x.2.1 * 4194304 + x.2.2.1 * 262144 + x.2.2.2.1 * 16384) (by omega) (by omega), wrap64 (by omega) (by omega)]
  cases b with
  | true =>
    refine brT rfl (c106_ok (by decide) (by decide) ?_)
    rw [hw _ (by decide) (by decide)]
    exact h
  | false =>
    refine brF rfl (c106_ok (by decide) (by decide) ?_)
    rw [hw _ (by omega) (by omega)]
    exact h

theorem and255 (n : Int) : bitop .and .i64 n 255 = n % 256 := bitop_and_low n 8 (by decide)
theorem and32 (n : Int) : bitop .and .i64 n 4294967295 = n % 4294967296 := bitop_and_low n 32 (by decide)
theorem word_nat {x : O} (hx : Ok x) : ∃ q : Nat, word x = ((q * 16384 : Nat) : Int) ∧ q * 16384 ≤ 3355443200 ∧ q / 4096 % 2 = 0 := by
  obtain ⟨h1, h2, h3, h4, h5⟩ := hx
  refine ⟨(x.1 * 8192 + x.2.1 * 256 + x.2.2.1 * 16 + x.2.2.2.1).toNat, ?_, ?_, ?_⟩
  · unfold word; omega
  · omega
  · omega
theorem or_mid {a r : Nat} (hr : r < 67108864) : (a * 134217728 + r) ||| 67108864 = a * 134217728 + r + 67108864 := by
  have h26 : (2 : Nat) ^ 26 = 67108864 := rfl
  have h27 : (2 : Nat) ^ 27 = 134217728 := rfl
  have a1 : 67108864 ||| r = 67108864 + r := by
    have := lor_add 1 r 26 (by omega)
    rw [h26, Nat.one_mul] at this
    exact this
  have a2 : (a * 134217728) ||| r = a * 134217728 + r := by
    have := lor_add a r 27 (by omega)
    rw [h27] at this
    exact this
  have a3 : (a * 134217728) ||| (67108864 + r) = a * 134217728 + (67108864 + r) := by
    have := lor_add a (67108864 + r) 27 (by omega)
    rw [h27] at this
    exact this
  rw [← a2, Nat.or_assoc, Nat.or_comm r, a1, a3, a2]
  omega
theorem or_long {x : O} (hx : Ok x) : bitop .or .i64 (word x) 67108864 = word x + 67108864 := by
  obtain ⟨q, hq, hb, hm⟩ := word_nat hx
  rw [hq]
  have e : q * 16384 = (q / 8192) * 134217728 + q % 4096 * 16384 := by omega
  have e2 : bitop .or .i64 ((q * 16384 : Nat) : Int) ((67108864 : Nat) : Int) = (((q * 16384) ||| 67108864 : Nat) : Int) := bitop_or (by omega) (by omega)
  have e1 : (q * 16384) ||| 67108864 = q * 16384 + 67108864 := by
    rw [e]
    exact or_mid (by omega)
  rw [e1] at e2
  exact e2
theorem or_short {x : O} (hx : Ok x) {n : Int} : bitop .or .i64 (word x) (n % 256) = word x + n % 256 := by
  obtain ⟨q, hq, hb, hm⟩ := word_nat hx
  rw [hq]
  have h1 := Int.emod_nonneg n (show (256 : Int) ≠ 0 by decide)
  have h2 := Int.emod_lt_of_pos n (show (0 : Int) < 256 by decide)
  obtain ⟨r, hr⟩ := Int.eq_ofNat_of_zero_le h1
  rw [hr] at h2 ⊢
  rw [or_step (a := q) (b := 0) (s := 14) rfl (by show _ < 16384; omega) (by omega)]
  omega

theorem c28_ok {x : O} {k : Int → Prop} (h : k (br (rng x.2.2.2.2.1 (-128) 127) 1 2)) : c28 x k := by
  constructor
  unfold tc28
  refine c103_ok ?_
  cases hr : rng x.2.2.2.2.1 (-128) 127 with
  | true => rw [hr] at h; exact h
  | false => rw [hr] at h; exact h
theorem c29_ok {n : Int} {k : Bool → Prop} (h : k (rng n (-128) 127)) : c29 n k := by
  constructor
  unfold tc29
  refine brP (fun e => ?_) (fun e => ?_)
  · rw [show rng n (-128) 127 = decide (n < 128) by unfold rng; rw [decide_eq_decide]; omega] at h; exact h
  · rw [show rng n (-128) 127 = false from decide_eq_false fun x => by omega] at h; exact h
theorem c27_ok {n : Int} {k : Bool → Prop} (h : k (rng n 16 20)) : c27 n k := by
  constructor
  unfold tc27
  refine brP (fun e => ?_) (fun e => ?_)
  · rw [show rng n 16 20 = decide (n ≤ 20) by unfold rng; rw [decide_eq_decide]; omega] at h; exact h
  · rw [show rng n 16 20 = false from decide_eq_false fun x => by omega] at h; exact h
theorem c26_ok {n : Int} {k : Bool → Prop} (h : k (rng n 16 20)) : c26 n k := by
  constructor
  unfold tc26
  refine brE (fun e => ?_) (fun e => brE (fun e => ?_) (fun e => brE (fun e => ?_) (fun e => brE (fun e => ?_) (fun e => ?_))))
  · subst e; exact h
  · subst e; exact h
  · subst e; exact h
  · subst e; exact h
  · have e' : (n == 20) = rng n 16 20 := by
      rw [Bool.eq_iff_iff, beq_iff_eq, rng_iff]; omega
    rw [e']; exact h

theorem c31_ok {x : O} {k : Int → List Int → Prop} (h1 : err x ≠ 0 → k (err x) []) (h2 : err x = 0 → k 0 (long x)) : c31 x k := by
  constructor
  unfold tc31
  refine c25_ok (brN (fun e => h1 e) (fun e => ?_))
  have hx := err_ok e
  refine c105_ok hx (brT (eqT_self _ _) (brT (eqT_self _ _) ?_))
  rw [or_long hx, and32]
  exact h2 e
theorem c30_ok {x : O} {k : Int → List Int → Prop} (h1 : err x ≠ 0 → k (err x) []) (h2 : err x = 0 → k 0 (br (rng x.2.2.2.2.1 (-128) 127) (short x) (long x))) : c30 x k := by
  constructor
  unfold tc30
  refine c25_ok (brN (fun e => h1 e) (fun e => c28_ok ?_))
  have hx := err_ok e
  have h2 := h2 e
  cases hr : rng x.2.2.2.2.1 (-128) 127 with
  | false =>
    rw [hr] at h2
    refine brT rfl (c31_ok (fun e' => absurd e e') (fun _ => h2))
  | true =>
    rw [hr] at h2
    refine brF rfl (c105_ok hx (brT (eqT_self _ _) (brT (eqT_self _ _) ?_)))
    rw [and255, or_short hx]
    exact h2
theorem c32_self {l : List Int} {k : Bool → Prop} (hl : l.length ≤ 1000) (h : k true) : c32 l l k := by
  constructor
  unfold tc32
  refine brN (fun e => absurd rfl e) (fun _ => ?_)
  constructor
  intro I hI
  have key : ∀ n (i : Nat), n + i = l.length → I l l (l.length : Int) (i : Int) := by
    intro n
    induction n with
    | zero =>
      intro i hn
      apply hI
      exact brP (fun h' => by omega) (fun _ => h)
    | succ n ih =>
      intro i hn
      have hi : i < l.length := by omega
      apply hI
      refine brP (fun _ => ?_) (fun h' => by omega)
      have hg : at? l (i : Int) = some l[i] := by simp [at?, hi]
      refine needS (v := l[i]) hg (needS (v := l[i]) hg (brN (fun e => absurd rfl e) (fun _ => ?_)))
      have hw : IntKind.wrap .i64 ((i : Int) + 1) = ((i + 1 : Nat) : Int) := by rw [wrap64 (by omega) (by omega)]; rfl
      rw [hw]
      exact ih _ (by omega)
  exact key l.length 0 (by omega)
end Go.Proofs.Ytfdoaacapkopmaa
