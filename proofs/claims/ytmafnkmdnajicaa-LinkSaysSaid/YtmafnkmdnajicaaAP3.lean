/- The law LinkSays, in plain Lean. -/
import Derived.Test.YtmafnkmdnajicaaAD3
import Derived.Test.YtmafnkmdnajicaaABKit
import Derived.Test.YtmafnkmdnajicaaAPKit2
import Derived.Test.YtmafnkmdnajicaaARow1
import Derived.Test.YtmafnkmdnajicaaARow6
set_option linter.unusedVariables false
set_option linter.unusedSimpArgs false
namespace Go.Proofs.Ytmafnkmdnajicaa
open Go.Abs
abbrev O := Int × Int × Int × Int × Int × Unit

def use (op : Int) : Bool × Bool × Bool × Bool × Unit :=
  br ((op : Int) == 0)
  (false, false, false, false, ())
  (br ((op : Int) == 22)
   (false, false, false, false, ())
   (br ((op : Int) == 1)
    (true, true, true, false, ())
    (br ((op : Int) == 2)
     (true, true, true, false, ())
     (br ((op : Int) == 3)
      (true, true, true, false, ())
      (br ((op : Int) == 4)
       (true, true, true, false, ())
       (br ((op : Int) == 5)
        (true, true, true, false, ())
        (br ((op : Int) == 6)
         (true, true, true, false, ())
         (br ((op : Int) == 7)
          (true, true, true, false, ())
          (br ((op : Int) == 15)
           (true, true, true, false, ())
           (br ((op : Int) == 8)
            (true, true, false, true, ())
            (br ((op : Int) == 9)
             (true, true, false, true, ())
             (br ((op : Int) == 10)
              (true, true, false, true, ())
              (br ((op : Int) == 12)
               (true, true, false, true, ())
               (br ((op : Int) == 11)
                (true, false, false, true, ())
                (br ((op : Int) == 13)
                 (false, true, true, true, ())
                 (br ((op : Int) == 16)
                  (false, true, true, true, ())
                  (br ((op : Int) == 17)
                   (false, true, true, true, ())
                   (br ((op : Int) == 18)
                    (false, true, true, true, ())
                    (br ((op : Int) == 14)
                     (true, false, true, true, ())
                     (br ((op : Int) == 19)
                      (false, false, false, true, ())
                      (br ((op : Int) == 20)
                       (false, false, false, true, ())
                       (br ((op : Int) == 24)
                        (false, false, false, true, ())
                        (false, true, false, false, ())))))))))))))))))))))))

theorem c41_ok {op : Int} {k : Bool × Bool × Bool × Bool × Unit → Prop} (h : k (use op)) : c41 op k := by
  constructor
  unfold tc41
  simp only [br_push]
  exact h
def rng (a b c : Int) : Bool := decide (b ≤ a ∧ a ≤ c)
theorem c40_ok {a b c : Int} {k : Bool → Prop} (h : k (rng a b c)) : c40 a b c k := by
  constructor
  unfold tc40
  unfold rng at h
  refine brP (fun h1 => ?_) (fun h1 => ?_)
  · have e : decide (a ≤ c) = decide (b ≤ a ∧ a ≤ c) := by
      rw [decide_eq_decide]; exact ⟨fun x => ⟨h1, x⟩, fun x => x.2⟩
    rw [e]; exact h
  · have e : decide (b ≤ a ∧ a ≤ c) = false := decide_eq_false fun x => h1 x.1
    rw [← e]; exact h

def tail (op n : Int) : Int :=
  br (op == 9 || op == 10) (br (rng n 0 31) 0 4) (br (op == 14) (br (rng n 0 4095) 0 4) (br (op == 24) (br (rng n 1 6) 0 4) 0))
def form (x : O) : Bool := (!(use x.1).1 && x.2.1 != 0) || (!(use x.1).2.1 && x.2.2.1 != 0) || (!(use x.1).2.2.1 && x.2.2.2.1 != 0) || (!(use x.1).2.2.2.1 && x.2.2.2.2.1 != 0)
def regs (x : O) : Bool := rng x.2.1 0 15 && rng x.2.2.1 0 15 && rng x.2.2.2.1 0 15
def err (x : O) : Int :=
  br (rng x.1 0 24) (br (regs x && rng x.2.2.2.2.1 (-2147483648) 2147483647) (br (form x) 3 (tail x.1 x.2.2.2.2.1)) 4) 1

theorem tail_ok {op n : Int} {k : Int → Prop} (h : k (tail op n)) :
    br (op == 9) (c40 n 0 31 (fun z => br (!z) (k 4) (br (op == 14) (c40 n 0 4095 (fun z => br (!z) (k 4) (br (op == 24) (c40 n 1 6 (fun z => br (!z) (k 4) (k 0))) (k 0)))) (br (op == 24) (c40 n 1 6 (fun z => br (!z) (k 4) (k 0))) (k 0)))))
      (br (op == 10) (c40 n 0 31 (fun z => br (!z) (k 4) (br (op == 14) (c40 n 0 4095 (fun z => br (!z) (k 4) (br (op == 24) (c40 n 1 6 (fun z => br (!z) (k 4) (k 0))) (k 0)))) (br (op == 24) (c40 n 1 6 (fun z => br (!z) (k 4) (k 0))) (k 0)))))
        (br (op == 14) (c40 n 0 4095 (fun z => br (!z) (k 4) (br (op == 24) (c40 n 1 6 (fun z => br (!z) (k 4) (k 0))) (k 0)))) (br (op == 24) (c40 n 1 6 (fun z => br (!z) (k 4) (k 0))) (k 0)))) := by
  unfold tail at h
  refine brE (fun e => ?_) (fun e9 => brE (fun e => ?_) (fun e10 => brE (fun e => ?_) (fun e14 => brE (fun e => ?_) (fun e24 => ?_))))
  · subst e
    refine c40_ok ?_
    cases hr : rng n 0 31 with
    | true => rw [hr] at h; exact h
    | false => rw [hr] at h; exact h
  · subst e
    refine c40_ok ?_
    cases hr : rng n 0 31 with
    | true => rw [hr] at h; exact h
    | false => rw [hr] at h; exact h
  · subst e
    refine c40_ok ?_
    cases hr : rng n 0 4095 with
    | true => rw [hr] at h; exact h
    | false => rw [hr] at h; exact h
  · subst e
    refine c40_ok ?_
    cases hr : rng n 1 6 with
    | true => rw [hr] at h; exact h
    | false => rw [hr] at h; exact h
  · rw [show (op == 9 || op == 10) = false by simp [e9, e10], show (op == 14) = false by simp [e14], show (op == 24) = false by simp [e24]] at h
    exact h

theorem c26_ok {x : O} {k : Int → Prop} (h : k (err x)) : c26 x k := by
  constructor
  unfold tc26
  unfold err regs form at h
  refine c40_ok ?_
  cases h0 : rng x.1 0 24 with
  | false => rw [h0] at h; exact h
  | true =>
  rw [h0] at h
  refine c40_ok ?_
  cases h1 : rng x.2.1 0 15 with
  | false => rw [h1] at h; exact h
  | true =>
  rw [h1] at h
  refine c40_ok ?_
  cases h2 : rng x.2.2.1 0 15 with
  | false => rw [h2] at h; exact h
  | true =>
  rw [h2] at h
  refine c40_ok ?_
  cases h3 : rng x.2.2.2.1 0 15 with
  | false => rw [h3] at h; exact h
  | true =>
  rw [h3] at h
  refine c40_ok ?_
  cases h4 : rng x.2.2.2.2.1 (-2147483648) 2147483647 with
  | false => rw [h4] at h; exact h
  | true =>
  rw [h4] at h
  refine c41_ok ?_
  revert h
  generalize use x.1 = u
  obtain ⟨u1, u2, u3, u4, _⟩ := u
  intro h
  cases u1 <;> cases u2 <;> cases u3 <;> cases u4 <;>
    (simp only [Bool.not_true, Bool.not_false, br_true, br_false, Bool.true_and, Bool.false_and, Bool.and_self, Bool.or_false, Bool.false_or] at h ⊢)
  all_goals
    repeat' (first
      | exact tail_ok h
      | exact h
      | (refine brI.2 ⟨fun e => ?_, fun e => ?_⟩ <;> simp only [e, Bool.true_or, Bool.or_true, Bool.false_or, Bool.or_false, br_true, br_false] at h))
end Go.Proofs.Ytmafnkmdnajicaa

/- The law of 'InsnSays', in plain Lean: the reference's errors. -/
namespace Go.Proofs.Ytmafnkmdnajicaa
open Go.Abs

theorem ops {n : Int} (h : 0 ≤ n ∧ n ≤ 24) : n = 0 ∨ n = 1 ∨ n = 2 ∨ n = 3 ∨ n = 4 ∨ n = 5 ∨ n = 6 ∨ n = 7 ∨ n = 8 ∨ n = 9 ∨ n = 10 ∨ n = 11 ∨ n = 12 ∨ n = 13 ∨ n = 14 ∨ n = 15 ∨ n = 16 ∨ n = 17 ∨ n = 18 ∨ n = 19 ∨ n = 20 ∨ n = 21 ∨ n = 22 ∨ n = 23 ∨ n = 24 := by omega

theorem c39_ok {s : List UInt8} {c : Int} {k : Bool → Prop} (hl : s.length ≤ 1000) (h : k (s.any fun b => (b.toNat : Int) == c)) : c39 s c k := by
  constructor
  unfold tc39
  constructor
  intro I hI
  have key : ∀ n (i : Nat), n + i = s.length → ((s.drop i).any fun b => (b.toNat : Int) == c) = (s.any fun b => (b.toNat : Int) == c) → I s c (s.length : Int) (i : Int) := by
    intro n
    induction n with
    | zero =>
      intro i hn he
      have hi : i = s.length := by omega
      apply hI
      refine brP (fun h' => by omega) (fun _ => ?_)
      subst hi
      simp only [List.drop_length, List.any_nil] at he
      rw [he]; exact h
    | succ n ih =>
      intro i hn he
      have hi : i < s.length := by omega
      apply hI
      refine brP (fun _ => ?_) (fun h' => by omega)
      refine needS (v := s[i]) (by simp [at?, hi]) ?_
      have hw : IntKind.wrap .i64 ((i : Int) + 1) = ((i + 1 : Nat) : Int) := by rw [wrap64 (by omega) (by omega)]; rfl
      rw [hw]
      have hd : s.drop i = s[i] :: s.drop (i + 1) := List.drop_eq_getElem_cons hi
      rw [hd, List.any_cons] at he
      cases hb : ((s[i].toNat : Int) == c) with
      | true =>
        refine brT rfl ?_
        rw [hb, Bool.true_or] at he
        rw [he]; exact h
      | false =>
        refine brF rfl (ih _ (by omega) ?_)
        rw [hb, Bool.false_or] at he
        exact he
  exact key s.length 0 (by omega) (by simp)

theorem br_true_v {α : Type} {x y : α} : br true x y = x := rfl
theorem out_rng {y lo hi : Int} {A P : Prop} (h1 : rng y lo hi = true → P) (h2 : rng y lo hi = false → A) : br (decide (y < lo)) A (br (decide (y > hi)) A P) := by
  unfold rng at h1 h2
  refine brP (fun e => h2 (decide_eq_false fun x => by omega)) (fun e => brP (fun e' => h2 (decide_eq_false fun x => by omega)) (fun e' => h1 (decide_eq_true (by omega))))

theorem l24r4_ok {k1 : Int → Prop} {k2 : O → Prop} {x : O} (h : br (regs x) (k2 x) (k1 4)) : l24r4 k1 k2 ((3 : Nat) : Int) 0 x [x.2.1, x.2.2.1, x.2.2.2.1] := by
  constructor
  intro I hI
  have w1 : IntKind.wrap .i64 (0 + 1) = 1 := by decide
  have w2 : IntKind.wrap .i64 (1 + 1) = 2 := by decide
  have w3 : IntKind.wrap .i64 (2 + 1) = 3 := by decide
  unfold regs at h
  apply hI
  refine brT (by decide) (brT (by simp) (needS (v := x.2.1) rfl (out_rng (fun e1 => ?_) fun e => ?_)))
  rotate_left
  · rw [e] at h; exact h
  rw [w1]
  rw [e1] at h
  apply hI
  refine brT (by decide) (brT (by simp) (needS (v := x.2.2.1) rfl (out_rng (fun e2 => ?_) fun e => ?_)))
  rotate_left
  · rw [e] at h; exact h
  rw [w2]
  rw [e2] at h
  apply hI
  refine brT (by decide) (brT (by simp) (needS (v := x.2.2.2.1) rfl (out_rng (fun e3 => ?_) fun e => ?_)))
  rotate_left
  · rw [e] at h; exact h
  rw [w3]
  rw [e3] at h
  apply hI
  refine brF (by decide) h

def memL : List (List UInt8) := [[], [(68 : UInt8), (65 : UInt8), (66 : UInt8)], [(68 : UInt8), (65 : UInt8), (66 : UInt8)], [(68 : UInt8), (65 : UInt8), (66 : UInt8)], [(68 : UInt8), (65 : UInt8), (66 : UInt8)], [(68 : UInt8), (65 : UInt8), (66 : UInt8)], [(68 : UInt8), (65 : UInt8), (66 : UInt8)], [(68 : UInt8), (65 : UInt8), (66 : UInt8)], [(68 : UInt8), (65 : UInt8), (78 : UInt8)], [(68 : UInt8), (65 : UInt8), (78 : UInt8)], [(68 : UInt8), (65 : UInt8), (78 : UInt8)], [(68 : UInt8), (78 : UInt8)], [(68 : UInt8), (65 : UInt8), (78 : UInt8)], [(65 : UInt8), (66 : UInt8), (78 : UInt8)], [(68 : UInt8), (66 : UInt8), (78 : UInt8)], [(68 : UInt8), (65 : UInt8), (66 : UInt8)], [(65 : UInt8), (66 : UInt8), (78 : UInt8)], [(65 : UInt8), (66 : UInt8), (78 : UInt8)], [(65 : UInt8), (66 : UInt8), (78 : UInt8)], [(78 : UInt8)], [(78 : UInt8)], [(65 : UInt8)], [], [(65 : UInt8)], [(78 : UInt8)]]
def memb (op : Int) : List UInt8 := memL.getD op.toNat []
def has (s : List UInt8) (c : Int) : Bool := s.any fun b => (b.toNat : Int) == c
theorem memb_len (op : Int) (h : 0 ≤ op ∧ op ≤ 24) : (memb op).length ≤ 1000 := by
  rcases ops h with e | e | e | e | e | e | e | e | e | e | e | e | e | e | e | e | e | e | e | e | e | e | e | e | e <;> subst e <;> decide
theorem memb_use (op : Int) (h : 0 ≤ op ∧ op ≤ 24) : has (memb op) 68 = (use op).1 ∧ has (memb op) 65 = (use op).2.1 ∧ has (memb op) 66 = (use op).2.2.1 ∧ has (memb op) 78 = (use op).2.2.2.1 := by
  rcases ops h with e | e | e | e | e | e | e | e | e | e | e | e | e | e | e | e | e | e | e | e | e | e | e | e | e <;> subst e <;> decide
theorem memb_get (op : Int) (h : 0 ≤ op ∧ op ≤ 24) : memL[op.toNat]? = some (memb op) := by
  rcases ops h with e | e | e | e | e | e | e | e | e | e | e | e | e | e | e | e | e | e | e | e | e | e | e | e | e <;> subst e <;> rfl

theorem one_letter {s : List UInt8} {v c : Int} {y : UInt8} (hl : s.length ≤ 1000) (hy : (y.toNat : Int) = c) {o : Option UInt8} (ho : o = some y) {A P : Prop} (h1 : (v != 0 && !has s c) = true → A) (h2 : (v != 0 && !has s c) = false → P) :
    br (v != 0) (need False o fun y7 => c39 s (UInt8.toNat y7 : Int) (fun z8 => br (!z8) A P)) P := by
  subst ho
  refine brI.2 ⟨fun e => ?_, fun e => h2 (by rw [e]; rfl)⟩
  rw [need_some]
  refine c39_ok hl ?_
  rw [hy]
  have hh : (s.any fun b => (b.toNat : Int) == c) = has s c := rfl
  rw [hh]
  rw [e, Bool.true_and] at h1 h2
  cases hs : has s c with
  | true => exact h2 (by rw [hs]; rfl)
  | false => exact h1 (by rw [hs]; rfl)

theorem l24r13_ok {k1 : Int → Prop} {k2 : O → Prop} {s : List UInt8} (hl : s.length ≤ 1000) {x : O}
    (h : br ((x.2.1 != 0 && !has s 68) || (x.2.2.1 != 0 && !has s 65) || (x.2.2.2.1 != 0 && !has s 66) || (x.2.2.2.2.1 != 0 && !has s 78)) (k1 3) (k2 x)) : l24r13 k1 k2 s ((4 : Nat) : Int) 0 x [x.2.1, x.2.2.1, x.2.2.2.1, x.2.2.2.2.1] := by
  constructor
  intro I hI
  have w1 : IntKind.wrap .i64 (0 + 1) = 1 := by decide
  have w2 : IntKind.wrap .i64 (1 + 1) = 2 := by decide
  have w3 : IntKind.wrap .i64 (2 + 1) = 3 := by decide
  have w4 : IntKind.wrap .i64 (3 + 1) = 4 := by decide
  apply hI
  refine brT (by decide) (brT (by simp) (needS (v := x.2.1) rfl (one_letter hl (y := 68) (c := 68) rfl rfl (fun e => ?_) fun e1 => ?_)))
  · rw [e, Bool.true_or, Bool.true_or, Bool.true_or] at h; exact h
  rw [w1]
  apply hI
  refine brT (by decide) (brT (by simp) (needS (v := x.2.2.1) rfl (one_letter hl (y := 65) (c := 65) rfl rfl (fun e => ?_) fun e2 => ?_)))
  · rw [e1, e, Bool.false_or, Bool.true_or, Bool.true_or] at h; exact h
  rw [w2]
  apply hI
  refine brT (by decide) (brT (by simp) (needS (v := x.2.2.2.1) rfl (one_letter hl (y := 66) (c := 66) rfl rfl (fun e => ?_) fun e3 => ?_)))
  · rw [e1, e2, e, Bool.false_or, Bool.false_or, Bool.true_or] at h; exact h
  rw [w3]
  apply hI
  refine brT (by decide) (brT (by simp) (needS (v := x.2.2.2.2.1) rfl (one_letter hl (y := 78) (c := 78) rfl rfl (fun e => ?_) fun e4 => ?_)))
  · rw [e1, e2, e3, e, Bool.false_or, Bool.false_or, Bool.false_or] at h; exact h
  rw [w4]
  apply hI
  refine brF (by decide) ?_
  rw [e1, e2, e3, e4] at h
  exact h

theorem tail24 {op n : Int} {k : Int → Prop} (hn : rng n (-2147483648) 2147483647 = true) (h : k (tail op n)) :
    br ((op : Int) == 9) (br (decide (n < 0)) (k 4) (br (decide (n > 31)) (k 4) (k 0)))
     (br ((op : Int) == 10) (br (decide (n < 0)) (k 4) (br (decide (n > 31)) (k 4) (k 0)))
      (br ((op : Int) == 14) (br (decide (n < 0)) (k 4) (br (decide (n > 4095)) (k 4) (k 0)))
       (br ((op : Int) == 24) (br (decide (n < 1)) (k 4) (br (decide (n > 6)) (k 4) (k 0)))
        (br (decide (n < (-2147483648))) (k 4) (br (decide (n > 2147483647)) (k 4) (k 0)))))) := by
  unfold tail at h
  refine brE (fun e => ?_) (fun e9 => brE (fun e => ?_) (fun e10 => brE (fun e => ?_) (fun e14 => brE (fun e => ?_) (fun e24 => ?_))))
  · subst e; exact out_rng (fun e => by rw [e] at h; exact h) (fun e => by rw [e] at h; exact h)
  · subst e; exact out_rng (fun e => by rw [e] at h; exact h) (fun e => by rw [e] at h; exact h)
  · subst e; exact out_rng (fun e => by rw [e] at h; exact h) (fun e => by rw [e] at h; exact h)
  · subst e; exact out_rng (fun e => by rw [e] at h; exact h) (fun e => by rw [e] at h; exact h)
  · rw [show (op == 9 || op == 10) = false by simp [e9, e10], show (op == 14) = false by simp [e14], show (op == 24) = false by simp [e24]] at h
    exact out_rng (fun _ => h) (fun e => by rw [hn] at e; cases e)

theorem rng_iff {a b c : Int} : rng a b c = true ↔ b ≤ a ∧ a ≤ c := by unfold rng; exact decide_eq_true_iff
theorem c24_ok {x : O} {k : Int → Prop} (h : k (err x)) : c24 x k := by
  constructor
  unfold tc24
  unfold err at h
  refine out_rng (lo := 0) (hi := 24) (fun h0 => ?_) (fun h0 => by rw [h0] at h; exact h)
  rw [h0, br_true_v] at h
  have hop := rng_iff.1 h0
  refine l24r4_ok ?_
  cases h1 : regs x with
  | false => rw [h1] at h; exact h
  | true =>
  rw [h1, Bool.true_and] at h
  rw [br_true]
  refine out_rng (fun h4 => ?_) (fun h4 => by rw [h4] at h; exact h)
  rw [h4, br_true_v] at h
  refine ⟨?_⟩
  refine brT rfl (brT (eqT_self (.int .i64) _) (brT (by simp; omega) (needS (v := memb x.1) (memb_get _ hop) (l24r13_ok (memb_len _ hop) ?_))))
  obtain ⟨m1, m2, m3, m4⟩ := memb_use _ hop
  rw [m1, m2, m3, m4]
  unfold form at h
  rw [Bool.and_comm (x.2.1 != 0), Bool.and_comm (x.2.2.1 != 0), Bool.and_comm (x.2.2.2.1 != 0), Bool.and_comm (x.2.2.2.2.1 != 0)]
  refine brI.2 ⟨fun e => ?_, fun e => ?_⟩
  · rw [e] at h; exact h
  · rw [e] at h; exact tail24 h4 h
end Go.Proofs.Ytmafnkmdnajicaa

/- The law of 'InsnSays', in plain Lean: reading. -/
namespace Go.Proofs.Ytmafnkmdnajicaa
open Go.Abs

theorem br_false_v {α : Type} {x y : α} : br false x y = y := rfl
theorem shr_nat {y s : Nat} (hs : s ≤ 64) : shrI .i64 (y : Int) (s : Int) = ((y / 2 ^ s : Nat) : Int) := by
  unfold shrI
  have e : min ((s : Int).toNat) (IntKind.bits .i64) = s := by
    simp [IntKind.bits]; omega
  rw [e, Int.fdiv_eq_ediv_of_nonneg _ (by exact Int.le_of_lt (Int.pow_pos (by decide)))]
  simp
theorem wrap32 {v : Nat} (h : v < 4294967296) : IntKind.wrap .i64 (IntKind.wrap .i32 (v : Int)) = if 2147483648 ≤ v then (v : Int) - 4294967296 else v := by
  have e : IntKind.wrap .i32 (v : Int) = if 2147483648 ≤ v then (v : Int) - 4294967296 else v := by
    simp [IntKind.wrap, IntKind.signed, IntKind.bits]
    split <;> omega
  rw [e, wrap64 (by split <;> omega) (by split <;> omega)]
theorem wrap8 {v : Nat} (h : v < 256) : IntKind.wrap .i64 (IntKind.wrap .i8 (v : Int)) = if 128 ≤ v then (v : Int) - 256 else v := by
  have e : IntKind.wrap .i8 (v : Int) = if 128 ≤ v then (v : Int) - 256 else v := by
    simp [IntKind.wrap, IntKind.signed, IntKind.bits]
    split <;> omega
  rw [e, wrap64 (by split <;> omega) (by split <;> omega)]

abbrev V := O × Int × Int
def zv (e : Int) : V := ((0, 0, 0, 0, 0, ()), 0, e)
def fin (o : O) (n : Int) : V := br (err o != 0) (zv 3) (o, n, 0)
def mk (y : Nat) (n : Int) : O := (((y / 134217728 : Nat) : Int), ((y / 4194304 % 16 : Nat) : Int), ((y / 262144 % 16 : Nat) : Int), ((y / 16384 % 16 : Nat) : Int), n, ())
def dv (l : List Int) : V :=
  match l with
  | [] => zv 12
  | w :: r =>
    br (rng w 0 4294967295)
      (br (decide (w.toNat / 256 % 64 ≠ 0)) (zv 3)
        (br (decide (w.toNat / 67108864 % 2 = 1))
          (br (decide (w.toNat % 256 ≠ 0)) (zv 3)
            (match r with
            | [] => zv 12
            | v :: _ => br (rng v 0 4294967295) (fin (mk w.toNat (if 2147483648 ≤ v.toNat then (v.toNat : Int) - 4294967296 else v.toNat)) 2) (zv 3)))
          (fin (mk w.toNat (if 128 ≤ w.toNat % 256 then ((w.toNat % 256 : Nat) : Int) - 256 else ((w.toNat % 256 : Nat) : Int))) 1)))
      (zv 3)
def kv (k : O → Int → Int → Prop) (v : V) : Prop := k v.1 v.2.1 v.2.2

theorem fin_ok {c : O → (Int → Prop) → Prop} (hc : ∀ {x : O} {k : Int → Prop}, k (err x) → c x k) {o : O} {n : Int} {k : O → Int → Int → Prop} (h : kv k (fin o n)) :
    c o (fun z => br (z != 0) (k (0, 0, 0, 0, 0, ()) 0 3) (k o n 0)) := by
  refine hc ?_
  unfold fin at h
  refine brI.2 ⟨fun e => ?_, fun e => ?_⟩
  · rw [e] at h; exact h
  · rw [e] at h; exact h

theorem len_ne {w : Int} {r : List Int} : ((((w :: r).length : Nat) : Int) == 0) = false := by simp; omega

end Go.Proofs.Ytmafnkmdnajicaa

namespace Go.Proofs.Ytmafnkmdnajicaa
open Go.Abs
theorem tdiv_nat (y d : Nat) (hy : y < 4294967296) : IntKind.wrap .i64 (Int.tdiv (y : Int) (d : Int)) = ((y / d : Nat) : Int) := by
  have h : y / d ≤ y := Nat.div_le_self _ _
  rw [← Int.ofNat_tdiv]
  revert h
  generalize y / d = q
  intro h
  exact wrap64 (by omega) (by omega)
end Go.Proofs.Ytmafnkmdnajicaa

/- The law of 'InsnSays', in plain Lean: words; the law. -/
namespace Go.Proofs.Ytmafnkmdnajicaa
open Go.Abs

theorem shl_nat {m s : Nat} (hs : s ≤ 64) (h : m * 2 ^ s < 9223372036854775808) : shlI .i64 (m : Int) (s : Int) = ((m * 2 ^ s : Nat) : Int) := by
  unfold shlI
  have e : min ((s : Int).toNat) (IntKind.bits .i64) = s := by
    simp [IntKind.bits]; omega
  rw [e]
  have e2 : ((m : Int) * 2 ^ s) = ((m * 2 ^ s : Nat) : Int) := by simp
  rw [e2]
  generalize m * 2 ^ s = q at h
  exact wrap64 (by omega) (by omega)

structure Ok (x : O) : Prop where
  op : 0 ≤ x.1 ∧ x.1 ≤ 24
  d : 0 ≤ x.2.1 ∧ x.2.1 ≤ 15
  a : 0 ≤ x.2.2.1 ∧ x.2.2.1 ≤ 15
  b : 0 ≤ x.2.2.2.1 ∧ x.2.2.2.1 ≤ 15
  n : -2147483648 ≤ x.2.2.2.2.1 ∧ x.2.2.2.2.1 ≤ 2147483647

theorem err_ok {x : O} (h : err x = 0) : Ok x := by
  unfold err at h
  cases h0 : rng x.1 0 24 with
  | false => rw [h0] at h; cases h
  | true =>
  rw [h0, br_true_v] at h
  cases h1 : (regs x && rng x.2.2.2.2.1 (-2147483648) 2147483647) with
  | false => rw [h1] at h; cases h
  | true =>
  simp only [regs, Bool.and_eq_true, rng_iff] at h1
  exact ⟨rng_iff.1 h0, h1.1.1.1, h1.1.1.2, h1.1.2, h1.2⟩

def word (x : O) : Int := x.1 * 134217728 + x.2.1 * 4194304 + x.2.2.1 * 262144 + x.2.2.2.1 * 16384
def long (x : O) : List Int := [word x + 67108864, x.2.2.2.2.1 % 4294967296]
def short (x : O) : List Int := [word x + x.2.2.2.2.1 % 256]

theorem or_step {A B s : Nat} {a b : Nat} (hA : A = a * 2 ^ s) (hB : B < 2 ^ s) (h : A + B < 9223372036854775808) : bitop .or .i64 (A : Int) (B : Int) = ((A + B : Nat) : Int) := by
  rw [bitop_or (by omega) (by omega), hA, lor_add _ _ _ hB]

theorem c50_ok {x : O} {k : Int → Prop} (hx : Ok x) (h : k (word x)) : c50 x k := by
  obtain ⟨o, d, a, b, n, u⟩ := x
  obtain ⟨h1, h2, h3, h4, h5⟩ := hx
  dsimp only at h1 h2 h3 h4 h5
  obtain ⟨o, rfl⟩ := Int.eq_ofNat_of_zero_le h1.1
  obtain ⟨d, rfl⟩ := Int.eq_ofNat_of_zero_le h2.1
  obtain ⟨a, rfl⟩ := Int.eq_ofNat_of_zero_le h3.1
  obtain ⟨b, rfl⟩ := Int.eq_ofNat_of_zero_le h4.1
  constructor
  unfold tc50
  dsimp only
  have e1 : shlI .i64 (o : Int) 27 = ((o * 134217728 : Nat) : Int) := shl_nat (m := o) (s := 27) (by decide) (by show o * 134217728 < _; omega)
  have e2 : shlI .i64 (d : Int) 22 = ((d * 4194304 : Nat) : Int) := shl_nat (m := d) (s := 22) (by decide) (by show d * 4194304 < _; omega)
  have e3 : shlI .i64 (a : Int) 18 = ((a * 262144 : Nat) : Int) := shl_nat (m := a) (s := 18) (by decide) (by show a * 262144 < _; omega)
  have e4 : shlI .i64 (b : Int) 14 = ((b * 16384 : Nat) : Int) := shl_nat (m := b) (s := 14) (by decide) (by show b * 16384 < _; omega)
  rw [e1, e2, e3, e4]
  rw [or_step (a := o) (b := 0) (s := 27) rfl (by show _ < 134217728; omega) (by omega)]
  rw [or_step (a := o * 32 + d) (b := 0) (s := 22) (by show _ = _ * 4194304; omega) (by show _ < 4194304; omega) (by omega)]
  rw [or_step (a := (o * 32 + d) * 16 + a) (b := 0) (s := 18) (by show _ = _ * 262144; omega) (by show _ < 262144; omega) (by omega)]
  have e : word ((o : Int), (d : Int), (a : Int), (b : Int), n, u) = ((o * 134217728 + d * 4194304 + a * 262144 + b * 16384 : Nat) : Int) := by
    unfold word; dsimp only; omega
  rw [e] at h
  exact h

theorem c48_ok {v m : Int} {k : Int → Prop} (hm : 0 < m) (hm2 : m ≤ 4294967296) (h : k (v % m)) : c48 v m k := by
  constructor
  unfold tc48
  refine brE (fun e => by omega) (fun _ => ?_)
  have h1 : Int.tmod v m = if 0 ≤ v % m ∧ 0 ≤ v ∨ v % m = 0 then v % m else v % m - m := by
    rw [Int.tmod_eq_emod]
    have h2 := Int.emod_nonneg v (Int.ne_of_gt hm)
    by_cases hv : 0 ≤ v
    · simp [hv, h2]
    · by_cases hd : m ∣ v
      · simp [hd, Int.emod_eq_zero_of_dvd hd]
      · have : v % m ≠ 0 := fun e => hd (Int.dvd_of_emod_eq_zero e)
        simp [hv, hd, this]
        omega
  have h2 := Int.emod_nonneg v (Int.ne_of_gt hm)
  have h3 := Int.emod_lt_of_pos v hm
  rw [h1]
  refine brP (fun e => ?_) (fun e => ?_)
  · split at e
    · omega
    · rename_i hc
      rw [if_neg hc, wrap64 (by omega) (by omega)]
      rw [show v % m - m + m = v % m by omega]
      exact h
  · split at e
    · rename_i hc
      rw [if_pos hc]; exact h
    · omega

theorem c32_ok {x : O} {b : Bool} {k : List Int → Prop} (hx : Ok x) (h : k (br b (long x) (short x))) : c32 x b k := by
  constructor
  unfold tc32
  have hw : ∀ (z : Int), 0 ≤ z → z ≤ 67108864 → IntKind.wrap .i64 ((IntKind.wrap .i64 ((IntKind.wrap .i64 ((IntKind.wrap .i64 ((IntKind.wrap .i64 (x.1 * 134217728)) + (IntKind.wrap .i64 (x.2.1 * 4194304)))) + (IntKind.wrap .i64 (x.2.2.1 * 262144)))) + (IntKind.wrap .i64 (x.2.2.2.1 * 16384)))) + z) = word x + z := by
    intro z hz1 hz2
    obtain ⟨h1, h2, h3, h4, h5⟩ := hx
    unfold word
    rw [wrap64 (a := x.1 * 134217728) (by omega) (by omega), wrap64 (a := x.2.1 * 4194304) (by omega) (by omega), wrap64 (a := x.2.2.1 * 262144) (by omega) (by omega), wrap64 (a := x.2.2.2.1 * 16384) (by omega) (by omega)]
    rw [wrap64 (a := x.1 * 134217728 + x.2.1 * 4194304) (by omega) (by omega), wrap64 (a := x.1 * 134217728 + x.2.1 * 4194304 + x.2.2.1 * 262144) (by omega) (by omega), wrap64 (a := x.1 * 134217728 + x.2.1 * 4194304 + x.2.2.1 * 262144 + x.2.2.2.1 * 16384) (by omega) (by omega), wrap64 (by omega) (by omega)]
  cases b with
  | true =>
    refine brT rfl (c48_ok (by decide) (by decide) ?_)
    rw [hw _ (by decide) (by decide)]
    exact h
  | false =>
    refine brF rfl (c48_ok (by decide) (by decide) ?_)
    rw [hw _ (by omega) (by omega)]
    exact h

theorem and255 (n : Int) : bitop .and .i64 n 255 = n % 256 := bitop_and_low n 8 (by decide)
theorem and32 (n : Int) : bitop .and .i64 n 4294967295 = n % 4294967296 := bitop_and_low n 32 (by decide)
theorem word_nat {x : O} (hx : Ok x) : ∃ q : Nat, word x = ((q * 16384 : Nat) : Int) ∧ q * 16384 ≤ 3355443200 ∧ q / 4096 % 2 = 0 := by
  obtain ⟨h1, h2, h3, h4, h5⟩ := hx
  refine ⟨(x.1 * 8192 + x.2.1 * 256 + x.2.2.1 * 16 + x.2.2.2.1).toNat, ?_, ?_, ?_⟩
  · unfold word; omega
  · omega
  · omega
theorem or_mid {a r : Nat} (hr : r < 67108864) : (a * 134217728 + r) ||| 67108864 = a * 134217728 + r + 67108864 := by
  have h26 : (2 : Nat) ^ 26 = 67108864 := rfl
  have h27 : (2 : Nat) ^ 27 = 134217728 := rfl
  have a1 : 67108864 ||| r = 67108864 + r := by
    have := lor_add 1 r 26 (by omega)
    rw [h26, Nat.one_mul] at this
    exact this
  have a2 : (a * 134217728) ||| r = a * 134217728 + r := by
    have := lor_add a r 27 (by omega)
    rw [h27] at this
    exact this
  have a3 : (a * 134217728) ||| (67108864 + r) = a * 134217728 + (67108864 + r) := by
    have := lor_add a (67108864 + r) 27 (by omega)
    rw [h27] at this
    exact this
  rw [← a2, Nat.or_assoc, Nat.or_comm r, a1, a3, a2]
  omega
theorem or_long {x : O} (hx : Ok x) : bitop .or .i64 (word x) 67108864 = word x + 67108864 := by
  obtain ⟨q, hq, hb, hm⟩ := word_nat hx
  rw [hq]
  have e : q * 16384 = (q / 8192) * 134217728 + q % 4096 * 16384 := by omega
  have e2 : bitop .or .i64 ((q * 16384 : Nat) : Int) ((67108864 : Nat) : Int) = (((q * 16384) ||| 67108864 : Nat) : Int) := bitop_or (by omega) (by omega)
  have e1 : (q * 16384) ||| 67108864 = q * 16384 + 67108864 := by
    rw [e]
    exact or_mid (by omega)
  rw [e1] at e2
  exact e2
theorem or_short {x : O} (hx : Ok x) {n : Int} : bitop .or .i64 (word x) (n % 256) = word x + n % 256 := by
  obtain ⟨q, hq, hb, hm⟩ := word_nat hx
  rw [hq]
  have h1 := Int.emod_nonneg n (show (256 : Int) ≠ 0 by decide)
  have h2 := Int.emod_lt_of_pos n (show (0 : Int) < 256 by decide)
  obtain ⟨r, hr⟩ := Int.eq_ofNat_of_zero_le h1
  rw [hr] at h2 ⊢
  rw [or_step (a := q) (b := 0) (s := 14) rfl (by show _ < 16384; omega) (by omega)]
  omega

theorem c49_ok {x : O} {k : Int → Prop} (h : k (br (rng x.2.2.2.2.1 (-128) 127) 1 2)) : c49 x k := by
  constructor
  unfold tc49
  refine c40_ok ?_
  cases hr : rng x.2.2.2.2.1 (-128) 127 with
  | true => rw [hr] at h; exact h
  | false => rw [hr] at h; exact h
theorem c30_ok {n : Int} {k : Bool → Prop} (h : k (rng n (-128) 127)) : c30 n k := by
  constructor
  unfold tc30
  refine brP (fun e => ?_) (fun e => ?_)
  · rw [show rng n (-128) 127 = decide (n < 128) by unfold rng; rw [decide_eq_decide]; omega] at h; exact h
  · rw [show rng n (-128) 127 = false from decide_eq_false fun x => by omega] at h; exact h
theorem c25_ok {n : Int} {k : Bool → Prop} (h : k (rng n 16 20)) : c25 n k := by
  constructor
  unfold tc25
  refine brP (fun e => ?_) (fun e => ?_)
  · rw [show rng n 16 20 = decide (n ≤ 20) by unfold rng; rw [decide_eq_decide]; omega] at h; exact h
  · rw [show rng n 16 20 = false from decide_eq_false fun x => by omega] at h; exact h
theorem c27_ok {n : Int} {k : Bool → Prop} (h : k (rng n 16 20)) : c27 n k := by
  constructor
  unfold tc27
  refine brE (fun e => ?_) (fun e => brE (fun e => ?_) (fun e => brE (fun e => ?_) (fun e => brE (fun e => ?_) (fun e => ?_))))
  · subst e; exact h
  · subst e; exact h
  · subst e; exact h
  · subst e; exact h
  · have e' : (n == 20) = rng n 16 20 := by
      rw [Bool.eq_iff_iff, beq_iff_eq, rng_iff]; omega
    rw [e']; exact h

theorem c45_ok {x : O} {k : Int → List Int → Prop} (h1 : err x ≠ 0 → k (err x) []) (h2 : err x = 0 → k 0 (long x)) : c45 x k := by
  constructor
  unfold tc45
  refine c26_ok (brN (fun e => h1 e) (fun e => ?_))
  have hx := err_ok e
  refine c50_ok hx (brT rfl (brT (eqT_self (.int .i64) _) (brT (eqT_self (.int .i64) _) ?_)))
  rw [or_long hx, and32]
  exact h2 e
theorem c44_ok {x : O} {k : Int → List Int → Prop} (h1 : err x ≠ 0 → k (err x) []) (h2 : err x = 0 → k 0 (br (rng x.2.2.2.2.1 (-128) 127) (short x) (long x))) : c44 x k := by
  constructor
  unfold tc44
  refine c26_ok (brN (fun e => h1 e) (fun e => c49_ok ?_))
  have hx := err_ok e
  have h2 := h2 e
  cases hr : rng x.2.2.2.2.1 (-128) 127 with
  | false =>
    rw [hr] at h2
    refine brT rfl (c45_ok (fun e' => absurd e e') (fun _ => h2))
  | true =>
    rw [hr] at h2
    refine brF rfl (c50_ok hx (brT rfl (brT (eqT_self (.int .i64) _) (brT (eqT_self (.int .i64) _) ?_))))
    rw [and255, or_short hx]
    exact h2
theorem c10_self {l : List Int} {k : Bool → Prop} (hl : l.length ≤ 1000) (h : k true) : c10 l l k := by
  constructor
  unfold tc10
  refine brN (fun e => absurd rfl e) (fun _ => ?_)
  constructor
  intro I hI
  have key : ∀ n (i : Nat), n + i = l.length → I l l (l.length : Int) (i : Int) := by
    intro n
    induction n with
    | zero =>
      intro i hn
      apply hI
      exact brP (fun h' => by omega) (fun _ => h)
    | succ n ih =>
      intro i hn
      have hi : i < l.length := by omega
      apply hI
      refine brP (fun _ => ?_) (fun h' => by omega)
      have hg : at? l (i : Int) = some l[i] := by simp [at?, hi]
      refine needS (v := l[i]) hg (needS (v := l[i]) hg (brN (fun e => absurd rfl e) (fun _ => ?_)))
      have hw : IntKind.wrap .i64 ((i : Int) + 1) = ((i + 1 : Nat) : Int) := by rw [wrap64 (by omega) (by omega)]; rfl
      rw [hw]
      exact ih _ (by omega)
  exact key l.length 0 (by omega)
abbrev RI := O × Int × Unit
abbrev LR := List RI

/-- the instruction with another number -/
def wn (o : O) (n : Int) : O := (o.1, o.2.1, o.2.2.1, o.2.2.2.1, n, o.2.2.2.2.2)
/-- the error of an item -/
def e0 (x : RI) : Int := if 0 ≤ x.2.1 then err (wn x.1 0) else err x.1
def ie (L : Int) (x : RI) : Int :=
  if e0 x ≠ 0 then e0 x else if x.2.1 < -1 ∨ x.2.1 > L then 4 else if 0 ≤ x.2.1 ∧ (rng x.1.1 16 20 = false ∨ x.1.2.2.2.2.1 ≠ 0) then 3 else 0
def ies (L : Int) : LR → Int
  | [] => 0
  | x :: r => if ie L x ≠ 0 then ie L x else ies L r

theorem item_go {c : O → (Int → Prop) → Prop} {cj : Int → (Bool → Prop) → Prop} (hc : ∀ {x : O} {k : Int → Prop}, k (err x) → c x k) (hj : ∀ {n : Int} {k : Bool → Prop}, k (rng n 16 20) → cj n k) {x : RI} {L : Int} {k1 : Int → Prop} {N : Prop}
    (h1 : ie L x ≠ 0 → k1 (ie L x)) (h2 : ie L x = 0 → N) :
    br (decide (x.2.1 ≥ 0)) (c (x.1.1, x.1.2.1, x.1.2.2.1, x.1.2.2.2.1, 0, x.1.2.2.2.2.2) fun z => br (z != 0) (k1 z) (br (decide (x.2.1 < -1)) (k1 4) (br (decide (x.2.1 > L)) (k1 4) (br (decide (x.2.1 ≥ 0)) (cj x.1.1 fun z7 => br (!z7) (k1 3) (br (x.1.2.2.2.2.1 != 0) (k1 3) N)) N))))
      (c x.1 fun z => br (z != 0) (k1 z) (br (decide (x.2.1 < -1)) (k1 4) (br (decide (x.2.1 > L)) (k1 4) (br (decide (x.2.1 ≥ 0)) (cj x.1.1 fun z7 => br (!z7) (k1 3) (br (x.1.2.2.2.2.1 != 0) (k1 3) N)) N)))) := by
  unfold ie at h1 h2
  refine brP (fun g => ?_) fun g => ?_
  · have hE : e0 x = err (x.1.1, x.1.2.1, x.1.2.2.1, x.1.2.2.2.1, 0, x.1.2.2.2.2.2) := if_pos g
    rw [hE] at h1 h2
    refine hc (brN (fun e => ?_) fun e => ?_)
    · rw [if_pos e] at h1; exact h1 e
    · rw [if_neg (fun h => h e)] at h1 h2
      refine brDn (by omega) (brP (fun g2 => ?_) fun g2 => brD g (hj ?_))
      · rw [if_pos (Or.inr g2)] at h1; exact h1 (by decide)
      · rw [if_neg (by omega)] at h1 h2
        cases hr : rng x.1.1 16 20 with
        | false => rw [hr, if_pos ⟨by omega, .inl rfl⟩] at h1; exact h1 (by decide)
        | true =>
          refine brF rfl (brN (fun e2 => ?_) fun e2 => ?_)
          · rw [if_pos ⟨by omega, .inr e2⟩] at h1; exact h1 (by decide)
          · rw [if_neg (by rw [hr]; rintro ⟨_, h | h⟩; cases h; exact h e2)] at h2; exact h2 rfl
  · have hE : e0 x = err x.1 := if_neg g
    rw [hE] at h1 h2
    refine hc (brN (fun e => ?_) fun e => ?_)
    · rw [if_pos e] at h1; exact h1 e
    · rw [if_neg (fun h => h e)] at h1 h2
      refine brP (fun g2 => ?_) fun g2 => brP (fun g3 => ?_) fun g3 => brDn g ?_
      · rw [if_pos (Or.inl g2)] at h1; exact h1 (by decide)
      · rw [if_pos (Or.inr g3)] at h1; exact h1 (by decide)
      · rw [if_neg (by omega), if_neg (by omega)] at h2; exact h2 rfl

theorem l14_ok {l : LR} {k1 : Int → Prop} {k2 : Prop} (hl : l.length ≤ 1000000) (h1 : ies l.length l ≠ 0 → k1 (ies l.length l)) (h2 : ies l.length l = 0 → k2) : l14r4 k1 k2 l l (l.length : Int) 0 := by
  constructor
  intro I hI
  refine upInd (N := l.length) (M := fun i => (ies l.length (l.drop i) ≠ 0 → k1 (ies l.length (l.drop i))) → (ies l.length (l.drop i) = 0 → k2) → I l l (l.length : Int) (i : Int)) ?_ ?_ 0 (Nat.zero_le _) (by simpa using h1) (by simpa using h2)
  · intro _ g
    exact hI _ _ _ _ (brDn (by omega) (g (by simp [ies])))
  · intro i hi ih g1 g2
    apply hI
    refine brD (by omega) (needAt hi ?_)
    rw [drop_cons hi] at g1 g2
    simp only [ies] at g1 g2
    rw [wrapS (by omega)]
    refine item_go (c := c26) (cj := c27) c26_ok c27_ok (fun e => ?_) fun e => ?_
    · rw [if_pos e] at g1; exact g1 e
    · rw [if_neg (by simpa using e)] at g1 g2; exact ih g1 g2
def chk (l : LR) : Int := if 16384 < l.length then 2 else ies l.length l
theorem chk_good {l : LR} (h : chk l = 0) : l.length ≤ 16384 ∧ ies l.length l = 0 := by
  unfold chk at h
  by_cases e : 16384 < l.length
  · rw [if_pos e] at h; cases h
  · rw [if_neg e] at h; exact ⟨by omega, h⟩
theorem c14_ok {l : LR} {k : Int → Prop} (h : k (chk l)) : c14 l k := by
  unfold chk at h
  constructor
  refine brP (fun e => ?_) fun e => ?_
  · rw [if_pos (by omega)] at h; exact h
  · rw [if_neg (by omega)] at h
    exact l14_ok (by omega) (fun _ => h) fun e => by rw [e] at h; exact h
theorem l12_ok {l : LR} {k1 : Int → Prop} {k2 : Prop} (hl : l.length ≤ 1000000) (h1 : ies l.length l ≠ 0 → k1 (ies l.length l)) (h2 : ies l.length l = 0 → k2) : l12r4 k1 k2 l l (l.length : Int) 0 := by
  constructor
  intro I hI
  refine upInd (N := l.length) (M := fun i => (ies l.length (l.drop i) ≠ 0 → k1 (ies l.length (l.drop i))) → (ies l.length (l.drop i) = 0 → k2) → I l l (l.length : Int) (i : Int)) ?_ ?_ 0 (Nat.zero_le _) (by simpa using h1) (by simpa using h2)
  · intro _ g
    exact hI _ _ _ _ (brDn (by omega) (g (by simp [ies])))
  · intro i hi ih g1 g2
    apply hI
    refine brD (by omega) (needAt hi ?_)
    rw [drop_cons hi] at g1 g2
    simp only [ies] at g1 g2
    rw [wrapS (by omega)]
    refine item_go (c := c24) (cj := c25) c24_ok c25_ok (fun e => ?_) fun e => ?_
    · rw [if_pos e] at g1; exact g1 e
    · rw [if_neg (by simpa using e)] at g1 g2; exact ih g1 g2
theorem c12_ok {l : LR} {k : Int → Prop} (h : k (chk l)) : c12 l k := by
  unfold chk at h
  constructor
  refine brP (fun e => ?_) fun e => ?_
  · rw [if_pos (by omega)] at h; exact h
  · rw [if_neg (by omega)] at h
    exact l12_ok (by omega) (fun _ => h) fun e => by rw [e] at h; exact h

/-! ### which items are long -/

/-- the address of an item -/
def Ad (g : List Bool) : Nat → Nat
  | 0 => 0
  | i + 1 => Ad g i + (if g[i]? = some true then 2 else 1)
theorem A_le (g : List Bool) : ∀ i, i ≤ Ad g i ∧ Ad g i ≤ 2 * i
  | 0 => by simp [Ad]
  | i + 1 => by have := A_le g i; simp only [Ad]; split <;> omega
def sh (n : Int) : Prop := -128 ≤ n ∧ n ≤ 127
instance (n : Int) : Decidable (sh n) := by unfold sh; infer_instance
/-- the distance of a short item -/
def ds (g : List Bool) (i : Nat) (t : Int) : Int := (Ad g t.toNat : Int) - (Ad g i : Int) - 1
def SubB (g m : List Bool) : Prop := ∀ i : Nat, g[i]? = some true → m[i]? = some true
def base (x : RI) : Bool := decide (x.2.1 < 0) && !rng x.1.2.2.2.2.1 (-128) 127
def Clo (l : LR) (g : List Bool) : Prop := ∀ i (h : i < l.length), 0 ≤ l[i].2.1 → g[i]? = some true ∨ sh (ds g i l[i].2.1)
def Bas (l : LR) (g : List Bool) : Prop := ∀ i (h : i < l.length), base l[i] = true → g[i]? = some true
/-- the longs as they must be -/
structure Best (l : LR) (g : List Bool) : Prop where
  len : g.length = l.length
  bas : Bas l g
  clo : Clo l g
  low : ∀ m, m.length = l.length → Bas l m → Clo l m → SubB g m

theorem A_seg {g m : List Bool} (h : SubB g m) {i : Nat} : ∀ n, (Ad g (i + n) : Int) - Ad g i ≤ (Ad m (i + n) : Int) - Ad m i
  | 0 => by simp
  | n + 1 => by
    have ih := A_seg h (i := i) n
    have e1 : Ad g (i + (n + 1)) = Ad g (i + n) + (if g[i + n]? = some true then 2 else 1) := rfl
    have e2 : Ad m (i + (n + 1)) = Ad m (i + n) + (if m[i + n]? = some true then 2 else 1) := rfl
    rw [e1, e2]
    by_cases hg : g[i + n]? = some true
    · rw [if_pos hg, if_pos (h _ hg)]; omega
    · rw [if_neg hg]; split <;> omega
theorem A_up {g : List Bool} {i : Nat} : ∀ n, (Ad g i : Int) + n ≤ (Ad g (i + n) : Int)
  | 0 => by simp
  | n + 1 => by
    have ih := A_up (g := g) (i := i) n
    have e1 : Ad g (i + (n + 1)) = Ad g (i + n) + (if g[i + n]? = some true then 2 else 1) := rfl
    rw [e1]
    split <;> omega
theorem sh_mono {g m : List Bool} (h : SubB g m) {i : Nat} {t : Int} (ht : 0 ≤ t) (hn : ¬sh (ds g i t)) : ¬sh (ds m i t) := by
  unfold ds sh at *
  obtain ⟨u, rfl⟩ := Int.eq_ofNat_of_zero_le ht
  rw [Int.toNat_natCast] at *
  rcases Nat.le_total i u with hl | hl
  · obtain ⟨n, rfl⟩ := Nat.exists_eq_add_of_le hl
    have a := A_seg h (i := i) n
    have b := A_up (g := g) (i := i) n
    omega
  · obtain ⟨n, rfl⟩ := Nat.exists_eq_add_of_le hl
    have a := A_seg h (i := u) n
    have b := A_up (g := g) (i := u) n
    omega
theorem best_eq {l : LR} {g m : List Bool} (hg : Best l g) (hm : Best l m) : g = m := by
  have h1 := hg.low m hm.len hm.bas hm.clo
  have h2 := hm.low g hg.len hg.bas hg.clo
  refine List.ext_getElem (by rw [hg.len, hm.len]) fun i a b => ?_
  have c1 := h1 i
  have c2 := h2 i
  rw [List.getElem?_eq_getElem a, List.getElem?_eq_getElem b] at c1 c2
  cases hx : g[i] <;> cases hy : m[i] <;> simp_all

/-- what holds of the longs at any time -/
structure Way' (l : LR) (g : List Bool) : Prop where
  len : g.length = l.length
  bas : Bas l g
  low : ∀ m, m.length = l.length → Bas l m → Clo l m → SubB g m
theorem way_set {l : LR} {g g0 : List Bool} (hw : Way' l g) (h0 : SubB g0 g) {i : Nat} (hi : i < l.length) (ht : 0 ≤ l[i].2.1) (hn : ¬sh (ds g0 i l[i].2.1)) : Way' l (g.set i true) := by
  refine ⟨by rw [List.length_set]; exact hw.len, fun j hj hb => ?_, fun m h1 h2 h3 j hj => ?_⟩
  · by_cases hij : i = j
    · subst hij; rw [List.getElem?_set_self (by rw [hw.len]; exact hi)]
    · rw [List.getElem?_set_ne hij]; exact hw.bas j hj hb
  · by_cases hij : i = j
    · subst hij
      rcases h3 i hi ht with h | h
      · exact h
      · exact absurd h (sh_mono (fun a b => hw.low m h1 h2 h3 a (h0 a b)) ht hn)
    · rw [List.getElem?_set_ne hij] at hj
      exact hw.low m h1 h2 h3 j hj
theorem sub_set {g g0 : List Bool} (h : SubB g0 g) {i : Nat} : SubB g0 (g.set i true) := by
  intro j hj
  by_cases hij : i = j
  · subst hij
    have := h i hj
    have hl : i < g.length := by
      rcases Nat.lt_or_ge i g.length with h | h
      · exact h
      · rw [List.getElem?_eq_none h] at this; cases this
    rw [List.getElem?_set_self hl]
  · rw [List.getElem?_set_ne hij]; exact h j hj
def cf (g : List Bool) : Nat := g.count false
theorem cf_set {g : List Bool} {i : Nat} (h : g[i]? = some false) : cf (g.set i true) + 1 = cf g := by
  unfold cf
  induction g generalizing i with
  | nil => simp at h
  | cons b r ih =>
    cases i with
    | zero => simp at h; subst h; simp
    | succ i =>
      have := ih (i := i) (by simpa using h)
      simp only [List.set_cons_succ, List.count_cons]
      omega

/-- the addresses -/
def atL (g : List Bool) (n : Nat) : List Int := (List.range (n + 1)).map fun i => ((Ad g i : Nat) : Int)
theorem atL_len {g : List Bool} {n : Nat} : (atL g n).length = n + 1 := by simp [atL]
theorem atL_get {g : List Bool} {n i : Nat} (h : i < (atL g n).length) : (atL g n)[i] = Ad g i := by simp [atL]
def pat (g : List Bool) (n i : Nat) : List Int := (List.range (n + 1)).map fun j => if j ≤ i then ((Ad g j : Nat) : Int) else 0
theorem pat_get {g : List Bool} {n i j : Nat} (h : j < (pat g n i).length) : (pat g n i)[j] = if j ≤ i then ((Ad g j : Nat) : Int) else 0 := by simp [pat]
theorem pat_set {g : List Bool} {n i : Nat} (hi : i < n) {v : Int} (hv : v = Ad g (i + 1)) : (pat g n i).set (i + 1) v = pat g n (i + 1) := by
  refine List.ext_getElem (by simp [pat]) fun j h1 h2 => ?_
  rw [pat_get]
  by_cases hj : i + 1 = j
  · subst hj; rw [List.getElem_set_self, if_pos (Nat.le_refl _), hv]
  · rw [List.getElem_set_ne hj, pat_get]
    by_cases hl : j ≤ i
    · rw [if_pos hl, if_pos (by omega)]
    · rw [if_neg hl, if_neg (by omega)]
theorem c43_ok {l : LR} {g : List Bool} {k : List Int → Prop} (hl : l.length ≤ 1000000) (hg : g.length = l.length) (h : k (atL g l.length)) : c43 l g k := by
  constructor
  unfold tc43
  rw [wrapS (by omega)]
  refine brD (by omega) ⟨?_⟩
  intro I hI
  rw [Int.toNat_natCast]
  have e0 : List.replicate (l.length + 1) (0 : Int) = pat g l.length 0 := by
    refine List.ext_getElem (by simp [pat]) fun j h1 h2 => ?_
    rw [pat_get, List.getElem_replicate]
    split
    · have : j = 0 := by omega
      subst this; rfl
    · rfl
  rw [e0]
  have hpl : ∀ i, (pat g l.length i).length = l.length + 1 := fun i => by simp [pat]
  refine upInd (N := l.length) (M := fun i => I g (l.length : Int) (i : Int) (pat g l.length i)) ?_ ?_ 0 (Nat.zero_le _)
  · apply hI
    refine brDn (by omega) ?_
    have : pat g l.length l.length = atL g l.length := by
      refine List.ext_getElem (by simp [pat, atL]) fun j h1 h2 => ?_
      rw [pat_get, atL_get, if_pos (by rw [hpl] at h1; omega)]
    rw [this]; exact h
  · intro i hi ih
    apply hI
    refine brD (by omega) (needAt (by omega) ?_)
    rw [wrapS (by omega), Int.toNat_natCast, Int.toNat_natCast]
    have hb := A_le g i
    have hA : Ad g (i + 1) = Ad g i + (if g[i]? = some true then 2 else 1) := rfl
    rw [List.getElem?_eq_getElem (by omega : i < g.length)] at hA
    refine brB (fun e => ?_) fun e => ?_
    all_goals
      rw [e] at hA
      refine brD (by rw [hpl]; omega) (needNth (by rw [hpl]; omega) (brD (by rw [hpl]; omega) (needNth (by rw [hpl]; omega) ?_)))
      rw [pat_get, if_pos (Nat.le_refl _), wrap64 (by omega) (by omega), pat_set hi (by rw [hA]; simp)]
      exact ih

theorem rng_sh {n : Int} : rng n (-128) 127 = decide (sh n) := rfl
theorem c49_two {o : O} {k : Int → Prop} (h : k (if sh o.2.2.2.2.1 then 1 else 2)) : c49 o k := by
  refine c49_ok ?_
  rw [rng_sh]
  by_cases hs : sh o.2.2.2.2.1
  · rw [if_pos hs] at h; rw [decide_eq_true hs]; exact h
  · rw [if_neg hs] at h; rw [decide_eq_false hs]; exact h

def Bnd (l : LR) : Prop := ∀ i (h : i < l.length), -1 ≤ l[i].2.1 ∧ l[i].2.1 ≤ l.length
theorem ies_zero {L : Int} : ∀ {l : LR}, ies L l = 0 → ∀ x ∈ l, ie L x = 0
  | [], _, x, hx => by cases hx
  | y :: r, h, x, hx => by
    simp only [ies] at h
    by_cases hy : ie L y = 0
    · rw [if_neg (by simpa using hy)] at h
      rcases List.mem_cons.1 hx with rfl | hx
      · exact hy
      · exact ies_zero h x hx
    · rw [if_pos hy] at h; exact absurd h hy
theorem ie_bnd {L : Int} {x : RI} (h : ie L x = 0) : -1 ≤ x.2.1 ∧ x.2.1 ≤ L := by
  unfold ie at h
  split at h
  · rename_i he; exact absurd h he
  · split at h
    · cases h
    · omega
theorem ies_bnd {l : LR} (h : ies l.length l = 0) : Bnd l := fun i hi => ie_bnd (ies_zero h _ (List.getElem_mem hi))

/-- one round -/
theorem l42r15_ok {l : LR} {g0 : List Bool} {k : LR → Bool → List Bool → Prop} (hl : l.length ≤ 1000000) (hb : Bnd l) (hw0 : Way' l g0)
    (h1 : Best l g0 → k l false g0) (h2 : ∀ g, Way' l g → cf g < cf g0 → k l true g) : l42r15 k l false l (l.length : Int) 0 g0 (atL g0 l.length) := by
  constructor
  intro I hI
  refine upInd (N := l.length) (M := fun i => ∀ (c : Bool) (g : List Bool), Way' l g → SubB g0 g → (c = true → cf g < cf g0) → (c = false → g = g0 ∧ ∀ j (hj : j < l.length), j < i → 0 ≤ l[j].2.1 → g0[j]? = some true ∨ sh (ds g0 j l[j].2.1)) → I l c l (l.length : Int) (i : Int) g (atL g0 l.length)) ?_ ?_ 0 (Nat.zero_le _) false g0 hw0 (fun _ h => h) (fun h => by cases h) (fun _ => ⟨rfl, fun j _ h => by omega⟩)
  · intro c g hw hs ht hf
    apply hI
    refine brDn (by omega) ?_
    cases c with
    | true => exact h2 g hw (ht rfl)
    | false =>
      obtain ⟨rfl, hc⟩ := hf rfl
      exact h1 ⟨hw.len, hw.bas, fun i hi ht => hc i hi hi ht, hw.low⟩
  · intro i hi ih c g hw hs ht hf
    apply hI
    have hgi : i < g.length := by rw [hw.len]; exact hi
    have hB := hb i hi
    have hal := atL_len (g := g0) (n := l.length)
    rw [wrapS (by omega), Int.toNat_natCast]
    refine brD (by omega) (needAt hi (brP (fun hn => ?_) fun hn => brD (by omega) (needNth hgi (brB (fun hb1 => ?_) fun hb1 => ?_))))
    · exact ih c g hw hs ht fun hc => ⟨(hf hc).1, fun j hj hji h0 => by
        by_cases hje : j = i
        · subst hje; omega
        · exact (hf hc).2 j hj (by omega) h0⟩
    · exact ih c g hw hs ht fun hc => ⟨(hf hc).1, fun j hj hji h0 => by
        by_cases hje : j = i
        · subst hje
          rw [← (hf hc).1, List.getElem?_eq_getElem hgi, hb1]; exact .inl rfl
        · exact (hf hc).2 j hj (by omega) h0⟩
    · have hA1 := A_le g0 l[i].2.1.toNat
      have hA2 := A_le g0 i
      refine brD (by omega) (needNth (by omega) (brD (by omega) (needNth (by omega) ?_)))
      rw [atL_get, atL_get, wrap64 (a := (Ad g0 l[i].2.1.toNat : Int) - (Ad g0 i : Int)) (by omega) (by omega), wrap64 (by omega) (by omega)]
      refine c49_two ?_
      dsimp only
      by_cases hsh : sh ((Ad g0 l[i].2.1.toNat : Int) - (Ad g0 i : Int) - 1)
      · rw [if_pos hsh]
        refine brF rfl (ih c g hw hs ht fun hc => ⟨(hf hc).1, fun j hj hji h0 => ?_⟩)
        by_cases hje : j = i
        · subst hje; exact .inr hsh
        · exact (hf hc).2 j hj (by omega) h0
      · rw [if_neg hsh]
        refine brT rfl (brD (by omega) (needNth hgi ?_))
        refine ih true _ (way_set hw hs hi (by omega) hsh) (sub_set hs) (fun _ => ?_) (fun hc => by cases hc)
        have e1 := cf_set (g := g) (i := i) (by rw [List.getElem?_eq_getElem hgi, hb1])
        cases c with
        | true => have := ht rfl; omega
        | false => have := (hf rfl).1; rw [← this]; omega

theorem l42r11_ok {l : LR} {k : List Bool → Prop} (hl : l.length ≤ 1000000) (hb : Bnd l) (h : ∀ g, Best l g → k g) {g : List Bool} (hw : Way' l g) : l42r11 k l true g := by
  constructor
  intro I hI
  have key : ∀ n (g : List Bool), cf g ≤ n → Way' l g → I l true g := by
    intro n
    induction n with
    | zero =>
      intro g hn hw
      exact hI _ _ _ (brT rfl (c43_ok hl hw.len (l42r15_ok hl hb hw (fun hB => hI _ _ _ (brF rfl (h g hB))) fun g' _ hlt => by omega)))
    | succ n ih =>
      intro g hn hw
      exact hI _ _ _ (brT rfl (c43_ok hl hw.len (l42r15_ok hl hb hw (fun hB => hI _ _ _ (brF rfl (h g hB))) fun g' hw' hlt => ih g' (by omega) hw')))
  exact key _ g (Nat.le_refl _) hw

/-- the longs at the begin -/
def bs (l : LR) : List Bool := l.map base
def pb (l : LR) (i : Nat) : List Bool := (List.range l.length).map fun j => if j < i then (l[j]?.map base).getD false else false
theorem pb_len {l : LR} {i : Nat} : (pb l i).length = l.length := by simp [pb]
theorem pb_set {l : LR} {i : Nat} (hi : i < l.length) : (pb l i).set i (base l[i]) = pb l (i + 1) := by
  refine List.ext_getElem (by simp [pb]) fun j h1 h2 => ?_
  have hj : j < l.length := by rw [pb_len] at h2; exact h2
  by_cases hij : i = j
  · subst hij; rw [List.getElem_set_self]; simp [pb, hj]
  · rw [List.getElem_set_ne hij]
    simp only [pb, List.getElem_map, List.getElem_range]
    by_cases hlt : j < i
    · rw [if_pos hlt, if_pos (by omega)]
    · rw [if_neg hlt, if_neg (by omega)]
theorem pb_zero {l : LR} : pb l 0 = List.replicate l.length false := by
  refine List.ext_getElem (by simp [pb]) fun j h1 h2 => by simp [pb]
theorem pb_all {l : LR} : pb l l.length = bs l := by
  refine List.ext_getElem (by simp [pb, bs]) fun j h1 h2 => ?_
  have hj : j < l.length := by rw [pb_len] at h1; exact h1
  simp [pb, bs, hj]
theorem way_bs {l : LR} : Way' l (bs l) := by
  refine ⟨by simp [bs], fun i hi hb => by simp [bs, hi, hb], fun m h1 h2 h3 j hj => ?_⟩
  have hl : j < l.length := by
    rcases Nat.lt_or_ge j l.length with h | h
    · exact h
    · rw [List.getElem?_eq_none (by simp [bs]; exact h)] at hj; cases hj
  exact h2 j hl (by simpa [bs, hl] using hj)

theorem l42r6_ok {l : LR} {k : LR → List Bool → Prop} (hl : l.length ≤ 1000000) (h : k l (bs l)) : l42r6 k l l (l.length : Int) 0 (List.replicate l.length false) := by
  constructor
  intro I hI
  rw [← pb_zero]
  refine upInd (N := l.length) (M := fun i => I l l (l.length : Int) (i : Int) (pb l i)) ?_ ?_ 0 (Nat.zero_le _)
  · refine hI _ _ _ _ _ (brDn (by omega) ?_)
    rw [pb_all]; exact h
  · intro i hi ih
    apply hI
    have hpl := pb_len (l := l) (i := i)
    rw [wrapS (by omega), Int.toNat_natCast]
    refine brD (by omega) (needAt hi (brP (fun hn => c49_two (brD (by omega) (needNth (by omega) ?_))) fun hn => brD (by omega) (needNth (by omega) ?_)))
    · have : ((if sh l[i].1.2.2.2.2.1 then (1 : Int) else 2) == 2) = base l[i] := by
        unfold base
        rw [decide_eq_true hn, rng_sh]
        by_cases hs : sh l[i].1.2.2.2.2.1 <;> simp [hs]
      rw [this, pb_set hi]; exact ih
    · have : base l[i] = false := by unfold base; rw [decide_eq_false hn]; rfl
      rw [← this, pb_set hi]; exact ih

theorem c42_ok {l : LR} {k : Int → List Bool → Prop} (h1 : chk l ≠ 0 → k (chk l) []) (h2 : chk l = 0 → ∀ g, Best l g → k 0 g) : c42 l k := by
  constructor
  unfold tc42
  refine c14_ok (brN (fun e => h1 e) fun e => ?_)
  obtain ⟨hl, he⟩ := chk_good e
  refine brD (by omega) ?_
  rw [Int.toNat_natCast]
  exact l42r6_ok (by omega) (l42r11_ok (by omega) (ies_bnd he) (h2 e) way_bs)

/-! ### the reference -/

theorem c30_sh {n : Int} {k : Bool → Prop} (h : k (decide (sh n))) : c30 n k := c30_ok h

theorem l20r3_ok {l : LR} {k : LR → List Bool → Prop} (hl : l.length ≤ 1000000) (h : k l (bs l)) : l20r3 k l l (l.length : Int) 0 (List.replicate l.length false) := by
  constructor
  intro I hI
  rw [← pb_zero]
  refine upInd (N := l.length) (M := fun i => I l l (l.length : Int) (i : Int) (pb l i)) ?_ ?_ 0 (Nat.zero_le _)
  · refine hI _ _ _ _ _ (brDn (by omega) ?_)
    rw [pb_all]; exact h
  · intro i hi ih
    apply hI
    have hpl := pb_len (l := l) (i := i)
    rw [wrapS (by omega), Int.toNat_natCast]
    refine brD (by omega) (needAt hi (brP (fun hn => c30_sh (brD (by omega) (needNth (by omega) ?_))) fun hn => brD (by omega) (needNth (by omega) ?_)))
    · have : (!decide (sh l[i].1.2.2.2.2.1)) = base l[i] := by
        unfold base
        rw [decide_eq_true hn, rng_sh]; rfl
      rw [this, pb_set hi]; exact ih
    · have : base l[i] = false := by unfold base; rw [decide_eq_false hn]; rfl
      rw [← this, pb_set hi]; exact ih

theorem c47_ok {a b : Nat} {g : List Bool} {k : Int → List Bool → Prop} (hab : a ≤ b) (hb : b ≤ g.length) (hl : g.length ≤ 1000000) (h : k ((Ad g b : Int) - Ad g a) g) : c47 (a : Int) (b : Int) g k := by
  constructor
  constructor
  intro I hI
  refine upInd (N := b) (M := fun i => a ≤ i → I (b : Int) ((Ad g i : Int) - Ad g a) (i : Int) g) ?_ ?_ a hab (Nat.le_refl _) |> (fun x => by simpa using x)
  · intro _
    exact hI _ _ _ _ (brDn (by omega) h)
  · intro i hi ih hai
    apply hI
    have h1 := A_le g i
    have h2 := A_le g a
    have hA : Ad g (i + 1) = Ad g i + (if g[i]? = some true then 2 else 1) := rfl
    rw [List.getElem?_eq_getElem (by omega : i < g.length)] at hA
    have ih := ih (by omega)
    rw [wrapS (n := i) (by omega), wrap64 (a := (Ad g i : Int) - Ad g a + 1) (by omega) (by omega)]
    refine brD (by omega) (needAt (by omega) (brB (fun e => ?_) fun e => ?_))
    · rw [e] at hA
      rw [wrap64 (by omega) (by omega)]
      rw [show (Ad g i : Int) - Ad g a + 1 + 1 = (Ad g (i + 1) : Int) - Ad g a by rw [hA]; simp; omega]
      exact ih
    · rw [e] at hA
      rw [show (Ad g i : Int) - Ad g a + 1 = (Ad g (i + 1) : Int) - Ad g a by rw [hA]; simp; omega]
      exact ih

theorem c31_ok {l : LR} {g : List Bool} {i : Nat} {k : Int → Prop} (hl : l.length ≤ 1000000) (hg : g.length = l.length) (hi : i < l.length) (h0 : 0 ≤ l[i].2.1) (h1 : l[i].2.1 ≤ l.length) (h : k ((Ad g l[i].2.1.toNat : Int) - Ad g (i + 1))) : c31 l g (i : Int) k := by
  constructor
  unfold tc31
  obtain ⟨t, ht⟩ := Int.eq_ofNat_of_zero_le h0
  refine needAt hi (brP (fun hgt => needAt hi ?_) fun hgt => needAt hi ?_)
  · rw [wrapS (by omega), ht]
    rw [ht, Int.toNat_natCast] at h
    exact c47_ok (by omega) (by omega) (by omega) h
  · rw [wrapS (by omega), ht]
    rw [ht, Int.toNat_natCast] at h
    refine c47_ok (by omega) (by omega) (by omega) ?_
    have a1 := A_le g (i + 1)
    have a2 := A_le g t
    rw [wrap64 (by omega) (by omega), show (0 : Int) - ((Ad g (i + 1) : Int) - Ad g t) = (Ad g t : Int) - Ad g (i + 1) by omega]
    exact h

theorem c20_ok {l : LR} {k : List Bool → Prop} (hl : l.length ≤ 1000000) (hb : Bnd l) (h : ∀ g, Best l g → k g) : c20 l k := by
  constructor
  unfold tc20
  refine brD (by omega) ?_
  rw [Int.toNat_natCast]
  refine l20r3_ok hl ⟨?_⟩
  intro I hI
  have key : ∀ n (i : Nat) (g : List Bool), cf g * (l.length + 1) + i ≤ n → i ≤ l.length → Way' l g → (∀ j (hj : j < l.length), i ≤ j → 0 ≤ l[j].2.1 → g[j]? = some true ∨ sh (ds g j l[j].2.1)) → I l ((i : Int) - 1) g := by
    intro n
    induction n with
    | zero =>
      intro i g hn hi hw hc
      have : i = 0 := by omega
      subst this
      exact hI _ _ _ (brDn (by omega) (h g ⟨hw.len, hw.bas, fun j hj => hc j hj (Nat.zero_le _), hw.low⟩))
    | succ n ih =>
      intro i g hn hi hw hc
      cases i with
      | zero => exact hI _ _ _ (brDn (by omega) (h g ⟨hw.len, hw.bas, fun j hj => hc j hj (Nat.zero_le _), hw.low⟩))
      | succ i =>
        have e : ((i + 1 : Nat) : Int) - 1 = (i : Int) := by omega
        rw [e]
        apply hI
        have hil : i < l.length := by omega
        have hgi : i < g.length := by rw [hw.len]; exact hil
        have hB := hb i hil
        rw [Int.toNat_natCast, wrap64 (a := (i : Int) - 1) (by omega) (by omega), wrap64 (a := (l.length : Int) - 1) (by omega) (by omega)]
        have next : (0 ≤ l[i].2.1 → g[i]? = some true ∨ sh (ds g i l[i].2.1)) → I l ((i : Int) - 1) g := fun hx => ih i g (by omega) (by omega) hw fun j hj hij h0 => by
          by_cases hje : j = i
          · subst hje; exact hx h0
          · exact hc j hj (by omega) h0
        refine brD (by omega) (needAt hil (brP (fun h0 => brD (by omega) (needNth hgi (brB (fun hb1 => ?_) fun hb1 => ?_))) fun h0 => next fun h => absurd h h0))
        · have hb1 : g[i] = false := by simpa using hb1
          refine c31_ok hl hw.len hil h0 hB.2 (c30_sh ?_)
          have hA : Ad g (i + 1) = Ad g i + 1 := by
            have : Ad g (i + 1) = Ad g i + (if g[i]? = some true then 2 else 1) := rfl
            rw [this, if_neg (by rw [List.getElem?_eq_getElem hgi, hb1]; simp)]
          have hd : (Ad g l[i].2.1.toNat : Int) - Ad g (i + 1) = ds g i l[i].2.1 := by unfold ds; rw [hA]; omega
          rw [hd]
          refine brB (fun hs => ?_) fun hs => ?_
          · have hs : ¬sh (ds g i l[i].2.1) := by simpa using hs
            refine brD (by omega) (needNth hgi ?_)
            have e1 := cf_set (g := g) (i := i) (by rw [List.getElem?_eq_getElem hgi, hb1])
            refine ih l.length _ ?_ (Nat.le_refl _) (way_set hw (fun _ h => h) hil h0 hs) fun j hj hij => by omega
            rw [← e1, Nat.add_mul, Nat.one_mul] at hn
            omega
          · exact next fun _ => .inr (by simpa using hs)
        · have hb1 : g[i] = true := by simpa using hb1
          exact next fun _ => .inl (by rw [List.getElem?_eq_getElem hgi, hb1])
  have hlen : ((l.length : Nat) : Int) - 1 = IntKind.wrap .i64 (((l.length : Nat) : Int) - 1) := by rw [wrap64 (by omega) (by omega)]
  rw [← hlen]
  exact key _ l.length (bs l) (Nat.le_refl _) (Nat.le_refl _) way_bs fun j hj hij => by omega
def mix {α : Type} (a b : List α) (i : Nat) : List α := a.take i ++ b.drop i
theorem mix_len {α : Type} {a b : List α} (h : a.length = b.length) {i : Nat} (hi : i ≤ a.length) : (mix a b i).length = b.length := by
  simp [mix]; omega
theorem mix_get {α : Type} {a b : List α} (h : a.length = b.length) {i : Nat} (hi : i < b.length) : (mix a b i)[i]? = b[i]? := by
  unfold mix
  rw [List.getElem?_append_right (by simp; omega)]
  simp [List.getElem?_drop, Nat.min_eq_left (by omega : i ≤ a.length)]
theorem mix_set {α : Type} {a b : List α} (h : a.length = b.length) {i : Nat} (hi : i < a.length) : (mix a b i).set i a[i] = mix a b (i + 1) := by
  unfold mix
  have hl : (a.take i).length = i := by simp; omega
  rw [List.set_append_right _ _ (by omega), hl, Nat.sub_self, drop_cons (by omega), List.set_cons_zero, List.take_succ_eq_append_getElem hi, List.append_assoc]
  rfl
theorem mix_same {α : Type} {a b : List α} (h : a.length = b.length) {i : Nat} (hi : i < a.length) (e : a[i] = b[i]'(by omega)) : mix a b i = mix a b (i + 1) := by
  rw [← mix_set h hi]
  have h1 := mix_get h (i := i) (by omega)
  have hml := mix_len h (i := i) (by omega)
  rw [List.getElem?_eq_getElem (by omega), List.getElem?_eq_getElem (by omega)] at h1
  have h1 := Option.some.inj h1
  rw [e, ← h1, List.set_getElem_self]
theorem mix_zero {α : Type} {a b : List α} : mix a b 0 = b := by simp [mix]
theorem mix_all {α : Type} {a b : List α} (h : a.length = b.length) : mix a b a.length = a := by
  unfold mix
  rw [List.take_length, List.drop_eq_nil_of_le (by omega), List.append_nil]

/-- which items are long in the code -/
def ls (l : LR) (all : Bool) (g : List Bool) : List Bool := (l.zip g).map fun p => p.2 || (all && decide (0 ≤ p.1.2.1))
theorem ls_len {l : LR} {all : Bool} {g : List Bool} (h : g.length = l.length) : (ls l all g).length = l.length := by simp [ls, h]
theorem ls_get {l : LR} {all : Bool} {g : List Bool} {i : Nat} (h : i < (ls l all g).length) (h1 : i < l.length) (h2 : i < g.length) : (ls l all g)[i] = (g[i] || (all && decide (0 ≤ l[i].2.1))) := by simp [ls]

theorem l28r5_ok {l : LR} {all : Bool} {g : List Bool} {k : LR → List Bool → Prop} (hl : l.length ≤ 1000000) (hg : g.length = l.length) (h : k l (ls l all g)) : l28r5 k l all l (l.length : Int) 0 g := by
  constructor
  intro I hI
  have hL := ls_len (all := all) hg
  have key := upInd (N := l.length) (M := fun i => I l all l (l.length : Int) (i : Int) (mix (ls l all g) g i))
    (by
      apply hI
      refine brDn (by omega) ?_
      have : mix (ls l all g) g l.length = ls l all g := by rw [← hL]; exact mix_all (by omega)
      rw [this]; exact h)
    (by
      intro i hi ih
      apply hI
      have hm := mix_len (a := ls l all g) (b := g) (by omega) (i := i) (by omega)
      have hget : (mix (ls l all g) g i)[i]? = some (g[i]'(by omega)) := by rw [mix_get (by omega) (by omega), List.getElem?_eq_getElem]
      have hset := mix_set (a := ls l all g) (b := g) (by omega) (i := i) (by omega)
      rw [ls_get (by omega) hi (by omega)] at hset
      rw [wrapS (by omega), Int.toNat_natCast]
      refine brD (by omega) (needAt hi (brD (by omega) (needS hget (brB (fun e => ?_) fun e => brB (fun e2 => ?_) fun e2 => ?_))))
      · refine brD (by omega) (needS hget ?_)
        rw [e, Bool.true_or] at hset
        rw [hset]; exact ih
      · refine brD (by omega) (needS hget ?_)
        rw [show (g[i] || (all && decide (0 ≤ l[i].2.1))) = decide (l[i].2.1 ≥ 0) by rw [e, e2]; rfl] at hset
        rw [hset]; exact ih
      · refine brD (by omega) (needS hget ?_)
        rw [show (g[i] || (all && decide (0 ≤ l[i].2.1))) = false by rw [e, e2]; rfl] at hset
        rw [hset]; exact ih)
    0 (Nat.zero_le _)
  rw [mix_zero] at key
  exact key

theorem l21r3_ok {l : LR} {all : Bool} {g : List Bool} {k : LR → List Bool → Prop} (hl : l.length ≤ 1000000) (hg : g.length = l.length) (h : k l (ls l all g)) : l21r3 k l all l (l.length : Int) 0 g := by
  constructor
  intro I hI
  have hL := ls_len (all := all) hg
  have key := upInd (N := l.length) (M := fun i => I l all l (l.length : Int) (i : Int) (mix (ls l all g) g i))
    (by
      apply hI
      refine brDn (by omega) ?_
      have : mix (ls l all g) g l.length = ls l all g := by rw [← hL]; exact mix_all (by omega)
      rw [this]; exact h)
    (by
      intro i hi ih
      apply hI
      have hm := mix_len (a := ls l all g) (b := g) (by omega) (i := i) (by omega)
      have hget : (mix (ls l all g) g i)[i]? = some (g[i]'(by omega)) := by rw [mix_get (by omega) (by omega), List.getElem?_eq_getElem]
      have hset := mix_set (a := ls l all g) (b := g) (by omega) (i := i) (by omega)
      have hv := ls_get (l := l) (all := all) (g := g) (i := i) (by omega) hi (by omega)
      rw [hv] at hset
      have same : (all && decide (0 ≤ l[i].2.1)) = false → mix (ls l all g) g i = mix (ls l all g) g (i + 1) := fun e => mix_same (by omega) (by omega) (by rw [hv, e, Bool.or_false])
      rw [wrapS (by omega), Int.toNat_natCast]
      refine brD (by omega) (needAt hi (brB (fun e => brP (fun e2 => brD (by omega) (needS hget ?_)) fun e2 => ?_) fun e => ?_))
      · rw [show (g[i] || (all && decide (0 ≤ l[i].2.1))) = true by simp [e, show 0 ≤ l[i].2.1 from e2]] at hset
        rw [hset]; exact ih
      · rw [same (by rw [decide_eq_false (by omega), Bool.and_false])]; exact ih
      · rw [same (by rw [e, Bool.false_and])]; exact ih)
    0 (Nat.zero_le _)
  rw [mix_zero] at key
  exact key

/-- the instruction with its distance -/
def xo (G : List Bool) (x : RI) (i : Nat) : O := if 0 ≤ x.2.1 then wn x.1 ((Ad G x.2.1.toNat : Int) - Ad G (i + 1)) else x.1
def wdi (l : LR) (G : List Bool) (i : Nat) : List Int :=
  match l[i]?, G[i]? with
  | some x, some b => br b (long (xo G x i)) (short (xo G x i))
  | _, _ => []
def outs (l : LR) (G : List Bool) (i : Nat) : List Int := (List.range i).flatMap (wdi l G)
theorem outs_succ {l : LR} {G : List Bool} {i : Nat} : outs l G (i + 1) = outs l G i ++ wdi l G i := by
  unfold outs
  rw [List.range_succ, List.flatMap_append]; simp
theorem wdi_eq {l : LR} {G : List Bool} {i : Nat} (h1 : i < l.length) (h2 : i < G.length) : wdi l G i = br G[i] (long (xo G l[i] i)) (short (xo G l[i] i)) := by
  simp [wdi, h1, h2]
theorem wdi_len {l : LR} {G : List Bool} {i : Nat} : (wdi l G i).length ≤ 2 := by
  unfold wdi
  split
  · rename_i b _ _
    cases b <;> simp [br, long, short]
  · simp
theorem wdi_ne {l : LR} {G : List Bool} {i : Nat} (h1 : i < l.length) (h2 : i < G.length) : (wdi l G i).isEmpty = false := by
  rw [wdi_eq h1 h2]
  cases G[i] <;> rfl
theorem outs_len {l : LR} {G : List Bool} : ∀ i, (outs l G i).length ≤ 2 * i
  | 0 => by simp [outs]
  | i + 1 => by
    rw [outs_succ, List.length_append]
    have := outs_len (l := l) (G := G) i
    have := wdi_len (l := l) (G := G) (i := i)
    omega

theorem err_wn {o : O} {d : Int} (hr : rng o.1 16 20 = true) (h : err (wn o 0) = 0) (h1 : -2147483648 ≤ d) (h2 : d ≤ 2147483647) : err (wn o d) = 0 := by
  have hr := rng_iff.1 hr
  have hu : (use o.1).2.2.2.1 = true := by
    rcases (by omega : o.1 = 16 ∨ o.1 = 17 ∨ o.1 = 18 ∨ o.1 = 19 ∨ o.1 = 20) with e | e | e | e | e <;> rw [e] <;> decide
  have ht : ∀ n, tail o.1 n = 0 := fun n => by
    unfold tail
    rw [show (o.1 == 9 || o.1 == 10) = false by simp; omega, show (o.1 == 14) = false by simp; omega, show (o.1 == 24) = false by simp; omega]
    rfl
  have hf : form (wn o d) = form (wn o 0) := by
    unfold form
    simp only [wn, hu, Bool.not_true, Bool.false_and]
  have hd : rng d (-2147483648) 2147483647 = true := rng_iff.2 ⟨h1, h2⟩
  have h0 : rng 0 (-2147483648) 2147483647 = true := by decide
  unfold err at h ⊢
  rw [hf]
  simp only [regs, wn, ht, hd, h0, Bool.and_true] at h ⊢
  exact h

theorem ie_err {L : Int} {x : RI} (h : ie L x = 0) : e0 x = 0 ∧ (0 ≤ x.2.1 → rng x.1.1 16 20 = true) := by
  unfold ie at h
  split at h
  · rename_i he; exact absurd h he
  · rename_i he
    refine ⟨by simpa using he, fun h0 => ?_⟩
    split at h
    · cases h
    · split at h
      · cases h
      · rename_i hc
        cases hr : rng x.1.1 16 20 with
        | true => rfl
        | false => exact absurd ⟨h0, .inl hr⟩ hc
theorem xo_err {L : Int} {l : LR} {G : List Bool} {i : Nat} (hl : l.length ≤ 1000000) (hi : i < l.length) (hL : L = l.length) (h : ie L l[i] = 0) : err (xo G l[i] i) = 0 := by
  obtain ⟨h1, h2⟩ := ie_err h
  have hb := ie_bnd h
  unfold xo
  unfold e0 at h1
  by_cases h0 : 0 ≤ l[i].2.1
  · rw [if_pos h0] at h1 ⊢
    have a1 := A_le G l[i].2.1.toNat
    have a2 := A_le G (i + 1)
    exact err_wn (h2 h0) h1 (by omega) (by omega)
  · rw [if_neg h0] at h1 ⊢; exact h1

/-- a short item is short -/
theorem xo_sh {l : LR} {g : List Bool} {all : Bool} {i : Nat} (hB : Best l g) (hi : i < l.length) (hgi : i < (ls l all g).length) (h : (ls l all g)[i] = false) : sh (xo (ls l all g) l[i] i).2.2.2.2.1 := by
  have hg : i < g.length := by rw [hB.len]; exact hi
  rw [ls_get hgi hi hg] at h
  simp only [Bool.or_eq_false_iff, Bool.and_eq_false_iff] at h
  unfold xo
  by_cases h0 : 0 ≤ l[i].2.1
  · rw [if_pos h0]
    have ha : all = false := by
      rcases h.2 with h | h
      · exact h
      · exact absurd h0 (of_decide_eq_false h)
    subst ha
    have hG : ls l false g = g := by
      refine List.ext_getElem (by rw [ls_len hB.len, hB.len]) fun j a b => ?_
      rw [ls_get a (by rw [← hB.len]; exact b) b]; simp
    rw [hG]
    have hA : Ad g (i + 1) = Ad g i + 1 := by
      have : Ad g (i + 1) = Ad g i + (if g[i]? = some true then 2 else 1) := rfl
      rw [this, if_neg (by rw [List.getElem?_eq_getElem hg, h.1]; simp)]
    rcases hB.clo i hi h0 with hc | hc
    · rw [List.getElem?_eq_getElem hg, h.1] at hc; cases hc
    · show sh ((Ad g l[i].2.1.toNat : Int) - Ad g (i + 1))
      rw [hA]
      unfold ds at hc
      rw [show ((Ad g l[i].2.1.toNat : Int) - ((Ad g i + 1 : Nat) : Int)) = (Ad g l[i].2.1.toNat : Int) - (Ad g i : Int) - 1 by omega]
      exact hc
  · rw [if_neg h0]
    have hb : base l[i] = false := by
      cases hb : base l[i] with
      | false => rfl
      | true =>
        have := hB.bas i hi hb
        rw [List.getElem?_eq_getElem hg, h.1] at this
        cases this
    unfold base at hb
    rw [decide_eq_true (by omega : l[i].2.1 < 0), Bool.true_and, rng_sh] at hb
    simpa using hb

theorem l28r14_ok {l : LR} {g : List Bool} {all : Bool} {k1 : Int → List Int → List Int → Prop} {k2 : LR → List Int → List Int → Prop} (hl : l.length ≤ 1000000) (he : ies l.length l = 0) (hB : Best l g)
    (h : k2 l (atL (ls l all g) l.length) (outs l (ls l all g) l.length)) : l28r14 k1 k2 l l (l.length : Int) 0 (ls l all g) (atL (ls l all g) l.length) [] := by
  constructor
  intro I hI
  have hL := ls_len (l := l) (all := all) hB.len
  have hz := ies_zero he
  refine upInd (N := l.length) (M := fun i => I l l (l.length : Int) (i : Int) (ls l all g) (atL (ls l all g) l.length) (outs l (ls l all g) i)) ?_ ?_ 0 (Nat.zero_le _)
  · exact hI _ _ _ _ _ _ _ (brDn (by omega) h)
  · intro i hi ih
    apply hI
    have hgi : i < (ls l all g).length := by omega
    have hie := hz _ (List.getElem_mem hi)
    have hbd := ie_bnd hie
    have hxe := xo_err (G := ls l all g) hl hi rfl hie
    have hsh := xo_sh (all := all) hB hi hgi
    have hal := atL_len (g := ls l all g) (n := l.length)
    have hol := outs_len (l := l) (G := ls l all g) i
    have hwl := wdi_len (l := l) (G := ls l all g) (i := i)
    rw [outs_succ] at ih
    have hw := wdi_eq (l := l) (G := ls l all g) hi hgi
    have hne := wdi_ne (l := l) (G := ls l all g) hi hgi
    rw [wrapS (by omega), Int.toNat_natCast]
    have fin : ∀ w, w = wdi l (ls l all g) i → br (List.isEmpty w) (I l l (l.length : Int) ((i + 1 : Nat) : Int) (ls l all g) (atL (ls l all g) l.length) (outs l (ls l all g) i)) (br (roomB ((outs l (ls l all g) i).length + w.length) 8) (I l l (l.length : Int) ((i + 1 : Nat) : Int) (ls l all g) (atL (ls l all g) l.length) (outs l (ls l all g) i ++ w)) False) := fun w e => by
      subst e
      exact brF hne (brT (roomS (by omega)) ih)
    have two : ∀ o, o = xo (ls l all g) l[i] i → br (ls l all g)[i] (c45 o fun z12 z13 => br (z12 != 0) (k1 z12 [] []) (br (List.isEmpty z13) (I l l (l.length : Int) ((i + 1 : Nat) : Int) (ls l all g) (atL (ls l all g) l.length) (outs l (ls l all g) i)) (br (roomB ((outs l (ls l all g) i).length + z13.length) 8) (I l l (l.length : Int) ((i + 1 : Nat) : Int) (ls l all g) (atL (ls l all g) l.length) (outs l (ls l all g) i ++ z13)) False)))
        (c44 o fun z14 z15 => br (z14 != 0) (k1 z14 [] []) (br (List.isEmpty z15) (I l l (l.length : Int) ((i + 1 : Nat) : Int) (ls l all g) (atL (ls l all g) l.length) (outs l (ls l all g) i)) (br (roomB ((outs l (ls l all g) i).length + z15.length) 8) (I l l (l.length : Int) ((i + 1 : Nat) : Int) (ls l all g) (atL (ls l all g) l.length) (outs l (ls l all g) i ++ z15)) False))) := fun o e => by
      subst e
      refine brB (fun b => c45_ok (fun h => absurd hxe h) fun _ => brF rfl (fin _ ?_)) fun b => c44_ok (fun h => absurd hxe h) fun _ => brF rfl (fin _ ?_)
      · rw [hw, b]; rfl
      · rw [hw, b, rng_sh, decide_eq_true (hsh b)]; rfl
    refine brD (by omega) (needAt hi (brP (fun h0 => brD (by omega) (needNth (by omega) (brD (by omega) ?_))) fun h0 => brD (by omega) (needNth hgi (two _ ?_))))
    · rw [Int.toNat_natCast]
      refine needNth (by omega) (brD (by omega) (needNth hgi (two _ ?_)))
      rw [atL_get, atL_get]
      have a1 := A_le (ls l all g) l[i].2.1.toNat
      have a2 := A_le (ls l all g) (i + 1)
      unfold xo
      rw [if_pos h0, wrap64 (by omega) (by omega)]
      rfl
    · unfold xo; rw [if_neg (by omega)]

theorem c28_ok {l : LR} {all : Bool} {k1 : Int → List Int → List Int → Prop} {k2 : Nat → Nat → Nat → Int → List Int → List Int → Prop} (h1 : chk l ≠ 0 → k1 (chk l) [] [])
    (h3 : chk l = 0 → ∀ g, Best l g → 16384 < Ad (ls l all g) l.length → k1 2 [] [])
    (h2 : chk l = 0 → ∀ g, Best l g → Ad (ls l all g) l.length ≤ 16384 → k2 0 l.length (l.length + 1) 0 (outs l (ls l all g) l.length) (atL (ls l all g) l.length)) : c28 l all k1 k2 := by
  constructor
  unfold tc28
  refine c42_ok (fun e => brT (by simpa using e) (h1 e)) fun e g hB => ?_
  obtain ⟨hl, he⟩ := chk_good e
  refine brF rfl (l28r5_ok (by omega) hB.len (c43_ok (by omega) (ls_len hB.len) ?_))
  have hal := atL_len (g := ls l all g) (n := l.length)
  have a1 := A_le (ls l all g) l.length
  rw [Int.toNat_natCast]
  refine brD (by omega) (needNth (by omega) ?_)
  rw [atL_get]
  refine brP (fun q => h3 e g hB (by omega)) fun q => l28r14_ok (by omega) he hB (brD (by omega) ?_)
  rw [hal, show ((l.length : Int) - 0).toNat = l.length by omega, show (((l.length + 1 : Nat) : Int) - 0).toNat = l.length + 1 by omega]
  exact h2 e g hB (by omega)

theorem l21r10_ok {l : LR} {g : List Bool} {all : Bool} {k : List Int → Prop} (hl : l.length ≤ 1000000) (he : ies l.length l = 0) (hB : Best l g)
    (h : k (outs l (ls l all g) l.length)) : l21r10 k l l (l.length : Int) 0 (ls l all g) [] := by
  constructor
  intro I hI
  have hL := ls_len (l := l) (all := all) hB.len
  have hz := ies_zero he
  refine upInd (N := l.length) (M := fun i => I l l (l.length : Int) (i : Int) (ls l all g) (outs l (ls l all g) i)) ?_ ?_ 0 (Nat.zero_le _)
  · exact hI _ _ _ _ _ _ (brDn (by omega) h)
  · intro i hi ih
    apply hI
    have hgi : i < (ls l all g).length := by omega
    have hie := hz _ (List.getElem_mem hi)
    have hbd := ie_bnd hie
    have hxe := xo_err (G := ls l all g) hl hi rfl hie
    have hol := outs_len (l := l) (G := ls l all g) i
    have hwl := wdi_len (l := l) (G := ls l all g) (i := i)
    rw [outs_succ] at ih
    have hw := wdi_eq (l := l) (G := ls l all g) hi hgi
    have hne := wdi_ne (l := l) (G := ls l all g) hi hgi
    rw [wrapS (by omega), Int.toNat_natCast]
    have two : ∀ o, o = xo (ls l all g) l[i] i → c32 o (ls l all g)[i] fun z10 => br (List.isEmpty z10) (I l l (l.length : Int) ((i + 1 : Nat) : Int) (ls l all g) (outs l (ls l all g) i)) (br (roomB ((outs l (ls l all g) i).length + z10.length) 8) (I l l (l.length : Int) ((i + 1 : Nat) : Int) (ls l all g) (outs l (ls l all g) i ++ z10)) False) := fun o e => by
      subst e
      refine c32_ok (err_ok hxe) ?_
      rw [← hw]
      exact brF hne (brT (roomS (by omega)) ih)
    refine brD (by omega) (needAt hi (brP (fun h0 => c31_ok hl hL hi (by omega) hbd.2 (brD (by omega) (needNth hgi (two _ ?_)))) fun h0 => brD (by omega) (needNth hgi (two _ ?_))))
    · unfold xo; rw [if_pos h0]; rfl
    · unfold xo; rw [if_neg (by omega)]

theorem c21_ok {l : LR} {all : Bool} {g : List Bool} {k : List Int → Prop} (hl : l.length ≤ 1000000) (he : ies l.length l = 0) (hB : Best l g) (h : k (outs l (ls l all g) l.length)) : c21 l all k := by
  constructor
  refine c20_ok hl (ies_bnd he) fun g' hB' => ?_
  rw [best_eq hB' hB]
  exact l21r3_ok hl hB.len (l21r10_ok hl he hB h)
abbrev IT := O × Int × Unit
abbrev CL := Int × Int × Unit
abbrev MP := Int × Bool × List Int × Int × Unit
abbrev LF := Int × List IT × List CL × List MP × Int × Unit
/-- the lists are not too long for Go -/
def Lens (f : LF) : Prop := f.2.1.length ≤ maxLen ∧ f.2.2.1.length ≤ maxLen ∧ f.2.2.2.1.length ≤ maxLen ∧ ∀ m ∈ f.2.2.2.1, m.2.2.1.length ≤ maxLen
def CallsIn (n : Int) (l : List CL) (i : Nat) : Prop := ∀ j (h : j < l.length), i ≤ j → 0 ≤ l[j].2.1 ∧ l[j].2.1 < n
theorem allInd {N : Nat} {p : Nat → Prop} {M : Nat → Prop} (hN : (∀ i, i < N → p i) → M N)
    (hs : ∀ i, i < N → (p i → M (i + 1)) → (¬ p i → ¬ ∀ i, i < N → p i) → M i) : M 0 := by
  have key := upInd (N := N) (M := fun i => (∀ j, j < i → p j) → M i) hN (fun i hi ih hp =>
    hs i hi (fun h => ih fun j hj => by
      by_cases e : j = i
      · subst e; exact h
      · exact hp j (by omega)) (fun h h2 => h (h2 i hi)))
  exact key 0 (Nat.zero_le _) fun j hj => absurd hj (by omega)

theorem cmpInd {α : Type} {a b : List α} (hlen : a.length = b.length) {M : Nat → Prop} (hN : a = b → M a.length)
    (hs : ∀ i (h : i < a.length), (a[i] = b[i]'(by omega) → M (i + 1)) → (a[i] ≠ b[i]'(by omega) → a ≠ b) → M i) : M 0 := by
  refine allInd (N := a.length) (p := fun i => a[i]? = b[i]?) (fun h => hN ?_) (fun i hi h1 h2 => hs i hi (fun e => h1 ?_) fun e e2 => e (by subst e2; rfl))
  · refine List.ext_getElem? fun i => ?_
    by_cases hi : i < a.length
    · exact h i hi
    · rw [List.getElem?_eq_none (by omega), List.getElem?_eq_none (by omega)]
  · rw [List.getElem?_eq_getElem hi, List.getElem?_eq_getElem (by omega), e]

theorem hml : maxLen = 9223372036854775807 := rfl

theorem c10_ok {a b : List Int} {k : Bool → Prop} (hl : a.length ≤ maxLen) (h1 : a = b → k true) (h2 : a ≠ b → k false) : c10 a b k := by
  have hm := hml
  constructor
  unfold tc10
  refine brN (fun h => h2 fun e => h (by rw [e])) fun h => ?_
  have hlen : a.length = b.length := by omega
  constructor
  intro I hI
  refine cmpInd (M := fun i => I a b (a.length : Int) (i : Int)) hlen (fun e => hI _ _ _ _ (brDn (by omega) (h1 e))) fun i hi e1 e2 => hI _ _ _ _ ?_
  rw [wrapS (by omega)]
  exact brD (by omega) (needAt hi (needAt (by omega) (brN (fun h => h2 (e2 h)) fun h => e1 h)))
theorem c23_ok {a b : List Int} {k : Bool → Prop} (hl : a.length ≤ maxLen) (h1 : a = b → k true) (h2 : a ≠ b → k false) : c23 a b k := by
  have hm := hml
  constructor
  unfold tc23
  refine brN (fun h => h2 fun e => h (by rw [e])) fun h => ?_
  have hlen : a.length = b.length := by omega
  constructor
  intro I hI
  refine cmpInd (M := fun i => I a b (a.length : Int) (i : Int)) hlen (fun e => hI _ _ _ _ (brDn (by omega) (h1 e))) fun i hi e1 e2 => hI _ _ _ _ ?_
  rw [wrapS (by omega)]
  exact brD (by omega) (needAt hi (needAt (by omega) (brN (fun h => h2 (e2 h)) fun h => e1 h)))

def itB (y5 y6 : IT) : Bool := ((((y5.1.1 : Int) == y6.1.1) && (((y5.1.2.1 : Int) == y6.1.2.1) && (((y5.1.2.2.1 : Int) == y6.1.2.2.1) && (((y5.1.2.2.2.1 : Int) == y6.1.2.2.2.1) && (((y5.1.2.2.2.2.1 : Int) == y6.1.2.2.2.2.1) && true))))) && (((y5.2.1 : Int) == y6.2.1) && true))
theorem itB_iff {x y : IT} : itB x y = true ↔ x = y := by
  obtain ⟨⟨a1, a2, a3, a4, a5, _⟩, a6, _⟩ := x
  obtain ⟨⟨b1, b2, b3, b4, b5, _⟩, b6, _⟩ := y
  simp [itB]
theorem brIt {x y : IT} {A B : Prop} (h1 : x ≠ y → A) (h2 : x = y → B) : br (!itB x y) A B := by
  refine brB (fun e => h1 fun h => ?_) fun e => h2 (itB_iff.1 (by simpa using e))
  rw [itB_iff.2 h] at e; cases e

theorem c33_ok {a b : List IT} {k : Bool → Prop} (hl : a.length ≤ maxLen) (h1 : a = b → k true) (h2 : a ≠ b → k false) : c33 a b k := by
  have hm := hml
  constructor
  unfold tc33
  refine brN (fun h => h2 fun e => h (by rw [e])) fun h => ?_
  have hlen : a.length = b.length := by omega
  constructor
  intro I hI
  refine cmpInd (M := fun i => I a b (a.length : Int) (i : Int)) hlen (fun e => hI _ _ _ _ (brDn (by omega) (h1 e))) fun i hi e1 e2 => hI _ _ _ _ ?_
  rw [wrapS (by omega)]
  exact brD (by omega) (needAt hi (needAt (by omega) (brIt (fun h => h2 (e2 h)) fun h => e1 h)))

theorem mp_ext {x y : MP} (h1 : x.1 = y.1) (h2 : x.2.1 = y.2.1) (h3 : x.2.2.1 = y.2.2.1) (h4 : x.2.2.2.1 = y.2.2.2.1) : x = y := by
  obtain ⟨a1, a2, a3, a4, _⟩ := x
  obtain ⟨b1, b2, b3, b4, _⟩ := y
  cases h1; cases h2; cases h3; cases h4; rfl
theorem c35_ok {x y : MP} {k : Bool → Prop} (hl : x.2.2.1.length ≤ maxLen) (h1 : x = y → k true) (h2 : x ≠ y → k false) : c35 x y k := by
  constructor
  unfold tc35
  refine brE (fun e1 => brB (fun e2 => brE (fun e3 => c23_ok hl (fun e4 => h1 (mp_ext e1 (by simpa using e2) e4 e3)) fun e => h2 fun h => e (by rw [h])) fun e => h2 fun h => e (by rw [h])) fun e => h2 fun h => ?_) fun e => h2 fun h => e (by rw [h])
  rw [h] at e; simp at e
theorem c34_ok {a b : List MP} {k : Bool → Prop} (hl : a.length ≤ maxLen) (hls : ∀ m ∈ a, m.2.2.1.length ≤ maxLen) (h1 : a = b → k true) (h2 : a ≠ b → k false) : c34 a b k := by
  have hm := hml
  constructor
  unfold tc34
  refine brN (fun h => h2 fun e => h (by rw [e])) fun h => ?_
  have hlen : a.length = b.length := by omega
  constructor
  intro I hI
  refine cmpInd (M := fun i => I b a (a.length : Int) (i : Int)) hlen (fun e => hI _ _ _ _ (brDn (by omega) (h1 e))) fun i hi e1 e2 => hI _ _ _ _ ?_
  rw [wrapS (by omega)]
  refine brD (by omega) (needAt hi (needAt (by omega) (c35_ok (hls _ (List.getElem_mem hi)) (fun h => ?_) fun h => h2 (e2 h))))
  exact e1 h

/-- equal but for the calls' functions, and these related -/
def CallS (R : Nat → Nat → Prop) (a b : List CL) : Prop := a.length = b.length ∧ ∀ i (h1 : i < a.length) (h2 : i < b.length), a[i].1 = b[i].1 ∧ R a[i].2.1.toNat b[i].2.1.toNat
def S (R : Nat → Nat → Prop) (f g : LF) : Prop := f.2.2.2.2.1 = g.2.2.2.2.1 ∧ f.2.1 = g.2.1 ∧ f.2.2.2.1 = g.2.2.2.1 ∧ CallS R f.2.2.1 g.2.2.1
def RC (cls : List Int) (i j : Nat) : Prop := cls[i]? = cls[j]?

theorem at?_in {α : Type} {l : List α} {i : Int} (h0 : 0 ≤ i) (h : i.toNat < l.length) : at? l i = some l[i.toNat] := by
  unfold at?
  rw [if_pos h0, List.getElem?_eq_getElem]
theorem c36_ok {a b : List CL} {cls : List Int} {k : Bool → List Int → Prop} (hl : a.length ≤ maxLen) (ha : CallsIn cls.length a 0) (hb : CallsIn cls.length b 0)
    (h1 : CallS (RC cls) a b → k true cls) (h2 : ¬ CallS (RC cls) a b → k false cls) : c36 a b cls k := by
  have hm := hml
  constructor
  unfold tc36
  refine brN (fun h => h2 fun e => h (by rw [e.1])) fun h => ?_
  have hlen : a.length = b.length := by omega
  constructor
  intro I hI
  refine allInd (N := a.length) (p := fun i => ∀ (h1 : i < a.length) (h2 : i < b.length), a[i].1 = b[i].1 ∧ RC cls a[i].2.1.toNat b[i].2.1.toNat) (M := fun i => I b a (a.length : Int) (i : Int) cls)
    (fun e => hI _ _ _ _ _ (brDn (by omega) (h1 ⟨hlen, fun i h1 h2 => e i h1 h1 h2⟩))) fun i hi e1 e2 => hI _ _ _ _ _ ?_
  rw [wrapS (by omega)]
  have hn : ¬ (a[i].1 = b[i].1 ∧ RC cls a[i].2.1.toNat b[i].2.1.toNat) → k false cls := fun hh => h2 fun hs => e2 (fun hp => hh (hp hi (by omega))) fun j hj q1 q2 => hs.2 j q1 q2
  have hy : (a[i].1 = b[i].1 ∧ RC cls a[i].2.1.toNat b[i].2.1.toNat) → I b a (a.length : Int) ((i + 1 : Nat) : Int) cls := fun hh => e1 fun _ _ => hh
  have h3 := ha i hi (Nat.zero_le _)
  have h4 := hb i (by omega) (Nat.zero_le _)
  refine brD (by omega) (needAt hi (needAt (by omega) ⟨?_⟩))
  refine brE (fun e => needS (at?_in h3.1 (by omega)) (needS (at?_in h4.1 (by omega)) ?_)) fun e => hn fun hh => e hh.1
  refine brB (fun e3 => hn fun hh => ?_) fun e3 => hy ⟨e, ?_⟩
  · have := hh.2
    unfold RC at this
    rw [List.getElem?_eq_getElem (by omega), List.getElem?_eq_getElem (by omega)] at this
    simp [Option.some.inj this] at e3
  · unfold RC
    rw [List.getElem?_eq_getElem (by omega), List.getElem?_eq_getElem (by omega)]
    simpa using e3

theorem c22_ok {f g : LF} {cls : List Int} {k : Bool → Prop} (hf : Lens f) (ha : CallsIn cls.length f.2.2.1 0) (hb : CallsIn cls.length g.2.2.1 0)
    (h1 : S (RC cls) f g → k true) (h2 : ¬ S (RC cls) f g → k false) : c22 f g cls k := by
  obtain ⟨hf1, hf2, hf3, hf4⟩ := hf
  constructor
  unfold tc22
  refine brE (fun e1 => c33_ok hf1 (fun e2 => c34_ok hf3 hf4 (fun e3 => c36_ok hf2 ha hb (fun e4 => h1 ⟨e1, e2, e3, e4⟩) fun e => h2 fun h => e h.2.2.2) fun e => h2 fun h => e h.2.2.1) fun e => h2 fun h => e h.2.1) fun e => h2 fun h => e h.1

/-- the reference's pairs -/
def RM (n : Nat) (m : List Bool) (i j : Nat) : Prop := i < n ∧ j < n ∧ m[i * n + j]? = some true
theorem idx {n i j : Nat} (hi : i < n) (hj : j < n) : i * n + j < n * n := by
  have : (i + 1) * n ≤ n * n := Nat.mul_le_mul_right n hi
  rw [Nat.add_mul] at this; omega
theorem idxI {n i j : Nat} (hn : n ≤ 12) (hi : i < n) (hj : j < n) : IntKind.wrap .i64 (IntKind.wrap .i64 ((i : Int) * (n : Int)) + (j : Int)) = ((i * n + j : Nat) : Int) := by
  have h1 := idx hi hj
  have h2 : n * n ≤ 12 * 12 := Nat.mul_le_mul hn hn
  have h3 : (i : Int) * (n : Int) = ((i * n : Nat) : Int) := by simp
  rw [h3, wrap64 (a := ((i * n : Nat) : Int)) (by omega) (by omega), wrap64 (by omega) (by omega)]; simp
theorem c16_ok {f g : LF} {n : Nat} {m : List Bool} {k : Bool → Prop} (hn : n ≤ 12) (hm2 : m.length = n * n) (hf : Lens f) (ha : CallsIn n f.2.2.1 0) (hb : CallsIn n g.2.2.1 0)
    (h1 : S (RM n m) f g → k true) (h2 : ¬ S (RM n m) f g → k false) : c16 f g m n k := by
  have hm := hml
  obtain ⟨hf1, hf2, hf3, hf4⟩ := hf
  constructor
  unfold tc16
  refine brN (fun e => h2 fun h => e h.1) fun s1 => brN (fun e => h2 fun h => e (by rw [h.2.1])) fun s2 => brN (fun e => h2 fun h => e (by rw [h.2.2.2.1])) fun s3 => brN (fun e => h2 fun h => e (by rw [h.2.2.1])) fun s4 => ?_
  constructor
  intro I hI
  refine cmpInd (a := f.2.1) (b := g.2.1) (M := fun i => I m n (f.2.1.length : Int) (i : Int) f g) (by omega) (fun t1 => hI _ _ _ _ _ _ (brDn (by omega) ?_)) fun i hi e1 e2 => hI _ _ _ _ _ _ ?_
  · constructor
    intro I hI
    refine allInd (N := f.2.2.1.length) (p := fun i => ∀ (h1 : i < f.2.2.1.length) (h2 : i < g.2.2.1.length), f.2.2.1[i].1 = g.2.2.1[i].1 ∧ RM n m f.2.2.1[i].2.1.toNat g.2.2.1[i].2.1.toNat) (M := fun i => I m n (f.2.2.1.length : Int) (i : Int) f g)
      (fun e => hI _ _ _ _ _ _ (brDn (by omega) ?_)) fun i hi e1 e2 => hI _ _ _ _ _ _ ?_
    · have hc : CallS (RM n m) f.2.2.1 g.2.2.1 := ⟨by omega, fun i h1 h2 => e i h1 h1 h2⟩
      clear hI e I
      constructor
      intro I hI
      refine cmpInd (a := f.2.2.2.1) (b := g.2.2.2.1) (M := fun i => I (f.2.2.2.1.length : Int) (i : Int) f g) (by omega) (fun t2 => hI _ _ _ _ (brDn (by omega) (h1 ⟨s1, t1, t2, hc⟩))) fun i hi e1 e2 => hI _ _ _ _ ?_
      rw [wrapS (by omega)]
      have hno : f.2.2.2.1[i] ≠ g.2.2.2.1[i]'(by omega) → k false := fun h => h2 fun hs => e2 h hs.2.2.1
      refine brD (by omega) (needAt hi (needAt (by omega) ?_))
      have hg : i < g.2.2.2.1.length := by omega
      refine ⟨?_, ?_⟩
      all_goals
        repeat (first
          | refine brT (eqT_self _ _) ?_
          | refine brT (b := true && true) rfl ?_
          | refine needAt hi ?_
          | refine needAt hg ?_)
        refine brN (fun e => hno fun h => e (by rw [h])) fun u1 => ?_
        refine brB (fun e => hno fun h => ?_) fun u2 => ?_
        · rw [h] at e; simp at e
        refine brN (fun e => hno fun h => e (by rw [h])) fun u3 => ?_
        exact c10_ok (hf4 _ (List.getElem_mem hi)) (fun u4 => e1 (mp_ext u1 (by simpa using u2) u4 u3)) fun e => hno fun h => e (by rw [h])
    · rw [wrapS (by omega)]
      have hn' : ¬ (f.2.2.1[i].1 = (g.2.2.1[i]'(by omega)).1 ∧ RM n m f.2.2.1[i].2.1.toNat (g.2.2.1[i]'(by omega)).2.1.toNat) → k false := fun hh => h2 fun hs => hh (hs.2.2.2.2 i hi (by omega))
      have h3 := ha i hi (Nat.zero_le _)
      have h4 := hb i (by omega) (Nat.zero_le _)
      refine brD (by omega) (needAt hi (needAt (by omega) (brN (fun e => hn' fun hh => e hh.1) fun e => needAt hi (needAt (by omega) ?_))))
      have e3 : (f.2.2.1[i].2.1 : Int) = ((f.2.2.1[i].2.1.toNat : Nat) : Int) := by omega
      have e4 : ((g.2.2.1[i]'(by omega)).2.1 : Int) = (((g.2.2.1[i]'(by omega)).2.1.toNat : Nat) : Int) := by omega
      have hlt := idx (n := n) (i := f.2.2.1[i].2.1.toNat) (j := (g.2.2.1[i]'(by omega)).2.1.toNat) (by omega) (by omega)
      have e5 : IntKind.wrap .i64 (IntKind.wrap .i64 (f.2.2.1[i].2.1 * (n : Int)) + (g.2.2.1[i]'(by omega)).2.1) = ((f.2.2.1[i].2.1.toNat * n + (g.2.2.1[i]'(by omega)).2.1.toNat : Nat) : Int) := by
        rw [← idxI hn (by omega) (by omega), ← e3, ← e4]
      rw [e5]
      refine needAt (by omega) (brB (fun e6 => hn' fun hh => ?_) fun e6 => e1 fun _ _ => ⟨e, by omega, by omega, ?_⟩)
      · have := hh.2.2.2
        rw [List.getElem?_eq_getElem (by omega)] at this
        rw [Option.some.inj this] at e6; cases e6
      · rw [List.getElem?_eq_getElem (by omega)]
        exact congrArg some (by simpa using e6)
  · rw [wrapS (by omega)]
    exact brD (by omega) (needAt hi (needAt (by omega) (brIt (fun h => h2 fun hs => e2 h hs.2.1) fun h => e1 h)))
def dflt : LF := (0, [], [], [], 0, ())
def F (x : List LF) (i : Nat) : LF := x[i]?.getD dflt
theorem F_eq {x : List LF} {i : Nat} (h : i < x.length) : F x i = x[i] := by simp [F, h]
theorem S_mono {R T : Nat → Nat → Prop} {f g : LF} (h : ∀ i (h1 : i < f.2.2.1.length) (h2 : i < g.2.2.1.length), R f.2.2.1[i].2.1.toNat g.2.2.1[i].2.1.toNat → T f.2.2.1[i].2.1.toNat g.2.2.1[i].2.1.toNat) (hs : S R f g) : S T f g :=
  ⟨hs.1, hs.2.1, hs.2.2.1, hs.2.2.2.1, fun i h1 h2 => ⟨(hs.2.2.2.2 i h1 h2).1, h i h1 h2 (hs.2.2.2.2 i h1 h2).2⟩⟩
def RP (x : List LF) (cls : List Int) (i j : Nat) : Prop := RC cls i j ∧ S (RC cls) (F x i) (F x j)
structure Eqv (R : Nat → Nat → Prop) : Prop where
  rfl' : ∀ i, R i i
  sy : ∀ {i j}, R i j → R j i
  tr : ∀ {i j k}, R i j → R j k → R i k
theorem RC_eqv (cls : List Int) : Eqv (RC cls) := ⟨fun _ => rfl, fun h => Eq.symm h, fun h g => Eq.trans h g⟩
theorem S_rfl {R : Nat → Nat → Prop} (h : Eqv R) (f : LF) : S R f f := ⟨rfl, rfl, rfl, rfl, fun i _ _ => ⟨rfl, h.rfl' _⟩⟩
theorem S_sy {R : Nat → Nat → Prop} (h : Eqv R) {f g : LF} (hs : S R f g) : S R g f :=
  ⟨hs.1.symm, hs.2.1.symm, hs.2.2.1.symm, hs.2.2.2.1.symm, fun i h1 h2 => ⟨(hs.2.2.2.2 i h2 h1).1.symm, h.sy (hs.2.2.2.2 i h2 h1).2⟩⟩
theorem S_tr {R : Nat → Nat → Prop} (h : Eqv R) {f g e : LF} (hs : S R f g) (ht : S R g e) : S R f e :=
  ⟨hs.1.trans ht.1, hs.2.1.trans ht.2.1, hs.2.2.1.trans ht.2.2.1, hs.2.2.2.1.trans ht.2.2.2.1, fun i h1 h2 =>
    have h3 : i < g.2.2.1.length := by rw [← hs.2.2.2.1]; exact h1
    ⟨(hs.2.2.2.2 i h1 h3).1.trans (ht.2.2.2.2 i h3 h2).1, h.tr (hs.2.2.2.2 i h1 h3).2 (ht.2.2.2.2 i h3 h2).2⟩⟩
theorem RP_eqv (x : List LF) (cls : List Int) : Eqv (RP x cls) :=
  have e := RC_eqv cls
  ⟨fun i => ⟨rfl, S_rfl e _⟩, fun h => ⟨e.sy h.1, S_sy e h.2⟩, fun h g => ⟨e.tr h.1 g.1, S_tr e h.2 g.2⟩⟩

/-- the least that is related -/
def Lst (R : Nat → Nat → Prop) (i v : Nat) : Prop := v ≤ i ∧ R i v ∧ ∀ j, j < v → ¬ R i j
def Right (R : Nat → Nat → Prop) (nx : List Int) (i : Nat) : Prop := ∀ t, t < i → ∃ v : Nat, nx[t]? = some (v : Int) ∧ Lst R t v
theorem noRep {R : Nat → Nat → Prop} {nx : List Int} {i j : Nat} (e : Eqv R) (hr : Right R nx i) (hj : j ≤ i) (h : ∀ t, t < j → ¬ (nx[t]? = some (t : Int) ∧ R i t)) : ∀ t, t < j → ¬ R i t := by
  intro t ht hR
  obtain ⟨v, hv, hle, hRv, hmin⟩ := hr t (by omega)
  obtain ⟨w, hw, hwle, hRw, hm2⟩ := hr v (by omega)
  have : w = v := by
    by_cases hlt : w < v
    · exact absurd (e.tr hRv hRw) (hmin w hlt)
    · omega
  subst this
  exact h w (by omega) ⟨hw, e.tr hR hRv⟩

/-- all that is known of the list of functions -/
structure Inp (x : List LF) : Prop where
  le : x.length ≤ 12
  calls : ∀ j (h : j < x.length), CallsIn x.length (x[j]).2.2.1 0
  lens : ∀ f ∈ x, Lens f

theorem l11r11_ok {x : List LF} {cls nx : List Int} {i : Nat} {k : List LF → Int → Int → List Int → List Int → Prop} (hx : Inp x) (hcls : cls.length = x.length) (hnx : nx.length = x.length) (hi : i < x.length)
    (hr : Right (RP x cls) nx i) (hni : nx[i]? = some (i : Int)) (h : ∀ nx' : List Int, nx'.length = x.length → Right (RP x cls) nx' (i + 1) → k x (x.length : Int) (i : Int) cls nx') :
    l11r11 k x (i : Int) (x.length : Int) (i : Int) (i : Int) 0 cls nx := by
  have hle := hx.le
  have eq := RP_eqv x cls
  constructor
  intro I hI
  have key := upInd (N := i) (M := fun j => (∀ t, t < j → ¬ (nx[t]? = some (t : Int) ∧ RP x cls i t)) → I x (i : Int) (x.length : Int) (i : Int) (i : Int) (j : Int) cls nx)
    (by
      intro hno
      apply hI
      refine brDn (by omega) (h nx hnx fun t ht => ?_)
      by_cases e : t = i
      · subst e
        exact ⟨t, hni, Nat.le_refl _, eq.rfl' _, noRep eq hr (Nat.le_refl _) hno⟩
      · exact hr t (by omega))
    (by
      intro j hj ih hno
      apply hI
      have hgo : ¬ (nx[j]? = some (j : Int) ∧ RP x cls i j) → I x (i : Int) (x.length : Int) (i : Int) (i : Int) ((j + 1 : Nat) : Int) cls nx := fun hn => ih fun t ht => by
        by_cases e : t = j
        · subst e; exact hn
        · exact hno t (by omega)
      rw [wrapS (by omega), Int.toNat_natCast, Int.toNat_natCast]
      refine brD (by omega) (brD (by omega) (needNth (by omega) (brE (fun e1 => ?_) fun e1 => hgo fun hh => e1 ?_)))
      rotate_left
      · have := hh.1
        rw [List.getElem?_eq_getElem (by omega)] at this
        exact Option.some.inj this
      refine brD (by omega) (needNth (by omega) (brD (by omega) (needNth (by omega) (brE (fun e2 => ?_) fun e2 => hgo fun hh => e2 ?_))))
      rotate_left
      · have := hh.2.1
        unfold RC at this
        rw [List.getElem?_eq_getElem (by omega), List.getElem?_eq_getElem (by omega)] at this
        exact Option.some.inj this
      refine needAt hi (needAt (by omega) ?_)
      have hcl : ((cls.length : Nat) : Int) = ((x.length : Nat) : Int) := by omega
      have hci : CallsIn ((cls.length : Nat) : Int) (x[i]).2.2.1 0 := by rw [hcl]; exact hx.calls i hi
      have hcj : CallsIn ((cls.length : Nat) : Int) (x[j]'(by omega)).2.2.1 0 := by rw [hcl]; exact hx.calls j (by omega)
      refine c22_ok (hx.lens _ (List.getElem_mem hi)) hci hcj (fun hs => ?_) fun hs => ?_
      · refine brT rfl (brD (by omega) (needNth (by omega) (h _ (by simp [hnx]) fun t ht => ?_)))
        have hRP : RP x cls i j := ⟨by unfold RC; rw [List.getElem?_eq_getElem (by omega), List.getElem?_eq_getElem (by omega), e2], by rw [F_eq hi, F_eq (by omega)]; exact hs⟩
        by_cases e : t = i
        · subst e
          exact ⟨j, by rw [List.getElem?_set_self (by omega)], by omega, hRP, noRep eq hr (by omega) hno⟩
        · obtain ⟨v, hv, hl⟩ := hr t (by omega)
          exact ⟨v, by rw [List.getElem?_set_ne (by omega)]; exact hv, hl⟩
      · refine brF rfl (hgo fun hh => hs ?_)
        have := hh.2.2
        rw [F_eq hi, F_eq (by omega)] at this
        exact this)
    0 (Nat.zero_le _)
  exact key fun t ht => absurd ht (by omega)

theorem l11r7_ok {x : List LF} {cls nx : List Int} {k : List LF → List Int → List Int → Prop} (hx : Inp x) (hcls : cls.length = x.length) (hnx : nx.length = x.length)
    (h : ∀ nx' : List Int, nx'.length = x.length → Right (RP x cls) nx' x.length → k x cls nx') : l11r7 k x (x.length : Int) 0 cls nx := by
  have hle := hx.le
  constructor
  intro I hI
  have key := upInd (N := x.length) (M := fun i => ∀ nx : List Int, nx.length = x.length → Right (RP x cls) nx i → I x (x.length : Int) (i : Int) cls nx)
    (by
      intro nx h1 h2
      apply hI
      exact brDn (by omega) (h nx h1 h2))
    (by
      intro i hi ih nx h1 h2
      apply hI
      rw [Int.toNat_natCast]
      refine brD (by omega) (brD (by omega) (needNth (by omega) (l11r11_ok hx hcls (by simp [h1]) hi (fun t ht => ?_) (by rw [List.getElem?_set_self (by omega)]) fun nx' h3 h4 => ?_)))
      · obtain ⟨v, hv, hl⟩ := h2 t ht
        exact ⟨v, by rw [List.getElem?_set_ne (by omega)]; exact hv, hl⟩
      · rw [wrapS (by omega)]
        exact ih nx' h3 h4)
    0 (Nat.zero_le _)
  exact key nx hnx fun t ht => absurd ht (by omega)

def Post (x : List LF) (E : Nat → Nat → Prop) : Prop := ∀ i j, E i j → i < x.length ∧ j < x.length ∧ S E (F x i) (F x j)
structure Inv (x : List LF) (cls : List Int) : Prop where
  len : cls.length = x.length
  right : Right (RC cls) cls x.length
  top : ∀ E, Post x E → ∀ i j, E i j → RC cls i j
structure Fin' (x : List LF) (cls : List Int) : Prop extends Inv x cls where
  post : ∀ i j, i < x.length → j < x.length → RC cls i j → S (RC cls) (F x i) (F x j)

theorem next_rel {x : List LF} {cls nx : List Int} (hr : Right (RP x cls) nx x.length) {i j : Nat} (hi : i < x.length) (hj : j < x.length) : RC nx i j ↔ RP x cls i j := by
  have eq := RP_eqv x cls
  obtain ⟨v, hv, h1, h2, h3⟩ := hr i hi
  obtain ⟨w, hw, g1, g2, g3⟩ := hr j hj
  unfold RC
  rw [hv, hw]
  constructor
  · intro h
    have : v = w := by have := Option.some.inj h; omega
    subst this
    exact eq.tr h2 (eq.sy g2)
  · intro h
    have : v = w := by
      by_cases l1 : v < w
      · exact absurd (eq.tr (eq.sy h) h2) (g3 v l1)
      · by_cases l2 : w < v
        · exact absurd (eq.tr h g2) (h3 w l2)
        · omega
    rw [this]
theorem next_inv {x : List LF} {cls nx : List Int} (hc : Inv x cls) (hl : nx.length = x.length) (hr : Right (RP x cls) nx x.length) : Inv x nx := by
  refine ⟨hl, fun t ht => ?_, fun E hE i j hij => ?_⟩
  · obtain ⟨v, hv, h1, h2, h3⟩ := hr t ht
    exact ⟨v, hv, h1, (next_rel hr ht (by omega)).2 h2, fun j hj hh => h3 j hj ((next_rel hr ht (by omega)).1 hh)⟩
  · obtain ⟨h1, h2, h3⟩ := hE i j hij
    exact (next_rel hr h1 h2).2 ⟨hc.top E hE i j hij, S_mono (fun _ _ _ h => hc.top E hE _ _ h) h3⟩
theorem next_ge {x : List LF} {cls nx : List Int} (hc : Inv x cls) (hr : Right (RP x cls) nx x.length) {t : Nat} (ht : t < x.length) : ∃ a b : Nat, cls[t]? = some (a : Int) ∧ nx[t]? = some (b : Int) ∧ a ≤ b ∧ b ≤ t := by
  obtain ⟨v, hv, h1, h2, h3⟩ := hr t ht
  obtain ⟨w, hw, g1, g2, g3⟩ := hc.right t ht
  refine ⟨w, v, hw, hv, ?_, h1⟩
  by_cases l : v < w
  · exact absurd h2.1 (g3 v l)
  · omega
theorem sum_le : ∀ (a b : List Int), a.length = b.length → (∀ (t : Nat) (u v : Int), a[t]? = some u → b[t]? = some v → u ≤ v) → a.sum ≤ b.sum
  | [], [], _, _ => Int.le_refl _
  | [], _ :: _, h, _ => by simp at h
  | _ :: _, [], h, _ => by simp at h
  | u :: a, v :: b, h, hh => by
    have h0 := hh 0 u v rfl rfl
    have h1 := sum_le a b (by simpa using h) fun t p q h1 h2 => hh (t + 1) p q h1 h2
    simp only [List.sum_cons]; omega
theorem sum_lt : ∀ (a b : List Int), a.length = b.length → (∀ (t : Nat) (u v : Int), a[t]? = some u → b[t]? = some v → u ≤ v) → a ≠ b → a.sum < b.sum
  | [], [], _, _, hn => absurd rfl hn
  | [], _ :: _, h, _, _ => by simp at h
  | _ :: _, [], h, _, _ => by simp at h
  | u :: a, v :: b, h, hh, hn => by
    have h0 := hh 0 u v rfl rfl
    have h1 := sum_le a b (by simpa using h) fun t p q h1 h2 => hh (t + 1) p q h1 h2
    simp only [List.sum_cons]
    by_cases e : u = v
    · have h2 := sum_lt a b (by simpa using h) (fun t p q h1 h2 => hh (t + 1) p q h1 h2) fun e2 => hn (by rw [e, e2])
      omega
    · omega
theorem sum_bd : ∀ (a : List Int) (n : Int), (∀ (t : Nat) (u : Int), a[t]? = some u → u ≤ n) → a.sum ≤ a.length * n
  | [], n, _ => by simp
  | u :: a, n, h => by
    have h0 := h 0 u rfl
    have h1 := sum_bd a n fun t p h1 => h (t + 1) p h1
    simp only [List.sum_cons, List.length_cons]
    have : ((a.length + 1 : Nat) : Int) * n = a.length * n + n := by rw [Int.natCast_add, Int.add_mul]; simp
    omega

theorem l11r5_ok {x : List LF} {cls : List Int} {k : Int → List Int → Prop} (hx : Inp x) (hc : Inv x cls) (h : ∀ cls : List Int, Fin' x cls → k 0 cls) : l11r5 k x cls := by
  have hle := hx.le
  constructor
  intro I hI
  have key : ∀ m : Nat, ∀ cls : List Int, Inv x cls → (x.length : Int) * x.length - cls.sum ≤ m → I x cls := by
    intro m
    induction m with
    | zero =>
      intro cls hc hm
      apply hI
      refine brD (by omega) (l11r7_ok hx hc.len (by simp) fun nx h1 h2 => ?_)
      have hge := fun t ht => next_ge hc h2 (t := t) ht
      have hsum : cls ≠ nx → cls.sum < nx.sum := sum_lt cls nx (by rw [hc.len, h1]) fun t u v hu hv => by
        have ht : t < x.length := by have := (List.getElem?_eq_some_iff.1 hu).1; rw [hc.len] at this; exact this
        obtain ⟨a, b, ha, hb, hab, _⟩ := hge t ht
        rw [hu] at ha; rw [hv] at hb
        have := Option.some.inj ha; have := Option.some.inj hb; omega
      have hbd : nx.sum ≤ nx.length * (x.length : Int) := sum_bd nx x.length fun t u hu => by
        have ht : t < x.length := by have := (List.getElem?_eq_some_iff.1 hu).1; rw [h1] at this; exact this
        obtain ⟨a, b, ha, hb, hab, _⟩ := hge t ht
        rw [hu] at hb
        have := Option.some.inj hb; omega
      rw [h1] at hbd
      refine c23_ok (by rw [h1, hml]; omega) (fun e => ?_) fun e => ?_
      · subst e
        refine brT rfl (h _ ⟨hc, fun i j hi hj hij => ((next_rel h2 hi hj).1 hij).2⟩)
      · have := hsum fun h => e h.symm
        omega
    | succ m ih =>
      intro cls hc hm
      apply hI
      refine brD (by omega) (l11r7_ok hx hc.len (by simp) fun nx h1 h2 => ?_)
      have hge := fun t ht => next_ge hc h2 (t := t) ht
      have hsum : cls ≠ nx → cls.sum < nx.sum := sum_lt cls nx (by rw [hc.len, h1]) fun t u v hu hv => by
        have ht : t < x.length := by have := (List.getElem?_eq_some_iff.1 hu).1; rw [hc.len] at this; exact this
        obtain ⟨a, b, ha, hb, hab, _⟩ := hge t ht
        rw [hu] at ha; rw [hv] at hb
        have := Option.some.inj ha; have := Option.some.inj hb; omega
      refine c23_ok (by rw [h1, hml]; omega) (fun e => ?_) fun e => ?_
      · subst e
        refine brT rfl (h _ ⟨hc, fun i j hi hj hij => ((next_rel h2 hi hj).1 hij).2⟩)
      · have := hsum fun h => e h.symm
        exact brF rfl (ih nx (next_inv hc h1 h2) (by omega))
  exact key _ cls hc (Int.self_le_toNat _)

theorem c11_ok {x : List LF} {e : Int} {k : Int → List Int → Prop} (hle : x.length ≤ 12) (hlens : ∀ f ∈ x, Lens f) (he : e = 0 → ∀ j (h : j < x.length), CallsIn x.length (x[j]).2.2.1 0) (hk : ∀ k : Int → Prop, k e → c6 x k)
    (h1 : e ≠ 0 → k e []) (h2 : e = 0 → ∀ cls, Fin' x cls → k 0 cls) : c11 x k := by
  constructor
  unfold tc11
  refine hk _ (brN h1 fun e0 => brD (by omega) (l11r5_ok ⟨hle, he e0, hlens⟩ ⟨by simp, fun t ht => ⟨0, ?_, Nat.zero_le _, ?_, fun j hj => absurd hj (by omega)⟩, fun E hE i j hij => ?_⟩ (h2 e0)))
  · simp [List.getElem?_replicate, ht]
  · have h0 : 0 < x.length := by omega
    show (List.replicate _ (0 : Int))[t]? = (List.replicate _ (0 : Int))[0]?
    rw [List.getElem?_replicate, List.getElem?_replicate, if_pos (by omega), if_pos (by omega)]
  · obtain ⟨g1, g2, _⟩ := hE i j hij
    simp [RC, List.getElem?_replicate, g1, g2]
theorem count_lt : ∀ (m : List Bool) (i : Nat), m[i]? = some true → (m.set i false).count true < m.count true
  | [], i, h => by simp at h
  | b :: m, 0, h => by simp at h; subst h; simp [List.count_cons]
  | b :: m, i + 1, h => by
    have := count_lt m i (by simpa using h)
    simp only [List.set_cons_succ, List.count_cons]; omega

theorem idx_inj {n a b i j : Nat} (hb : b < n) (hj : j < n) (h : a * n + b = i * n + j) : a = i ∧ b = j := by
  have hn : 0 < n := by omega
  have h1 : (b + a * n) / n = a := by rw [Nat.add_mul_div_right _ _ hn, Nat.div_eq_of_lt hb]; omega
  have h2 : (j + i * n) / n = i := by rw [Nat.add_mul_div_right _ _ hn, Nat.div_eq_of_lt hj]; omega
  have h3 : b + a * n = j + i * n := by omega
  rw [h3, h2] at h1
  subst h1
  exact ⟨rfl, by omega⟩

/-- a state of the reference's pairs -/
structure IV (x : List LF) (cls : List Int) (m0 m : List Bool) (ch : Bool) : Prop where
  len : m.length = x.length * x.length
  up : ∀ i j, i < x.length → j < x.length → RC cls i j → RM x.length m i j
  no : ch = false → m = m0
  yes : ch = true → m.count true < m0.count true
def Done (x : List LF) (m0 : List Bool) (ch : Bool) (i j : Nat) : Prop :=
  ch = false → ∀ a b, (a < i ∨ (a = i ∧ b < j)) → RM x.length m0 a b → S (RM x.length m0) (F x a) (F x b)

theorem l7r15_ok {x : List LF} {cls : List Int} {m0 m : List Bool} {ch : Bool} {i : Nat} {k : List LF → Int → Bool → Int → Int → List Bool → Prop} (hx : Inp x) (hc : Fin' x cls) (hi : i < x.length)
    (h1 : IV x cls m0 m ch) (h2 : Done x m0 ch i 0) (h : ∀ m ch, IV x cls m0 m ch → Done x m0 ch (i + 1) 0 → k x (x.length : Int) ch (x.length : Int) (i : Int) m) :
    l7r15 k x (x.length : Int) ch (i : Int) (x.length : Int) (i : Int) (x.length : Int) 0 m := by
  have hle := hx.le
  constructor
  intro I hI
  have key := upInd (N := x.length) (M := fun j => ∀ m ch, IV x cls m0 m ch → Done x m0 ch i j → I x (x.length : Int) ch (i : Int) (x.length : Int) (i : Int) (x.length : Int) (j : Int) m)
    (by
      intro m ch h1 h2
      apply hI
      refine brDn (by omega) (h m ch h1 fun e a b hab hR => h2 e a b ?_ hR)
      have := hR.2.1
      omega)
    (by
      intro j hj ih m ch h1 h2
      apply hI
      have hix := idx hi hj
      have hm := h1.len
      rw [idxI hle hi hj, wrapS (by omega), Int.toNat_natCast]
      have hgo : (ch = false → RM x.length m0 i j → S (RM x.length m0) (F x i) (F x j)) → I x (x.length : Int) ch (i : Int) (x.length : Int) (i : Int) (x.length : Int) ((j + 1 : Nat) : Int) m := fun hh =>
        ih m ch h1 fun e a b hab hR => by
          by_cases e2 : a = i ∧ b = j
          · rw [e2.1, e2.2] at hR ⊢; exact hh e hR
          · exact h2 e a b (by omega) hR
      refine brD (by omega) (brD (by omega) (needNth (by omega) (brB (fun e1 => needAt hi (needAt hj ?_)) fun e1 => hgo fun e hR => ?_)))
      · have hci := hx.calls i hi
        have hcj := hx.calls j hj
        refine c16_ok hle hm (hx.lens _ (List.getElem_mem hi)) hci hcj (fun hs => brF rfl (hgo fun e hR => ?_)) fun hs => brT rfl (brD (by omega) (needNth (by omega) (ih _ true ⟨by simp [hm], fun a b ha hb hab => ?_, fun e => (by cases e), fun _ => ?_⟩ fun e => (by cases e))))
        · rw [← h1.no e, F_eq hi, F_eq hj]; exact hs
        · have hr := h1.up a b ha hb hab
          refine ⟨ha, hb, ?_⟩
          by_cases e2 : a * x.length + b = i * x.length + j
          · obtain ⟨rfl, rfl⟩ := idx_inj hb hj e2
            refine absurd ?_ hs
            have hp := hc.post a b ha hb hab
            rw [F_eq ha, F_eq hb] at hp
            refine S_mono (fun t q1 q2 hh => ?_) hp
            have := hci t q1 (Nat.zero_le _)
            have := hcj t q2 (Nat.zero_le _)
            exact h1.up _ _ (by omega) (by omega) hh
          · rw [List.getElem?_set_ne (by omega)]; exact hr.2.2
        · have hlt := count_lt m (i * x.length + j) (by rw [List.getElem?_eq_getElem (by omega), e1])
          cases hch : ch with
          | false => rw [← h1.no hch]; exact hlt
          | true => exact Nat.lt_trans hlt (h1.yes hch)
      · rw [← h1.no e] at hR
        have := hR.2.2
        rw [List.getElem?_eq_getElem (by omega), e1] at this
        cases this)
    0 (Nat.zero_le _)
  exact key m ch h1 h2

theorem l7r12_ok {x : List LF} {cls : List Int} {m0 : List Bool} {k : List LF → Int → Bool → List Bool → Prop} (hx : Inp x) (hc : Fin' x cls)
    (h1 : IV x cls m0 m0 false) (h : ∀ m ch, IV x cls m0 m ch → Done x m0 ch x.length 0 → k x (x.length : Int) ch m) :
    l7r12 k x (x.length : Int) false (x.length : Int) 0 m0 := by
  have hle := hx.le
  constructor
  intro I hI
  have key := upInd (N := x.length) (M := fun i => ∀ m ch, IV x cls m0 m ch → Done x m0 ch i 0 → I x (x.length : Int) ch (x.length : Int) (i : Int) m)
    (by
      intro m ch h1 h2
      apply hI
      exact brDn (by omega) (h m ch h1 h2))
    (by
      intro i hi ih m ch h1 h2
      apply hI
      refine brD (by omega) (l7r15_ok hx hc hi h1 h2 fun m ch h3 h4 => ?_)
      rw [wrapS (by omega)]
      exact ih m ch h3 h4)
    0 (Nat.zero_le _)
  exact key m0 false h1 fun _ a b hab => by omega

theorem l7r9_ok {x : List LF} {cls : List Int} {m0 : List Bool} {k : Int → List Bool → Prop} (hx : Inp x) (hc : Fin' x cls)
    (h1 : IV x cls m0 m0 false) (h : ∀ m, IV x cls m m false → Post x (RM x.length m) → k (x.length : Int) m) : l7r9 k x (x.length : Int) true m0 := by
  constructor
  intro I hI
  have key : ∀ c : Nat, ∀ m, IV x cls m m false → m.count true ≤ c → I x (x.length : Int) true m := by
    intro c
    induction c with
    | zero =>
      intro m h1 hle
      apply hI
      refine brT rfl (l7r12_ok hx hc h1 fun m2 ch h2 h3 => ?_)
      cases hch : ch with
      | true => have := h2.yes hch; omega
      | false =>
        have := h2.no hch
        subst this
        apply hI
        refine brF rfl (h m2 h1 fun i j hij => ⟨hij.1, hij.2.1, h3 hch i j (.inl hij.1) hij⟩)
    | succ c ih =>
      intro m h1 hle
      apply hI
      refine brT rfl (l7r12_ok hx hc h1 fun m2 ch h2 h3 => ?_)
      cases hch : ch with
      | true =>
        have := h2.yes hch
        exact ih m2 ⟨h2.len, h2.up, fun _ => rfl, fun e => (by cases e)⟩ (by omega)
      | false =>
        have := h2.no hch
        subst this
        apply hI
        refine brF rfl (h m2 h1 fun i j hij => ⟨hij.1, hij.2.1, h3 hch i j (.inl hij.1) hij⟩)
  exact key _ m0 h1 (Nat.le_refl _)

theorem l7r26_ok {x : List LF} {cls out : List Int} {m : List Bool} {i v : Nat} {k : Int → Int → Int → Int → List Bool → List Int → Prop} (hx : Inp x) (hi : i < x.length)
    (h1 : IV x cls m m false) (hv : Lst (RM x.length m) i v) (h : k (x.length : Int) (v : Int) (x.length : Int) (i : Int) m out) : l7r26 k (x.length : Int) (i : Int) 0 (x.length : Int) (i : Int) m out := by
  have hle := hx.le
  obtain ⟨g1, g2, g3⟩ := hv
  have hm := h1.len
  constructor
  intro I hI
  exact upInd (N := v) (M := fun t => I (x.length : Int) (i : Int) (t : Int) (x.length : Int) (i : Int) m out)
    (by
      apply hI
      have hix := idx hi (j := v) (by omega)
      rw [idxI hle hi (by omega), Int.toNat_natCast]
      exact brD (by omega) (needS g2.2.2 (brF rfl h)))
    (by
      intro t ht ih
      apply hI
      have hix := idx hi (j := t) (by omega)
      rw [idxI hle hi (by omega), Int.toNat_natCast, wrapS (by omega)]
      refine brD (by omega) (needNth (by omega) (brB (fun _ => ih) fun e => absurd ?_ (g3 t ht)))
      refine ⟨hi, by omega, ?_⟩
      rw [List.getElem?_eq_getElem (by omega)]
      exact congrArg some (by simpa using e))
    0 (Nat.zero_le _)

theorem l7r23_ok {x : List LF} {cls : List Int} {m : List Bool} {k : List Int → Prop} (hx : Inp x) (hc : Fin' x cls) (h1 : IV x cls m m false) (hp : Post x (RM x.length m)) (h : k cls) :
    l7r23 k (x.length : Int) (x.length : Int) 0 m [] := by
  have hle := hx.le
  have hl := hc.len
  constructor
  intro I hI
  have key := upInd (N := x.length) (M := fun i => I (x.length : Int) (x.length : Int) (i : Int) m (cls.take i))
    (by
      apply hI
      refine brDn (by omega) ?_
      rw [← hl, List.take_length]; exact h)
    (by
      intro i hi ih
      apply hI
      obtain ⟨v, hv, g1, g2, g3⟩ := hc.right i hi
      refine brD (by omega) (l7r26_ok hx hi h1 (v := v) ⟨g1, h1.up i v hi (by omega) g2, fun j hj hR => g3 j hj (hc.top _ hp i j hR)⟩ ?_)
      refine brT (roomS (by simp; omega)) ?_
      rw [wrapS (by omega)]
      rw [List.take_add_one, hv] at ih
      exact ih)
    0 (Nat.zero_le _)
  exact key

theorem l7r4_ok {x : List LF} {n : Int} {N : Nat} {m : List Bool} {k : List LF → Int → List Bool → Prop} (hN : N ≤ 1000) (hm : m.length = N) (h : ∀ m : List Bool, m.length = N → (∀ t, t < N → m[t]? = some true) → k x n m) :
    l7r4 k x n (N : Int) 0 m := by
  constructor
  intro I hI
  have key := upInd (N := N) (M := fun i => ∀ m : List Bool, m.length = N → (∀ t, t < i → m[t]? = some true) → I x n (N : Int) (i : Int) m)
    (by
      intro m h1 h2
      apply hI
      exact brDn (by omega) (h m h1 h2))
    (by
      intro i hi ih m h1 h2
      apply hI
      rw [wrapS (by omega), Int.toNat_natCast]
      refine brD (by omega) (brD (by omega) (needNth (by omega) (ih _ (by simp [h1]) fun t ht => ?_)))
      by_cases e : t = i
      · subst e; rw [List.getElem?_set_self (by omega)]
      · rw [List.getElem?_set_ne (by omega)]; exact h2 t (by omega))
    0 (Nat.zero_le _)
  exact key m hm fun t ht => absurd ht (by omega)

theorem c7_ok {x : List LF} {cls : List Int} {k : List Int → Prop} (hx : Inp x) (hc : Fin' x cls) (h : k cls) : c7 x k := by
  have hle := hx.le
  have h2 : x.length * x.length ≤ 12 * 12 := Nat.mul_le_mul hle hle
  have h3 : IntKind.wrap .i64 (((x.length : Nat) : Int) * ((x.length : Nat) : Int)) = ((x.length * x.length : Nat) : Int) := by
    have e : ((x.length : Nat) : Int) * ((x.length : Nat) : Int) = ((x.length * x.length : Nat) : Int) := by simp
    rw [e, wrap64 (by omega) (by omega)]
  constructor
  unfold tc7
  rw [h3, Int.toNat_natCast, List.length_replicate]
  refine brD (by omega) (l7r4_ok (by omega) (by simp) fun m g1 g2 => l7r9_ok (m0 := m) hx hc ⟨g1, fun i j hi hj _ => ⟨hi, hj, g2 _ (idx hi hj)⟩, fun _ => rfl, fun e => (by cases e)⟩ fun m h4 h5 => l7r23_ok hx hc h4 h5 h)
theorem allInd2 {N : Nat} {p : Nat → Prop} {M : Nat → Prop} (hN : (∀ i, i < N → p i) → M N)
    (hs : ∀ i, i < N → (∀ j, j < i → p j) → (p i → M (i + 1)) → M i) : M 0 := by
  have key := upInd (N := N) (M := fun i => (∀ j, j < i → p j) → M i) hN (fun i hi ih hp =>
    hs i hi hp (fun h => ih fun j hj => by
      by_cases e : j = i
      · subst e; exact h
      · exact hp j (by omega)))
  exact key 0 (Nat.zero_le _) fun j hj => absurd hj (by omega)

def badIt (y : IT) : Prop := (y.1.1 ≠ 20 ∧ y.1.1 ≠ 11) ∨ 0 ≤ y.2.1 ∨ y.1.2.2.2.2.1 ≠ 0
instance {y : IT} : Decidable (badIt y) := by unfold badIt; infer_instance
def itE (its : List IT) (k : Int) : Int := match its[k.toNat]? with
  | some y => if badIt y then 3 else 0
  | none => 3
theorem itE_get {its : List IT} {k : Int} (h : k.toNat < its.length) : itE its k = if badIt its[k.toNat] then 3 else 0 := by
  unfold itE; rw [List.getElem?_eq_getElem h]
/-- the error of calls -/
def cErr (n : Int) (its : List IT) : Int → List CL → Int
  | _, [] => 0
  | last, c :: r => if c.1 ≤ last ∨ (its.length : Int) ≤ c.1 ∨ c.2.1 < 0 ∨ n ≤ c.2.1 then 4 else if itE its c.1 ≠ 0 then itE its c.1 else cErr n its c.1 r
/-- the error of maps -/
def mErr (L : Int) : Int → List MP → Int
  | _, [] => 0
  | last, m :: r => if m.1 ≤ last ∨ L ≤ m.1 ∨ (m.2.1 = true ∧ L ≤ m.1 + 1) then 4 else mErr L m.1 r
open Classical in
noncomputable def fErr (n : Int) (f : LF) : Int :=
  if chk f.2.1 ≠ 0 then chk f.2.1 else if f.2.1.length = 0 ∨ f.2.2.2.2.1 < 1 ∨ 4096 < f.2.2.2.2.1 then 4 else if (∃ y ∈ f.2.1, y.2.1 = (f.2.1.length : Int)) then 4
  else if cErr n f.2.1 (-1) f.2.2.1 ≠ 0 then cErr n f.2.1 (-1) f.2.2.1 else mErr f.2.1.length (-1) f.2.2.2.1
noncomputable def lsErr (n : Int) : List LF → Int
  | [] => 0
  | f :: r => if fErr n f ≠ 0 then fErr n f else lsErr n r

theorem l15r2_ok {n : Int} {f : LF} {k1 : Int → Prop} {k2 : Int → LF → Prop} (hl : f.2.1.length ≤ 16384) (h1 : (∃ y ∈ f.2.1, y.2.1 = (f.2.1.length : Int)) → k1 4) (h2 : (¬ ∃ y ∈ f.2.1, y.2.1 = (f.2.1.length : Int)) → k2 n f) :
    l15r2 k1 k2 n f.2.1 (f.2.1.length : Int) 0 f := by
  constructor
  intro I hI
  refine allInd2 (N := f.2.1.length) (p := fun i => ∀ h : i < f.2.1.length, f.2.1[i].2.1 ≠ (f.2.1.length : Int)) (M := fun i => I n f.2.1 (f.2.1.length : Int) (i : Int) f) (fun h => hI _ _ _ _ _ (brDn (by omega) (h2 ?_))) fun i hi hlt ih => hI _ _ _ _ _ ?_
  · rintro ⟨y, hy, e⟩
    obtain ⟨i, hi, rfl⟩ := List.mem_iff_getElem.1 hy
    exact h i hi hi e
  · rw [wrapS (by omega)]
    exact brD (by omega) (needAt hi (brE (fun e => h1 ⟨_, List.getElem_mem hi, e⟩) fun e => ih fun _ e2 => e e2))
theorem l15r9_ok {n : Int} {f : LF} {k1 : Int → Prop} {k2 : LF → Prop} (hc : f.2.2.1.length ≤ maxLen) (h1 : cErr n f.2.1 (-1) f.2.2.1 ≠ 0 → k1 (cErr n f.2.1 (-1) f.2.2.1)) (h2 : cErr n f.2.1 (-1) f.2.2.1 = 0 → k2 f) :
    l15r9 k1 k2 n (-1) f.2.2.1 (f.2.2.1.length : Int) 0 f := by
  have hm : maxLen = 9223372036854775807 := rfl
  constructor
  intro I hI
  have key := upInd (N := f.2.2.1.length) (M := fun i => ∀ last, -1 ≤ last → (cErr n f.2.1 last (f.2.2.1.drop i) ≠ 0 → k1 (cErr n f.2.1 last (f.2.2.1.drop i))) → (cErr n f.2.1 last (f.2.2.1.drop i) = 0 → k2 f) → I n last f.2.2.1 (f.2.2.1.length : Int) (i : Int) f)
    (fun last _ _ g2 => hI _ _ _ _ _ _ (brDn (by omega) (g2 (by simp [cErr]))))
    (fun i hi ih last hlast g1 g2 => by
      apply hI
      rw [drop_cons hi] at g1 g2
      simp only [cErr] at g1 g2
      rw [wrapS (by omega)]
      refine brD (by omega) (needAt hi (brP (fun e => ?_) fun n1 => brP (fun e => ?_) fun n2 => brP (fun e => ?_) fun n3 => brP (fun e => ?_) fun n4 => ?_))
      · rw [if_pos (.inl e)] at g1; exact g1 (by decide)
      · rw [if_pos (.inr (.inl e))] at g1; exact g1 (by decide)
      · rw [if_pos (.inr (.inr (.inl e)))] at g1; exact g1 (by decide)
      · rw [if_pos (.inr (.inr (.inr e)))] at g1; exact g1 (by decide)
      rw [if_neg (by omega)] at g1 g2
      have hb : (f.2.2.1[i].1).toNat < f.2.1.length := by omega
      rw [itE_get hb] at g1 g2
      rw [at?_in (by omega) hb]
      have bad : badIt f.2.1[(f.2.2.1[i].1).toNat] → k1 3 := fun q => by rw [if_pos q, if_pos (by decide)] at g1; exact g1 (by decide)
      have good : ¬ badIt f.2.1[(f.2.2.1[i].1).toNat] → I n f.2.2.1[i].1 f.2.2.1 (f.2.2.1.length : Int) ((i + 1 : Nat) : Int) f := fun q => by
        rw [if_neg q, if_neg (fun h => h rfl)] at g1 g2
        exact ih _ (by omega) g1 g2
      clear g1 g2
      unfold badIt at bad good
      generalize f.2.1[(f.2.2.1[i].1).toNat] = y at bad good ⊢
      show br _ _ _
      refine brN (fun e => brN (fun e2 => bad (.inl ⟨e, e2⟩)) fun e2 => brP (fun e3 => bad (.inr (.inl e3))) fun e3 => brN (fun e4 => bad (.inr (.inr e4))) fun e4 => good (by omega)) fun e => brP (fun e3 => bad (.inr (.inl e3))) fun e3 => brN (fun e4 => bad (.inr (.inr e4))) fun e4 => good (by omega))
    0 (Nat.zero_le _)
  exact key (-1) (by omega) (by simpa using h1) (by simpa using h2)
theorem l15r20_ok {f : LF} {k1 : Int → Prop} {k2 : Prop} (hl : f.2.1.length ≤ 16384) (hc : f.2.2.2.1.length ≤ maxLen) (h1 : mErr f.2.1.length (-1) f.2.2.2.1 ≠ 0 → k1 (mErr f.2.1.length (-1) f.2.2.2.1)) (h2 : mErr f.2.1.length (-1) f.2.2.2.1 = 0 → k2) :
    l15r20 k1 k2 (-1) f.2.2.2.1 (f.2.2.2.1.length : Int) 0 f := by
  have hm : maxLen = 9223372036854775807 := rfl
  constructor
  intro I hI
  have key := upInd (N := f.2.2.2.1.length) (M := fun i => ∀ last, -1 ≤ last → (mErr f.2.1.length last (f.2.2.2.1.drop i) ≠ 0 → k1 (mErr f.2.1.length last (f.2.2.2.1.drop i))) → (mErr f.2.1.length last (f.2.2.2.1.drop i) = 0 → k2) → I last f.2.2.2.1 (f.2.2.2.1.length : Int) (i : Int) f)
    (fun last _ _ g2 => hI _ _ _ _ _ (brDn (by omega) (g2 (by simp [mErr]))))
    (fun i hi ih last hlast g1 g2 => by
      apply hI
      rw [drop_cons hi] at g1 g2
      simp only [mErr] at g1 g2
      rw [wrapS (by omega)]
      refine brD (by omega) (needAt hi (brP (fun e => ?_) fun n1 => brP (fun e => ?_) fun n2 => brB (fun e => ?_) fun e => ?_))
      · rw [if_pos (.inl e)] at g1; exact g1 (by decide)
      · rw [if_pos (.inr (.inl e))] at g1; exact g1 (by decide)
      · rw [wrap64 (by omega) (by omega)]
        refine brP (fun e2 => ?_) fun e2 => ?_
        · rw [if_pos (.inr (.inr ⟨e, e2⟩))] at g1; exact g1 (by decide)
        · rw [if_neg (by rintro (q | q | q) <;> omega)] at g1 g2
          exact ih _ (by omega) g1 g2
      · rw [if_neg (by rw [e]; rintro (q | q | ⟨q, _⟩); omega; omega; cases q)] at g1 g2
        exact ih _ (by omega) g1 g2)
    0 (Nat.zero_le _)
  exact key (-1) (by omega) (by simpa using h1) (by simpa using h2)
theorem c15_ok {n : Int} {f : LF} {k : Int → Prop} (hl : f.2.1.length ≤ 16384) (hf : Lens f)
    (h1 : (∃ y ∈ f.2.1, y.2.1 = (f.2.1.length : Int)) → k 4) (h2 : (¬ ∃ y ∈ f.2.1, y.2.1 = (f.2.1.length : Int)) → cErr n f.2.1 (-1) f.2.2.1 ≠ 0 → k (cErr n f.2.1 (-1) f.2.2.1))
    (h3 : (¬ ∃ y ∈ f.2.1, y.2.1 = (f.2.1.length : Int)) → cErr n f.2.1 (-1) f.2.2.1 = 0 → k (mErr f.2.1.length (-1) f.2.2.2.1)) : c15 f n k := by
  constructor
  refine l15r2_ok hl h1 fun q => l15r9_ok hf.2.1 (h2 q) fun q2 => l15r20_ok hl hf.2.2.1 (fun _ => h3 q q2) fun e => ?_
  have := h3 q q2
  rw [e] at this
  exact this

theorem l6r4_ok {x : List LF} {k1 : Int → Prop} {k2 : Prop} (hx : x.length ≤ 12) (hL : ∀ f ∈ x, Lens f) (h1 : lsErr x.length x ≠ 0 → k1 (lsErr x.length x)) (h2 : lsErr x.length x = 0 → k2) : l6r4 k1 k2 x x (x.length : Int) 0 := by
  constructor
  intro I hI
  refine upInd (N := x.length) (M := fun i => (lsErr x.length (x.drop i) ≠ 0 → k1 (lsErr x.length (x.drop i))) → (lsErr x.length (x.drop i) = 0 → k2) → I x x (x.length : Int) (i : Int)) ?_ ?_ 0 (Nat.zero_le _) (by simpa using h1) (by simpa using h2)
  · intro _ g
    exact hI _ _ _ _ (brDn (by omega) (g (by simp [lsErr])))
  · intro i hi ih g1 g2
    apply hI
    refine brD (by omega) (needAt hi ?_)
    rw [drop_cons hi] at g1 g2
    simp only [lsErr] at g1 g2
    rw [wrapS (by omega)]
    have hf := hL _ (List.getElem_mem hi)
    generalize x[i] = f at hf g1 g2 ⊢
    have hbad : ∀ e : Int, fErr x.length f = e → e ≠ 0 → k1 e := fun e he hne => by
      rw [he, if_pos hne] at g1; exact g1 hne
    have hgood : fErr x.length f = 0 → I x x (x.length : Int) ((i + 1 : Nat) : Int) := fun he => by
      rw [he, if_neg (fun h => h rfl)] at g1 g2
      exact ih g1 g2
    clear g1 g2 ih
    unfold fErr at hbad hgood
    refine c14_ok (brN (fun e => ?_) fun e => ?_)
    · rw [if_pos e] at hbad; exact hbad _ rfl e
    rw [if_neg (fun h => h e)] at hbad hgood
    refine brE (fun e2 => ?_) fun m1 => brP (fun e2 => ?_) fun m2 => brP (fun e2 => ?_) fun m3 => ?_
    · rw [if_pos (by omega)] at hbad; exact hbad _ rfl (by decide)
    · rw [if_pos (by omega)] at hbad; exact hbad _ rfl (by decide)
    · rw [if_pos (by omega)] at hbad; exact hbad _ rfl (by decide)
    rw [if_neg (by omega)] at hbad hgood
    refine c15_ok (chk_good e).1 hf (fun q => ?_) (fun q q2 => ?_) fun q q2 => brN (fun q3 => ?_) fun q3 => ?_
    · rw [if_pos q] at hbad; exact brT rfl (hbad _ rfl (by decide))
    · rw [if_neg q, if_pos q2] at hbad; exact brT (by simpa using q2) (hbad _ rfl q2)
    · rw [if_neg q, if_neg (fun h => h q2)] at hbad; exact hbad _ rfl q3
    · rw [if_neg q, if_neg (fun h => h q2)] at hgood; exact hgood q3
theorem c6_ok {x : List LF} {k : Int → Prop} (hx : x.length ≤ 12) (hL : ∀ f ∈ x, Lens f) (h : k (lsErr x.length x)) : c6 x k := by
  constructor
  exact brDn (by omega) (l6r4_ok hx hL (fun _ => h) fun e => by rw [e] at h; exact h)

/-! the reference -/
theorem l5r12_ok {x y : List LF} {f : LF} {a b : Int} {k1 : Int → Prop} {k2 : List LF → List LF → Int → Int → LF → Prop} (hl : f.2.1.length ≤ 16384) (h1 : (∃ y ∈ f.2.1, y.2.1 = (f.2.1.length : Int)) → k1 4) (h2 : (¬ ∃ y ∈ f.2.1, y.2.1 = (f.2.1.length : Int)) → k2 x y a b f) :
    l5r12 k1 k2 x y a b f.2.1 (f.2.1.length : Int) 0 f := by
  constructor
  intro I hI
  refine allInd2 (N := f.2.1.length) (p := fun i => ∀ h : i < f.2.1.length, f.2.1[i].2.1 ≠ (f.2.1.length : Int)) (M := fun i => I x y a b f.2.1 (f.2.1.length : Int) (i : Int) f) (fun h => hI _ _ _ _ _ _ _ _ (brDn (by omega) (h2 ?_))) fun i hi hlt ih => hI _ _ _ _ _ _ _ _ ?_
  · rintro ⟨y, hy, e⟩
    obtain ⟨i, hi, rfl⟩ := List.mem_iff_getElem.1 hy
    exact h i hi hi e
  · rw [wrapS (by omega)]
    exact brD (by omega) (needAt hi (brE (fun e => h1 ⟨_, List.getElem_mem hi, e⟩) fun e => ih fun _ e2 => e e2))
theorem c13_ok {a b c : Int} {k : Bool → Prop} (h : k (rng a b c)) : c13 a b c k := by
  constructor
  unfold rng at h
  refine brP (fun h1 => ?_) fun h1 => ?_
  · rw [show decide (a ≤ c) = decide (b ≤ a ∧ a ≤ c) by rw [decide_eq_decide]; omega]; exact h
  · rw [show decide (b ≤ a ∧ a ≤ c) = false from decide_eq_false fun e => h1 e.1] at h; exact h
theorem l5r19_ok {x y : List LF} {a b : Int} {f : LF} {k1 : Int → Prop} {k2 : List LF → List LF → Int → Int → LF → Prop} (hx : x.length ≤ 12) (hB : Bnd f.2.1) (hc : f.2.2.1.length ≤ maxLen) (h1 : cErr x.length f.2.1 (-1) f.2.2.1 ≠ 0 → k1 (cErr x.length f.2.1 (-1) f.2.2.1)) (h2 : cErr x.length f.2.1 (-1) f.2.2.1 = 0 → k2 x y a b f) :
    l5r19 k1 k2 x (-1) y a b f.2.2.1 (f.2.2.1.length : Int) 0 f := by
  have hm : maxLen = 9223372036854775807 := rfl
  constructor
  intro I hI
  have key := upInd (N := f.2.2.1.length) (M := fun i => ∀ last, -1 ≤ last → (cErr x.length f.2.1 last (f.2.2.1.drop i) ≠ 0 → k1 (cErr x.length f.2.1 last (f.2.2.1.drop i))) → (cErr x.length f.2.1 last (f.2.2.1.drop i) = 0 → k2 x y a b f) → I x last y a b f.2.2.1 (f.2.2.1.length : Int) (i : Int) f)
    (fun last _ _ g2 => hI _ _ _ _ _ _ _ _ _ (brDn (by omega) (g2 (by simp [cErr]))))
    (fun i hi ih last hlast g1 g2 => by
      apply hI
      rw [drop_cons hi] at g1 g2
      simp only [cErr] at g1 g2
      rw [wrapS (by omega), wrap64 (a := (x.length : Int) - 1) (by omega) (by omega)]
      refine brD (by omega) (needAt hi (brP (fun e => ?_) fun n1 => brP (fun e => ?_) fun n2 => c13_ok ?_))
      · rw [if_pos (.inl e)] at g1; exact g1 (by decide)
      · rw [if_pos (.inr (.inl e))] at g1; exact g1 (by decide)
      unfold rng
      by_cases hr : 0 ≤ f.2.2.1[i].2.1 ∧ f.2.2.1[i].2.1 ≤ (x.length : Int) - 1
      case neg =>
        rw [decide_eq_false hr]
        rw [if_pos (by omega)] at g1; exact brT rfl (g1 (by decide))
      rw [decide_eq_true hr]
      refine brF rfl ?_
      rw [if_neg (by omega)] at g1 g2
      have hb : (f.2.2.1[i].1).toNat < f.2.1.length := by omega
      rw [itE_get hb] at g1 g2
      rw [at?_in (by omega) hb]
      have bad : badIt f.2.1[(f.2.2.1[i].1).toNat] → k1 3 := fun q => by rw [if_pos q, if_pos (by decide)] at g1; exact g1 (by decide)
      have good : ¬ badIt f.2.1[(f.2.2.1[i].1).toNat] → I x f.2.2.1[i].1 y a b f.2.2.1 (f.2.2.1.length : Int) ((i + 1 : Nat) : Int) f := fun q => by
        rw [if_neg q, if_neg (fun h => h rfl)] at g1 g2
        exact ih _ (by omega) g1 g2
      have hb2 := (hB _ hb).1
      clear g1 g2
      unfold badIt at bad good
      generalize f.2.1[(f.2.2.1[i].1).toNat] = w at bad good hb2 ⊢
      show br _ _ _
      refine brN (fun e => brN (fun e2 => bad (.inl ⟨e, e2⟩)) fun e2 => brN (fun e3 => bad (.inr (.inl (by omega)))) fun e3 => brN (fun e4 => bad (.inr (.inr e4))) fun e4 => good (by omega)) fun e => brN (fun e3 => bad (.inr (.inl (by omega)))) fun e3 => brN (fun e4 => bad (.inr (.inr e4))) fun e4 => good (by omega))
    0 (Nat.zero_le _)
  exact key (-1) (by omega) (by simpa using h1) (by simpa using h2)
theorem l5r30_ok {x y : List LF} {a b : Int} {f : LF} {k1 : Int → Prop} {k2 : List LF → List LF → Int → Int → Prop} (hl : f.2.1.length ≤ 16384) (hc : f.2.2.2.1.length ≤ maxLen) (h1 : mErr f.2.1.length (-1) f.2.2.2.1 ≠ 0 → k1 (mErr f.2.1.length (-1) f.2.2.2.1)) (h2 : mErr f.2.1.length (-1) f.2.2.2.1 = 0 → k2 x y a b) :
    l5r30 k1 k2 x (-1) y a b f.2.2.2.1 (f.2.2.2.1.length : Int) 0 f := by
  have hm : maxLen = 9223372036854775807 := rfl
  constructor
  intro I hI
  have key := upInd (N := f.2.2.2.1.length) (M := fun i => ∀ last, -1 ≤ last → (mErr f.2.1.length last (f.2.2.2.1.drop i) ≠ 0 → k1 (mErr f.2.1.length last (f.2.2.2.1.drop i))) → (mErr f.2.1.length last (f.2.2.2.1.drop i) = 0 → k2 x y a b) → I x last y a b f.2.2.2.1 (f.2.2.2.1.length : Int) (i : Int) f)
    (fun last _ _ g2 => hI _ _ _ _ _ _ _ _ _ (brDn (by omega) (g2 (by simp [mErr]))))
    (fun i hi ih last hlast g1 g2 => by
      apply hI
      rw [drop_cons hi] at g1 g2
      simp only [mErr] at g1 g2
      rw [wrapS (by omega), wrap64 (a := (f.2.1.length : Int) - 1) (by omega) (by omega)]
      refine brD (by omega) (needAt hi (brP (fun e => ?_) fun n1 => brP (fun e => ?_) fun n2 => brB (fun e => ?_) fun e => ?_))
      · rw [if_pos (.inl e)] at g1; exact g1 (by decide)
      · rw [if_pos (.inr (.inl e))] at g1; exact g1 (by decide)
      · refine brE (fun e2 => ?_) fun e2 => ?_
        · rw [if_pos (.inr (.inr ⟨e, by omega⟩))] at g1; exact g1 (by decide)
        · rw [if_neg (by rintro (q | q | q) <;> omega)] at g1 g2
          exact ih _ (by omega) g1 g2
      · rw [if_neg (by rw [e]; rintro (q | q | ⟨q, _⟩); omega; omega; cases q)] at g1 g2
        exact ih _ (by omega) g1 g2)
    0 (Nat.zero_le _)
  exact key (-1) (by omega) (by simpa using h1) (by simpa using h2)

theorem l5r4_ok {x : List LF} {k1 : Int → Prop} {k2 : Prop} (hx : x.length ≤ 12) (hL : ∀ f ∈ x, Lens f) (h1 : lsErr x.length x ≠ 0 → k1 (lsErr x.length x)) (h2 : lsErr x.length x = 0 → k2) : l5r4 k1 k2 x x (x.length : Int) 0 := by
  constructor
  intro I hI
  refine upInd (N := x.length) (M := fun i => (lsErr x.length (x.drop i) ≠ 0 → k1 (lsErr x.length (x.drop i))) → (lsErr x.length (x.drop i) = 0 → k2) → I x x (x.length : Int) (i : Int)) ?_ ?_ 0 (Nat.zero_le _) (by simpa using h1) (by simpa using h2)
  · intro _ g
    exact hI _ _ _ _ (brDn (by omega) (g (by simp [lsErr])))
  · intro i hi ih g1 g2
    apply hI
    refine brD (by omega) (needAt hi ?_)
    rw [drop_cons hi] at g1 g2
    simp only [lsErr] at g1 g2
    have hf := hL _ (List.getElem_mem hi)
    generalize x[i] = f at hf g1 g2 ⊢
    have hbad : ∀ e : Int, fErr x.length f = e → e ≠ 0 → k1 e := fun e he hne => by
      rw [he, if_pos hne] at g1; exact g1 hne
    have hgood : fErr x.length f = 0 → I x x (x.length : Int) (IntKind.wrap .i64 ((i : Int) + 1)) := fun he => by
      rw [he, if_neg (fun h => h rfl)] at g1 g2
      rw [wrapS (by omega)]
      exact ih g1 g2
    clear g1 g2 ih
    unfold fErr at hbad hgood
    refine c12_ok (brN (fun e => ?_) fun e => ?_)
    · rw [if_pos e] at hbad; exact hbad _ rfl e
    obtain ⟨hl, he⟩ := chk_good e
    rw [if_neg (fun h => h e)] at hbad hgood
    refine brE (fun e2 => ?_) fun m1 => c13_ok ?_
    · rw [if_pos (by omega)] at hbad; exact hbad _ rfl (by decide)
    unfold rng
    by_cases hr : 1 ≤ f.2.2.2.2.1 ∧ f.2.2.2.2.1 ≤ 4096
    case neg =>
      rw [decide_eq_false hr]
      rw [if_pos (by omega)] at hbad; exact brT rfl (hbad _ rfl (by decide))
    rw [decide_eq_true hr]
    refine brF rfl ?_
    rw [if_neg (by omega)] at hbad hgood
    refine l5r12_ok hl (fun q => ?_) fun q => l5r19_ok hx (ies_bnd he) hf.2.1 (fun q2 => ?_) fun q2 => l5r30_ok hl hf.2.2.1 (fun q3 => ?_) fun q3 => ?_
    · rw [if_pos q] at hbad; exact hbad _ rfl (by decide)
    · rw [if_neg q, if_pos q2] at hbad; exact hbad _ rfl q2
    · rw [if_neg q, if_neg (fun h => h q2)] at hbad; exact hbad _ rfl q3
    · rw [if_neg q, if_neg (fun h => h q2)] at hgood; exact hgood q3
theorem c5_ok {x : List LF} {k : Int → Prop} (hx : x.length ≤ 12) (hL : ∀ f ∈ x, Lens f) (h : k (lsErr x.length x)) : c5 x k := by
  constructor
  exact brDn (by omega) (l5r4_ok hx hL (fun _ => h) fun e => by rw [e] at h; exact h)

/-! the classes exist -/
theorem least_of {P : Nat → Prop} : ∀ n, P n → ∃ m, m ≤ n ∧ P m ∧ ∀ j, j < m → ¬ P j := by
  intro n
  induction n using Nat.strongRecOn with
  | ind n ih =>
    intro h
    by_cases e : ∃ j, j < n ∧ P j
    · obtain ⟨j, hj, hp⟩ := e
      obtain ⟨m, h1, h2, h3⟩ := ih j hj hp
      exact ⟨m, by omega, h2, h3⟩
    · exact ⟨n, Nat.le_refl _, h, fun j hj hp => e ⟨j, hj, hp⟩⟩
theorem lst_ex {R : Nat → Nat → Prop} (e : Eqv R) (t : Nat) : ∃ v, Lst R t v := by
  obtain ⟨v, h1, h2, h3⟩ := least_of (P := R t) t (e.rfl' t)
  exact ⟨v, h1, h2, h3⟩
theorem next_ex {x : List LF} {cls : List Int} : ∃ nx : List Int, nx.length = x.length ∧ Right (RP x cls) nx x.length := by
  have h := fun t => lst_ex (RP_eqv x cls) t
  refine ⟨(List.range x.length).map fun t => ((Classical.choose (h t) : Nat) : Int), by simp, fun t ht => ⟨Classical.choose (h t), ?_, Classical.choose_spec (h t)⟩⟩
  simp [ht]
theorem fin_ex {x : List LF} : ∃ cls, Fin' x cls := by
  have key : ∀ m : Nat, ∀ cls : List Int, Inv x cls → (x.length : Int) * x.length - cls.sum ≤ m → ∃ cls, Fin' x cls := by
    intro m
    induction m with
    | zero =>
      intro cls hc hm
      obtain ⟨nx, h1, h2⟩ := next_ex (x := x) (cls := cls)
      have hge := fun t ht => next_ge hc h2 (t := t) ht
      have hsum : cls ≠ nx → cls.sum < nx.sum := sum_lt cls nx (by rw [hc.len, h1]) fun t u v hu hv => by
        have ht : t < x.length := by have := (List.getElem?_eq_some_iff.1 hu).1; rw [hc.len] at this; exact this
        obtain ⟨a, b, ha, hb, hab, _⟩ := hge t ht
        rw [hu] at ha; rw [hv] at hb
        have := Option.some.inj ha; have := Option.some.inj hb; omega
      have hbd : nx.sum ≤ nx.length * (x.length : Int) := sum_bd nx x.length fun t u hu => by
        have ht : t < x.length := by have := (List.getElem?_eq_some_iff.1 hu).1; rw [h1] at this; exact this
        obtain ⟨a, b, ha, hb, hab, _⟩ := hge t ht
        rw [hu] at hb
        have := Option.some.inj hb; omega
      rw [h1] at hbd
      by_cases e : cls = nx
      · subst e
        exact ⟨cls, ⟨hc, fun i j hi hj hij => ((next_rel h2 hi hj).1 hij).2⟩⟩
      · have := hsum e
        omega
    | succ m ih =>
      intro cls hc hm
      obtain ⟨nx, h1, h2⟩ := next_ex (x := x) (cls := cls)
      have hge := fun t ht => next_ge hc h2 (t := t) ht
      have hsum : cls ≠ nx → cls.sum < nx.sum := sum_lt cls nx (by rw [hc.len, h1]) fun t u v hu hv => by
        have ht : t < x.length := by have := (List.getElem?_eq_some_iff.1 hu).1; rw [hc.len] at this; exact this
        obtain ⟨a, b, ha, hb, hab, _⟩ := hge t ht
        rw [hu] at ha; rw [hv] at hb
        have := Option.some.inj ha; have := Option.some.inj hb; omega
      by_cases e : cls = nx
      · subst e
        exact ⟨cls, ⟨hc, fun i j hi hj hij => ((next_rel h2 hi hj).1 hij).2⟩⟩
      · have := hsum e
        exact ih nx (next_inv hc h1 h2) (by omega)
  have h0 : Inv x (List.replicate x.length 0) := by
    refine ⟨by simp, fun t ht => ⟨0, ?_, Nat.zero_le _, ?_, fun j hj => absurd hj (by omega)⟩, fun E hE i j hij => ?_⟩
    · simp [List.getElem?_replicate, ht]
    · have h0 : 0 < x.length := by omega
      show (List.replicate _ (0 : Int))[t]? = (List.replicate _ (0 : Int))[0]?
      rw [List.getElem?_replicate, List.getElem?_replicate, if_pos (by omega), if_pos (by omega)]
    · obtain ⟨g1, g2, _⟩ := hE i j hij
      simp [RC, List.getElem?_replicate, g1, g2]
  exact key _ _ h0 (Int.self_le_toNat _)

/-- classes that are right -/
structure Cls (x : List LF) (cls : List Int) : Prop where
  len : cls.length = x.length
  val : ∀ i, i < x.length → ∃ c : Nat, c ≤ i ∧ cls[i]? = some (c : Int) ∧ cls[c]? = some (c : Int)
theorem cls_of {x : List LF} {cls : List Int} (h : Fin' x cls) : Cls x cls := by
  refine ⟨h.len, fun i hi => ?_⟩
  obtain ⟨v, hv, h1, h2, h3⟩ := h.right i hi
  refine ⟨v, h1, hv, ?_⟩
  show cls[v]? = some (v : Int)
  have h2 : cls[i]? = cls[v]? := h2
  rw [← h2]; exact hv
/-- function i stands for itself -/
def ownF (cls : List Int) (i : Nat) : Bool := cls[i]? == some (i : Int)
/-- where functions begin -/
def bg (x : List LF) (cls : List Int) : Nat → Nat
  | 0 => 2
  | i + 1 => bg x cls i + if ownF cls i then (F x i).2.1.length else 0
/-- the class of a function -/
def cl (cls : List Int) (i : Int) : Nat := ((cls[i.toNat]?).getD 0).toNat
/-- a call resolved in item k -/
def stp (x : List LF) (cls : List Int) (k : Int) (y : IT) (c : CL) : IT :=
  if c.1 ≠ k then y else if y.1.1 = 20 then (y.1, ((bg x cls (cl cls c.2.1) : Nat) : Int), y.2.2) else ((y.1.1, y.1.2.1, y.1.2.2.1, y.1.2.2.2.1, 1048576, y.1.2.2.2.2.2), y.2)
def shf (b : Nat) (y : IT) : IT := if y.2.1 ≥ 0 then (y.1, y.2.1 + (b : Int), y.2.2) else y
def rs (x : List LF) (cls : List Int) (b : Nat) (cs : List CL) (k : Int) (y : IT) : IT := cs.foldl (stp x cls k) (shf b y)
def sf (b : Nat) (f : LF) : List IT := f.2.1.map (shf b)
/-- the items of a function, m calls resolved -/
def rf (x : List LF) (cls : List Int) (b : Nat) (f : LF) (m : Nat) : List IT := f.2.1.mapIdx fun k y => rs x cls b (f.2.2.1.take m) (k : Int) y
theorem sf_len {b : Nat} {f : LF} : (sf b f).length = f.2.1.length := by simp [sf]
theorem rf_len {x : List LF} {cls : List Int} {b : Nat} {f : LF} {m : Nat} : (rf x cls b f m).length = f.2.1.length := by simp [rf]
theorem rf_get {x : List LF} {cls : List Int} {b : Nat} {f : LF} {m k : Nat} (h : k < f.2.1.length) : (rf x cls b f m)[k]'(by rw [rf_len]; exact h) = rs x cls b (f.2.2.1.take m) (k : Int) f.2.1[k] := by
  simp [rf]
theorem rf_zero {x : List LF} {cls : List Int} {b : Nat} {f : LF} : rf x cls b f 0 = sf b f := by
  apply List.ext_getElem
  · rw [rf_len, sf_len]
  · intro i h1 h2
    rw [rf_len] at h1
    rw [rf_get h1]
    simp [rs, sf]
theorem stp_op {x : List LF} {cls : List Int} {k : Int} {y : IT} {c : CL} : (stp x cls k y c).1.1 = y.1.1 := by
  unfold stp
  repeat' split
  all_goals rfl
theorem shf_op {b : Nat} {y : IT} : (shf b y).1 = y.1 := by unfold shf; split <;> rfl
theorem rs_op {x : List LF} {cls : List Int} {b : Nat} {k : Int} {y : IT} {cs : List CL} : (rs x cls b cs k y).1.1 = y.1.1 := by
  unfold rs
  have key : ∀ (cs : List CL) (z : IT), (cs.foldl (stp x cls k) z).1.1 = z.1.1 := by
    intro cs
    induction cs with
    | nil => intro z; rfl
    | cons c r ih => intro z; rw [List.foldl_cons, ih, stp_op]
  rw [key, shf_op]
theorem rs_succ {x : List LF} {cls : List Int} {b : Nat} {k : Int} {y : IT} {cs : List CL} {m : Nat} (h : m < cs.length) : rs x cls b (cs.take (m + 1)) k y = stp x cls k (rs x cls b (cs.take m) k y) cs[m] := by
  unfold rs
  rw [List.take_succ_eq_append_getElem h, List.foldl_append]
  rfl
theorem rf_succ {x : List LF} {cls : List Int} {b : Nat} {f : LF} {m : Nat} (h : m < f.2.2.1.length) (h0 : 0 ≤ f.2.2.1[m].1) (hk : f.2.2.1[m].1.toNat < f.2.1.length) :
    rf x cls b f (m + 1) = (rf x cls b f m).set f.2.2.1[m].1.toNat (stp x cls f.2.2.1[m].1 ((rf x cls b f m)[f.2.2.1[m].1.toNat]'(by rw [rf_len]; exact hk)) f.2.2.1[m]) := by
  apply List.ext_getElem
  · rw [List.length_set, rf_len, rf_len]
  · intro i h1 h2
    rw [rf_len] at h1
    rw [rf_get h1, rs_succ h, List.getElem_set]
    by_cases e : f.2.2.1[m].1.toNat = i
    · subst e
      rw [if_pos rfl, rf_get hk]
      congr 1
      omega
    · rw [if_neg e, rf_get h1]
      unfold stp
      rw [if_pos (by omega)]
theorem set_mid {α : Type} {P Q S : List α} {n k : Nat} {v : α} (hn : n = P.length + k) (hk : k < Q.length) : (P ++ Q ++ S).set n v = P ++ Q.set k v ++ S := by
  subst hn
  rw [List.append_assoc, List.set_append, if_neg (by omega), Nat.add_sub_cancel_left, List.set_append, if_pos hk, List.append_assoc]
theorem get_mid {α : Type} {P Q S : List α} {n k : Nat} (hn : n = P.length + k) (hk : k < Q.length) : (P ++ Q ++ S)[n]? = some Q[k] := by
  subst hn
  rw [List.append_assoc, List.getElem?_append_right (by omega), Nat.add_sub_cancel_left, List.getElem?_append_left hk, List.getElem?_eq_getElem hk]

/-- a function that was checked -/
structure Fok (n : Nat) (f : LF) : Prop where
  len : f.2.1.length ≤ 16384
  pos : 0 < f.2.1.length
  ie : ies f.2.1.length f.2.1 = 0
  noend : ∀ y ∈ f.2.1, y.2.1 ≠ (f.2.1.length : Int)
  cin : ∀ (i : Nat) (h : i < f.2.2.1.length), 0 ≤ f.2.2.1[i].1 ∧ f.2.2.1[i].1 < f.2.1.length ∧ 0 ≤ f.2.2.1[i].2.1 ∧ f.2.2.1[i].2.1 < n ∧ ∃ y, f.2.1[f.2.2.1[i].1.toNat]? = some y ∧ ¬ badIt y
  cas : f.2.2.1.Pairwise fun c d => c.1 < d.1
  min : ∀ (i : Nat) (h : i < f.2.2.2.1.length), 0 ≤ f.2.2.2.1[i].1 ∧ f.2.2.2.1[i].1 < f.2.1.length ∧ (f.2.2.2.1[i].2.1 = true → f.2.2.2.1[i].1 + 1 < f.2.1.length)
  mas : f.2.2.2.1.Pairwise fun c d => c.1 < d.1

theorem sf_snoc {b j : Nat} {l : List IT} (h : j < l.length) : (l.take (j + 1)).map (shf b) = (l.take j).map (shf b) ++ [shf b l[j]] := by
  rw [List.take_succ_eq_append_getElem h, List.map_append]; rfl
theorem c17_ok {f : LF} {its : List IT} {beg : List Int} {adr : List (List Int)} {k1 : List IT → List Int → List (List Int) → Prop} {k2 : List Int → List (List Int) → List IT → Prop}
    (hl : f.2.1.length ≤ 16384) (hr : its.length ≤ 1000000) (hB : Bnd f.2.1) (h1 : k1 (its ++ sf its.length f) beg adr) (h2 : k2 beg adr (its ++ sf its.length f)) : c17 f its beg adr k1 k2 := by
  constructor
  constructor
  intro I1 I2 hI1 hI2
  have step : ∀ j (hj : j < f.2.1.length) (K : List IT → Prop), K (its ++ (f.2.1.take (j + 1)).map (shf its.length)) →
      br (decide ((f.2.1[j]).2.1 ≥ 0)) (br true (br true (br true (br (true && true) (br (roomB ((its ++ (f.2.1.take j).map (shf its.length)).length + 1) 48) (br true (K (its ++ (f.2.1.take j).map (shf its.length) ++ [(f.2.1[j].1, IntKind.wrap .i64 (f.2.1[j].2.1 + (its.length : Int)), f.2.1[j].2.2)])) False) False) False) False) False) False)
        (br true (br true (br true (br (true && true) (br (roomB ((its ++ (f.2.1.take j).map (shf its.length)).length + 1) 48) (br true (K (its ++ (f.2.1.take j).map (shf its.length) ++ [f.2.1[j]])) False) False) False) False) False) False) := by
    intro j hj K hK
    have hb := hB j hj
    have hlen : (its ++ (f.2.1.take j).map (shf its.length)).length ≤ 1100000 := by rw [List.length_append, List.length_map, List.length_take]; omega
    rw [sf_snoc hj, ← List.append_assoc] at hK
    refine brP (fun e => brT rfl (brT rfl (brT rfl (brT rfl (brT (roomS (by omega)) (brT rfl ?_)))))) fun e => brT rfl (brT rfl (brT rfl (brT rfl (brT (roomS (by omega)) (brT rfl ?_)))))
    · rw [wrap64 (by omega) (by omega)]
      unfold shf at hK
      rw [if_pos e] at hK
      exact hK
    · have : shf its.length f.2.1[j] = f.2.1[j] := by unfold shf; rw [if_neg e]
      rw [this] at hK
      exact hK
  have hfull : its ++ (f.2.1.take f.2.1.length).map (shf its.length) = its ++ sf its.length f := by rw [List.take_length]; rfl
  have key2 := upInd (N := f.2.1.length) (M := fun j => I2 (its.length : Int) f.2.1 (f.2.1.length : Int) (j : Int) beg adr (its ++ (f.2.1.take j).map (shf its.length)))
    (by apply hI2; rw [hfull]; exact brDn (by omega) h2)
    (by
      intro j hj ih
      apply hI2
      rw [wrapS (by omega)]
      exact brD (by omega) (needAt hj (step j hj (fun z => I2 (its.length : Int) f.2.1 (f.2.1.length : Int) ((j + 1 : Nat) : Int) beg adr z) ih)))
  apply hI1
  by_cases e : f.2.1.length = 0
  · have : sf its.length f = [] := List.eq_nil_of_length_eq_zero (by rw [sf_len]; exact e)
    rw [this, List.append_nil] at h1
    exact brDn (by omega) h1
  · have hs := step 0 (by omega) (fun z => I2 (its.length : Int) f.2.1 (f.2.1.length : Int) ((0 + 1 : Nat) : Int) beg adr z) (key2 1 (by omega))
    rw [List.take_zero, List.map_nil, List.append_nil] at hs
    refine brD (by omega) ?_
    have h0 : at? f.2.1 0 = some (f.2.1[0]'(by omega)) := by
      rw [show (0 : Int) = ((0 : Nat) : Int) from rfl, at?_nat]; exact List.getElem?_eq_getElem (by omega)
    rw [h0]
    exact hs
theorem cErr_ok {n : Int} {its : List IT} : ∀ {cs : List CL} {last : Int}, -1 ≤ last → cErr n its last cs = 0 →
    (∀ c ∈ cs, last < c.1 ∧ 0 ≤ c.1 ∧ c.1 < its.length ∧ 0 ≤ c.2.1 ∧ c.2.1 < n ∧ ∃ y, its[c.1.toNat]? = some y ∧ ¬ badIt y) ∧ cs.Pairwise fun c d => c.1 < d.1 := by
  intro cs
  induction cs with
  | nil => intro last _ _; exact ⟨fun c hc => (by cases hc), .nil⟩
  | cons c r ih =>
    intro last hl h
    simp only [cErr] at h
    by_cases e : c.1 ≤ last ∨ (its.length : Int) ≤ c.1 ∨ c.2.1 < 0 ∨ n ≤ c.2.1
    · rw [if_pos e] at h; cases h
    rw [if_neg e] at h
    by_cases e2 : itE its c.1 ≠ 0
    · rw [if_pos e2] at h; exact absurd h e2
    rw [if_neg e2] at h
    obtain ⟨h1, h2⟩ := ih (last := c.1) (by omega) h
    have hc : ∃ y, its[c.1.toNat]? = some y ∧ ¬ badIt y := by
      have hb : c.1.toNat < its.length := by omega
      refine ⟨_, List.getElem?_eq_getElem hb, fun q => e2 ?_⟩
      rw [itE_get hb, if_pos q]; decide
    refine ⟨fun d hd => ?_, List.pairwise_cons.2 ⟨fun d hd => (h1 d hd).1, h2⟩⟩
    rcases List.mem_cons.1 hd with rfl | hd
    · exact ⟨by omega, by omega, by omega, by omega, by omega, hc⟩
    · have := h1 d hd
      exact ⟨by omega, this.2⟩
theorem mErr_ok {L : Int} : ∀ {ms : List MP} {last : Int}, -1 ≤ last → mErr L last ms = 0 →
    (∀ c ∈ ms, last < c.1 ∧ 0 ≤ c.1 ∧ c.1 < L ∧ (c.2.1 = true → c.1 + 1 < L)) ∧ ms.Pairwise fun c d => c.1 < d.1 := by
  intro ms
  induction ms with
  | nil => intro last _ _; exact ⟨fun c hc => (by cases hc), .nil⟩
  | cons c r ih =>
    intro last hl h
    simp only [mErr] at h
    by_cases e : c.1 ≤ last ∨ L ≤ c.1 ∨ (c.2.1 = true ∧ L ≤ c.1 + 1)
    · rw [if_pos e] at h; cases h
    rw [if_neg e] at h
    obtain ⟨h1, h2⟩ := ih (last := c.1) (by omega) h
    refine ⟨fun d hd => ?_, List.pairwise_cons.2 ⟨fun d hd => (h1 d hd).1, h2⟩⟩
    rcases List.mem_cons.1 hd with rfl | hd
    · exact ⟨by omega, by omega, by omega, fun q => Int.not_le.1 fun q2 => e (.inr (.inr ⟨q, q2⟩))⟩
    · have := h1 d hd
      exact ⟨by omega, this.2⟩
theorem fok_of {n : Nat} {f : LF} (h : fErr n f = 0) : Fok n f := by
  unfold fErr at h
  by_cases e1 : chk f.2.1 ≠ 0
  · rw [if_pos e1] at h; exact absurd h e1
  rw [if_neg e1] at h
  obtain ⟨hl, he⟩ := chk_good (Classical.not_not.1 e1)
  by_cases e2 : f.2.1.length = 0 ∨ f.2.2.2.2.1 < 1 ∨ 4096 < f.2.2.2.2.1
  · rw [if_pos e2] at h; cases h
  rw [if_neg e2] at h
  by_cases e3 : ∃ y ∈ f.2.1, y.2.1 = (f.2.1.length : Int)
  · rw [if_pos e3] at h; cases h
  rw [if_neg e3] at h
  by_cases e4 : cErr n f.2.1 (-1) f.2.2.1 ≠ 0
  · rw [if_pos e4] at h; exact absurd h e4
  rw [if_neg e4] at h
  obtain ⟨c1, c2⟩ := cErr_ok (by decide) (Classical.not_not.1 e4)
  obtain ⟨m1, m2⟩ := mErr_ok (by decide) h
  exact ⟨hl, by omega, he, fun y hy q => e3 ⟨y, hy, q⟩, fun i hi => (c1 _ (List.getElem_mem hi)).2, c2, fun i hi => (m1 _ (List.getElem_mem hi)).2, m2⟩
theorem lsErr_ok {n : Int} : ∀ {x : List LF}, lsErr n x = 0 → ∀ f ∈ x, fErr n f = 0
  | [], _, f, hf => by cases hf
  | g :: r, h, f, hf => by
    simp only [lsErr] at h
    by_cases e : fErr n g ≠ 0
    · rw [if_pos e] at h; exact absurd h e
    rw [if_neg e] at h
    rcases List.mem_cons.1 hf with rfl | hf
    · exact Classical.not_not.1 e
    · exact lsErr_ok h f hf

theorem asc_le {α : Type} {g : α → Int} {l : List α} {n : Nat} (h0 : ∀ (i : Nat) (h : i < l.length), 0 ≤ g l[i] ∧ g l[i] < n) (hp : l.Pairwise fun c d => g c < g d) : l.length ≤ n := by
  have key : ∀ (i : Nat) (h : i < l.length), (i : Int) ≤ g l[i] := by
    intro i
    induction i with
    | zero => intro h; exact (h0 0 h).1
    | succ i ih =>
      intro h
      have h1 := ih (by omega)
      have h2 := List.pairwise_iff_getElem.1 hp i (i + 1) (by omega) h (by omega)
      omega
  by_cases e : l.length = 0
  · omega
  · have h1 := key (l.length - 1) (by omega)
    have h2 := (h0 (l.length - 1) (by omega)).2
    omega
theorem Fok.clen {n : Nat} {f : LF} (h : Fok n f) : f.2.2.1.length ≤ f.2.1.length := asc_le (g := fun c : CL => c.1) (fun i hi => ⟨(h.cin i hi).1, (h.cin i hi).2.1⟩) h.cas
theorem Fok.mlen {n : Nat} {f : LF} (h : Fok n f) : f.2.2.2.1.length ≤ f.2.1.length := asc_le (g := fun c : MP => c.1) (fun i hi => ⟨(h.min i hi).1, (h.min i hi).2.1⟩) h.mas

theorem own_iff {cls : List Int} {i : Nat} : ownF cls i = true ↔ cls[i]? = some (i : Int) := by unfold ownF; exact beq_iff_eq
theorem cls_call {x : List LF} {cls : List Int} (hc : Cls x cls) {fn : Int} (h0 : 0 ≤ fn) (h1 : fn < x.length) : cls[fn.toNat]? = some ((cl cls fn : Nat) : Int) ∧ ownF cls (cl cls fn) = true ∧ cl cls fn < x.length := by
  obtain ⟨c, h2, h3, h4⟩ := hc.val fn.toNat (by omega)
  have : cl cls fn = c := by unfold cl; rw [h3]; simp
  rw [this]
  exact ⟨h3, own_iff.2 h4, by omega⟩

def opAt (f : LF) (k : Int) : Int := (f.2.1[k.toNat]?.map fun y => y.1.1).getD 0
/-- the calls that load addresses: item, class -/
def pr (cls : List Int) (b : Nat) (f : LF) (m : Nat) : List (Int × Nat) := ((f.2.2.1.take m).filter fun c => opAt f c.1 != 20).map fun c => ((b : Int) + c.1, cl cls c.2.1)
theorem pr_succ {cls : List Int} {b : Nat} {f : LF} {m : Nat} (h : m < f.2.2.1.length) : pr cls b f (m + 1) = pr cls b f m ++ if opAt f f.2.2.1[m].1 = 20 then [] else [((b : Int) + f.2.2.1[m].1, cl cls f.2.2.1[m].2.1)] := by
  unfold pr
  rw [List.take_succ_eq_append_getElem h, List.filter_append, List.map_append]
  by_cases e : opAt f f.2.2.1[m].1 = 20
  · rw [if_pos e]; simp [e]
  · rw [if_neg e]; simp [e]
theorem pr_len {cls : List Int} {b : Nat} {f : LF} {m : Nat} : (pr cls b f m).length ≤ f.2.2.1.length := by
  unfold pr
  rw [List.length_map]
  refine Nat.le_trans (List.length_filter_le _ _) ?_
  rw [List.length_take]; omega
def adL (x : List LF) (cls : List Int) (l : List (Int × Nat)) : List (List Int) := l.map fun p => [p.1, ((bg x cls p.2 : Nat) : Int)]

theorem c18_ok {x : List LF} {cls beg : List Int} {f : LF} {P S : List IT} {A : List (Int × Nat)} {k1 k2 : List IT → List Int → List (List Int) → Prop} (hc : Cls x cls) (hf : Fok x.length f)
    (hlen : x.length ≤ 12) (hP : P.length ≤ 1000000) (hS : S.length ≤ 1000000) (hA : A.length ≤ 1000000) (hbl : beg.length = x.length) (hbg : ∀ i, i < x.length → ownF cls i = true → beg[i]? = some ((bg x cls i : Nat) : Int))
    (h1 : k1 (P ++ rf x cls P.length f f.2.2.1.length ++ S) beg (adL x cls (A ++ pr cls P.length f f.2.2.1.length))) (h2 : k2 (P ++ rf x cls P.length f f.2.2.1.length ++ S) beg (adL x cls (A ++ pr cls P.length f f.2.2.1.length))) :
    c18 f (P.length : Int) cls (P ++ sf P.length f ++ S) beg (adL x cls A) k1 k2 := by
  have hcl := hf.clen
  have hl := hf.len
  constructor
  constructor
  intro I1 I2 hI1 hI2
  have step : ∀ m (hm : m < f.2.2.1.length) (K1 K2 : List IT → List Int → List (List Int) → Prop),
      (opAt f f.2.2.1[m].1 = 20 → K1 (P ++ rf x cls P.length f (m + 1) ++ S) beg (adL x cls (A ++ pr cls P.length f (m + 1)))) →
      (opAt f f.2.2.1[m].1 ≠ 20 → K2 (P ++ rf x cls P.length f (m + 1) ++ S) beg (adL x cls (A ++ pr cls P.length f (m + 1)))) →
      br (decide ((0 : Int) ≤ IntKind.wrap .i64 ((P.length : Int) + f.2.2.1[m].1) ∧ IntKind.wrap .i64 ((P.length : Int) + f.2.2.1[m].1) < (((P ++ rf x cls P.length f m ++ S).length : Nat) : Int)))
        (need False (at? cls f.2.2.1[m].2.1) fun y10 => br (decide ((0 : Int) ≤ y10 ∧ y10 < ((beg.length : Nat) : Int)))
          (need False beg[y10.toNat]? fun y11 => need False (P ++ rf x cls P.length f m ++ S)[(IntKind.wrap .i64 ((P.length : Int) + f.2.2.1[m].1)).toNat]? fun y12 =>
            br ((y12.1.1 : Int) == 20)
              (need False (P ++ rf x cls P.length f m ++ S)[(IntKind.wrap .i64 ((P.length : Int) + f.2.2.1[m].1)).toNat]? fun y13 => K1 ((P ++ rf x cls P.length f m ++ S).set (IntKind.wrap .i64 ((P.length : Int) + f.2.2.1[m].1)).toNat (y13.1, y11, y13.2.2)) beg (adL x cls (A ++ pr cls P.length f m)))
              (need False (P ++ rf x cls P.length f m ++ S)[(IntKind.wrap .i64 ((P.length : Int) + f.2.2.1[m].1)).toNat]? fun y14 => br true (br true (br true (br (true && true) (br (roomB ((adL x cls (A ++ pr cls P.length f m)).length + 1) 16)
                (br true (K2 ((P ++ rf x cls P.length f m ++ S).set (IntKind.wrap .i64 ((P.length : Int) + f.2.2.1[m].1)).toNat ((y14.1.1, y14.1.2.1, y14.1.2.2.1, y14.1.2.2.2.1, 1048576, y14.1.2.2.2.2.2), y14.2)) beg (adL x cls (A ++ pr cls P.length f m) ++ [[IntKind.wrap .i64 ((P.length : Int) + f.2.2.1[m].1), y11]])) False) False) False) False) False) False)) False) False := by
    intro m hm K1 K2 hK1 hK2
    obtain ⟨g1, g2, g3, g4, y, hy, hbad⟩ := hf.cin m hm
    obtain ⟨q1, q2, q3⟩ := cls_call hc g3 g4
    have hk : f.2.2.1[m].1.toNat < f.2.1.length := by omega
    have hkr : f.2.2.1[m].1.toNat < (rf x cls P.length f m).length := by rw [rf_len]; exact hk
    have hb := hbg _ q3 q2
    have hw : IntKind.wrap .i64 ((P.length : Int) + f.2.2.1[m].1) = (P.length : Int) + f.2.2.1[m].1 := wrap64 (by omega) (by omega)
    have hn : ((P.length : Int) + f.2.2.1[m].1).toNat = P.length + f.2.2.1[m].1.toNat := by omega
    have hat : at? cls f.2.2.1[m].2.1 = some ((cl cls f.2.2.1[m].2.1 : Nat) : Int) := by
      rw [← q1]
      obtain ⟨u, hu⟩ := Int.eq_ofNat_of_zero_le g3
      rw [hu, at?_nat, Int.toNat_natCast]
    have hop : ((rf x cls P.length f m)[f.2.2.1[m].1.toNat]'hkr).1.1 = opAt f f.2.2.1[m].1 := by
      rw [rf_get hk, rs_op]
      unfold opAt
      rw [List.getElem?_eq_getElem hk]; rfl
    have hpl := pr_len (cls := cls) (b := P.length) (f := f) (m := m)
    rw [hw, hn, hat]
    have hset : ∀ v, v = stp x cls f.2.2.1[m].1 ((rf x cls P.length f m)[f.2.2.1[m].1.toNat]'hkr) f.2.2.1[m] → (P ++ rf x cls P.length f m ++ S).set (P.length + f.2.2.1[m].1.toNat) v = P ++ rf x cls P.length f (m + 1) ++ S := fun v hv => by
      rw [set_mid rfl hkr, rf_succ hm g1 hk, hv]
    have hget := get_mid (P := P) (S := S) (k := f.2.2.1[m].1.toNat) rfl hkr
    rw [pr_succ hm] at hK1 hK2
    have hlen2 : (P ++ rf x cls P.length f m ++ S).length = P.length + f.2.1.length + S.length := by rw [List.length_append, List.length_append, rf_len]
    have hal : (adL x cls (A ++ pr cls P.length f m)).length ≤ 1100000 := by unfold adL; rw [List.length_map, List.length_append]; omega
    generalize hY : (rf x cls P.length f m)[f.2.2.1[m].1.toNat]'hkr = Y at hset hget hop
    refine brD (by rw [hlen2]; omega) ?_
    show br _ _ _
    refine brD (by omega) ?_
    rw [Int.toNat_natCast]
    refine needS hb (needS hget ?_)
    rw [hop]
    refine brE (fun e => needS hget ?_) fun e => needS hget (brT rfl (brT rfl (brT rfl (brT rfl (brT (roomS (by omega)) (brT rfl ?_))))))
    · have := hK1 e
      rw [if_pos e, List.append_nil] at this
      rw [hset]
      · exact this
      · unfold stp; rw [if_neg (fun h => h rfl), if_pos (by rw [hop]; exact e)]
    · have := hK2 e
      rw [if_neg e, ← List.append_assoc] at this
      rw [hset]
      · unfold adL at this ⊢
        rw [List.map_append] at this
        exact this
      · unfold stp; rw [if_neg (fun h => h rfl), if_neg (by rw [hop]; exact e)]
  have key2 := upInd (N := f.2.2.1.length) (M := fun m => I2 (P.length : Int) cls f.2.2.1 (f.2.2.1.length : Int) (m : Int) (P ++ rf x cls P.length f m ++ S) beg (adL x cls (A ++ pr cls P.length f m)))
    (by apply hI2; exact brDn (by omega) h2)
    (by
      intro m hm ih
      apply hI2
      rw [wrapS (by omega)]
      exact brD (by omega) (needAt hm (step m hm (fun a b c => I2 (P.length : Int) cls f.2.2.1 (f.2.2.1.length : Int) ((m + 1 : Nat) : Int) a b c) (fun a b c => I2 (P.length : Int) cls f.2.2.1 (f.2.2.1.length : Int) ((m + 1 : Nat) : Int) a b c) (fun _ => ih) fun _ => ih)))
  have key1 := upInd (N := f.2.2.1.length) (M := fun m => I1 (P.length : Int) cls f.2.2.1 (f.2.2.1.length : Int) (m : Int) (P ++ rf x cls P.length f m ++ S) beg (adL x cls (A ++ pr cls P.length f m)))
    (by apply hI1; exact brDn (by omega) h1)
    (by
      intro m hm ih
      apply hI1
      rw [wrapS (by omega)]
      exact brD (by omega) (needAt hm (step m hm (fun a b c => I1 (P.length : Int) cls f.2.2.1 (f.2.2.1.length : Int) ((m + 1 : Nat) : Int) a b c) (fun a b c => I2 (P.length : Int) cls f.2.2.1 (f.2.2.1.length : Int) ((m + 1 : Nat) : Int) a b c) (fun _ => ih) fun _ => key2 (m + 1) hm)))
    0 (Nat.zero_le _)
  have e0 : pr cls P.length f 0 = [] := by simp [pr]
  rw [rf_zero, e0, List.append_nil] at key1
  exact key1
def part (x : List LF) (cls : List Int) (i : Nat) : List IT := if ownF cls i then rf x cls (bg x cls i) (F x i) (F x i).2.2.1.length else []
def spart (x : List LF) (cls : List Int) (i : Nat) : List IT := if ownF cls i then sf (bg x cls i) (F x i) else []
def base0 (t : Int) : List IT := [((20, 0, 0, 0, 0, ()), t, ()), ((0, 0, 0, 0, 0, ()), (-1), ())]
def JN (x : List LF) (cls : List Int) (t : Int) (i : Nat) : List IT := base0 t ++ (List.range i).flatMap (part x cls)
def SJ (x : List LF) (cls : List Int) (i : Nat) : List IT := base0 0 ++ (List.range i).flatMap (spart x cls)
def TL (x : List LF) (cls : List Int) (i : Nat) : List IT := ((List.range x.length).drop i).flatMap (spart x cls)
def prs (x : List LF) (cls : List Int) (i : Nat) : List (Int × Nat) := if ownF cls i then pr cls (bg x cls i) (F x i) (F x i).2.2.1.length else []
def AD (x : List LF) (cls : List Int) (i : Nat) : List (Int × Nat) := (List.range i).flatMap (prs x cls)
def bgL (x : List LF) (cls : List Int) (i : Nat) : List Int := (List.range i).map fun j => if ownF cls j then ((bg x cls j : Nat) : Int) else -1

theorem part_len {x : List LF} {cls : List Int} {i : Nat} : (part x cls i).length = if ownF cls i then (F x i).2.1.length else 0 := by
  unfold part; split <;> simp [rf_len]
theorem spart_len {x : List LF} {cls : List Int} {i : Nat} : (spart x cls i).length = if ownF cls i then (F x i).2.1.length else 0 := by
  unfold spart; split <;> simp [sf_len]
theorem JN_succ {x : List LF} {cls : List Int} {t : Int} {i : Nat} : JN x cls t (i + 1) = JN x cls t i ++ part x cls i := by
  unfold JN; rw [List.range_succ, List.flatMap_append, List.flatMap_singleton, List.append_assoc]
theorem SJ_succ {x : List LF} {cls : List Int} {i : Nat} : SJ x cls (i + 1) = SJ x cls i ++ spart x cls i := by
  unfold SJ; rw [List.range_succ, List.flatMap_append, List.flatMap_singleton, List.append_assoc]
theorem AD_succ {x : List LF} {cls : List Int} {i : Nat} : AD x cls (i + 1) = AD x cls i ++ prs x cls i := by
  unfold AD; rw [List.range_succ, List.flatMap_append, List.flatMap_singleton]
theorem bgL_succ {x : List LF} {cls : List Int} {i : Nat} : bgL x cls (i + 1) = bgL x cls i ++ [if ownF cls i then ((bg x cls i : Nat) : Int) else -1] := by
  unfold bgL; rw [List.range_succ, List.map_append]; rfl
theorem bgL_len {x : List LF} {cls : List Int} {i : Nat} : (bgL x cls i).length = i := by simp [bgL]
theorem JN_len {x : List LF} {cls : List Int} {t : Int} : ∀ {i : Nat}, (JN x cls t i).length = bg x cls i
  | 0 => by simp [JN, base0, bg]
  | i + 1 => by rw [JN_succ, List.length_append, JN_len, part_len]; rfl
theorem SJ_len {x : List LF} {cls : List Int} : ∀ {i : Nat}, (SJ x cls i).length = bg x cls i
  | 0 => by simp [SJ, base0, bg]
  | i + 1 => by rw [SJ_succ, List.length_append, SJ_len, spart_len]; rfl
theorem TL_cons {x : List LF} {cls : List Int} {i : Nat} (h : i < x.length) : TL x cls i = spart x cls i ++ TL x cls (i + 1) := by
  unfold TL
  have hr : i < (List.range x.length).length := by simpa using h
  rw [drop_cons hr, List.flatMap_cons, List.getElem_range]
theorem TL_end {x : List LF} {cls : List Int} : TL x cls x.length = [] := by
  unfold TL; rw [List.drop_eq_nil_of_le (by simp)]; rfl
theorem F_len {x : List LF} (hF : ∀ f ∈ x, Fok x.length f) {i : Nat} : (F x i).2.1.length ≤ 16384 ∧ (F x i).2.2.1.length ≤ 16384 := by
  unfold F
  by_cases h : i < x.length
  · have h2 := hF _ (List.getElem_mem h)
    rw [List.getElem?_eq_getElem h]
    exact ⟨h2.len, Nat.le_trans h2.clen h2.len⟩
  · rw [List.getElem?_eq_none (by omega)]
    exact ⟨by simp [dflt], by simp [dflt]⟩
theorem bg_le {x : List LF} {cls : List Int} (hF : ∀ f ∈ x, Fok x.length f) (i : Nat) : bg x cls i ≤ i * 16384 + 2 := by
  induction i with
  | zero => exact Nat.le_refl 2
  | succ i ih =>
    have h2 := (F_len hF (i := i)).1
    have e : bg x cls (i + 1) = bg x cls i + if ownF cls i then (F x i).2.1.length else 0 := rfl
    have e2 : (if ownF cls i then (F x i).2.1.length else 0) ≤ 16384 := by split <;> omega
    rw [e]
    omega
theorem AD_len {x : List LF} {cls : List Int} (hF : ∀ f ∈ x, Fok x.length f) : ∀ i, (AD x cls i).length ≤ i * 16384
  | 0 => by simp [AD]
  | i + 1 => by
    have h1 := AD_len (cls := cls) hF i
    have h2 := (F_len hF (i := i)).2
    rw [AD_succ, List.length_append]
    have h3 : (prs x cls i).length ≤ 16384 := by
      unfold prs
      split
      · exact Nat.le_trans pr_len h2
      · simp
    omega
theorem TL_len {x : List LF} {cls : List Int} (hF : ∀ f ∈ x, Fok x.length f) : ∀ (d i : Nat), i + d = x.length → (TL x cls i).length ≤ d * 16384
  | 0, i, h => by have : i = x.length := by omega
                  subst this; rw [TL_end]; simp
  | d + 1, i, h => by
    have h1 := TL_len (cls := cls) hF d (i + 1) (by omega)
    have h2 := (F_len hF (i := i)).1
    rw [TL_cons (by omega), List.length_append, spart_len]
    split <;> omega
theorem bgL_get {x : List LF} {cls : List Int} {i n : Nat} (h : i < n) (ho : ownF cls i = true) : (bgL x cls n)[i]? = some ((bg x cls i : Nat) : Int) := by
  unfold bgL
  simp [h, ho]

theorem l8r7_ok {x : List LF} {cls : List Int} {m : Int} {lg : Bool} {k1 : Int → List Int → Int → List Int → List Int → List (Int × Int × List Int × Int × Unit) → List (Int × Int × Int × List (List UInt8 × Int × Int × Unit) × Unit) → List Int → Prop}
    {k2 : List LF → Int → Bool → List Int → Int → List Int → List Int → List (Int × Int × List Int × Int × Unit) → List (Int × Int × Int × List (List UInt8 × Int × Int × Unit) × Unit) → Prop} (hx : x.length ≤ 12) (hc : Cls x cls) (h : k2 x m lg cls 0 [] [] [] []) :
    l8r7 k1 k2 x m lg (cls.length : Int) 0 cls 0 [] [] [] [] := by
  have hl := hc.len
  constructor
  intro I hI
  refine upInd (N := cls.length) (M := fun i => I x m lg (cls.length : Int) (i : Int) cls 0 [] [] [] []) (hI _ _ _ _ _ _ _ _ _ _ _ (brDn (by omega) h)) (fun i hi ih => hI _ _ _ _ _ _ _ _ _ _ _ ?_) 0 (Nat.zero_le _)
  obtain ⟨c, h1, h2, h3⟩ := hc.val i (by omega)
  rw [wrapS (by omega), Int.toNat_natCast]
  refine brD (by omega) (brD (by omega) (needS h2 (brDn (by omega) (brDn (by omega) (brD (by omega) ?_)))))
  rw [Int.toNat_natCast]
  exact needS h3 (brF (by simp) ih)

theorem l8r16_ok {x : List LF} {cls : List Int} {m : Int} {lg : Bool} {k1 : List LF → Int → Bool → List Int → Int → List Int → List Int → List (Int × Int × List Int × Int × Unit) → List (Int × Int × Int × List (List UInt8 × Int × Int × Unit) × Unit) → List IT → List Int → List (List Int) → Prop}
    (hx : x.length ≤ 12) (hc : Cls x cls) (hF : ∀ f ∈ x, Fok x.length f) (h : k1 x m lg cls 0 [] [] [] [] (SJ x cls x.length) (bgL x cls x.length) []) :
    l8r16 k1 x m lg x (x.length : Int) 0 cls 0 [] [] [] [] [((20, 0, 0, 0, 0, ()), 0, ()), ((0, 0, 0, 0, 0, ()), (-1), ())] [] [] := by
  have hl := hc.len
  constructor
  intro I hI
  refine upInd (N := x.length) (M := fun i => I x m lg x (x.length : Int) (i : Int) cls 0 [] [] [] [] (SJ x cls i) (bgL x cls i) []) (hI _ _ _ _ _ _ _ _ _ _ _ _ _ _ _ (brDn (by omega) h)) (fun i hi ih => hI _ _ _ _ _ _ _ _ _ _ _ _ _ _ _ ?_) 0 (Nat.zero_le _)
  obtain ⟨c, h1, h2, h3⟩ := hc.val i (by omega)
  have hbl := bgL_len (x := x) (cls := cls) (i := i)
  have hsl := SJ_len (x := x) (cls := cls) (i := i)
  have hbg := bg_le (cls := cls) hF i
  rw [wrapS (by omega), Int.toNat_natCast]
  refine brD (by omega) (needAt hi (brT (roomS (by omega)) (brD (by omega) (needS h2 (brE (fun e => ?_) fun e => ?_)))))
  · have ho : ownF cls i = true := own_iff.2 (by rw [h2, e])
    have hL2 : (bgL x cls i ++ [(-1 : Int)]).length = i + 1 := by rw [List.length_append, hbl]; rfl
    refine brD (by rw [hL2]; omega) (needNth (by rw [hL2]; omega) ?_)
    have hset : (bgL x cls i ++ [(-1 : Int)]).set i ((SJ x cls i).length : Int) = bgL x cls (i + 1) := by
      rw [List.set_append, if_neg (by omega), hbl, Nat.sub_self, bgL_succ, if_pos ho, hsl]; rfl
    rw [hset]
    have hsj : SJ x cls i ++ sf (SJ x cls i).length x[i] = SJ x cls (i + 1) := by
      rw [SJ_succ]; unfold spart; rw [if_pos ho, F_eq hi, hsl]
    have hf := hF _ (List.getElem_mem hi)
    refine c17_ok hf.len (by omega) (ies_bnd hf.ie) ?_ ?_
    · rw [hsj]; exact ih
    · rw [hsj]; exact ih
  · have ho : ownF cls i = false := by
      rw [← Bool.not_eq_true, own_iff, h2]; intro q; exact e (Option.some.inj q)
    have e1 : SJ x cls (i + 1) = SJ x cls i := by rw [SJ_succ]; unfold spart; rw [if_neg (by rw [ho]; simp), List.append_nil]
    have e2 : bgL x cls (i + 1) = bgL x cls i ++ [-1] := by rw [bgL_succ, if_neg (by rw [ho]; simp)]
    rw [e1, e2] at ih
    exact ih

theorem l8r25_ok {x : List LF} {cls : List Int} {t : Int} {lg : Bool} {k1 : List LF → Bool → List Int → Int → List Int → List Int → List (Int × Int × List Int × Int × Unit) → List (Int × Int × Int × List (List UInt8 × Int × Int × Unit) × Unit) → List IT → List Int → List (List Int) → Prop}
    (hx : x.length ≤ 12) (hc : Cls x cls) (hF : ∀ f ∈ x, Fok x.length f) (h : k1 x lg cls 0 [] [] [] [] (JN x cls t x.length) (bgL x cls x.length) (adL x cls (AD x cls x.length))) :
    l8r25 k1 x lg x (x.length : Int) 0 cls 0 [] [] [] [] (JN x cls t 0 ++ TL x cls 0) (bgL x cls x.length) (adL x cls []) := by
  have hl := hc.len
  constructor
  intro I hI
  refine upInd (N := x.length) (M := fun i => I x lg x (x.length : Int) (i : Int) cls 0 [] [] [] [] (JN x cls t i ++ TL x cls i) (bgL x cls x.length) (adL x cls (AD x cls i)))
    (hI _ _ _ _ _ _ _ _ _ _ _ _ _ _ (by rw [TL_end, List.append_nil]; exact brDn (by omega) h)) (fun i hi ih => hI _ _ _ _ _ _ _ _ _ _ _ _ _ _ ?_) 0 (Nat.zero_le _)
  obtain ⟨c, h1, h2, h3⟩ := hc.val i (by omega)
  have hbl := bgL_len (x := x) (cls := cls) (i := x.length)
  have hjl := JN_len (x := x) (cls := cls) (t := t) (i := i)
  have hbg := bg_le (cls := cls) hF i
  have htl := TL_len (cls := cls) hF (x.length - (i + 1)) (i + 1) (by omega)
  have hal := AD_len (cls := cls) hF i
  rw [wrapS (by omega), Int.toNat_natCast]
  refine brD (by omega) (needAt hi (brD (by omega) (needS h2 (brE (fun e => ?_) fun e => ?_))))
  · have ho : ownF cls i = true := own_iff.2 (by rw [h2, e])
    refine brD (by omega) (needS (bgL_get hi ho) ?_)
    have e1 : JN x cls t i ++ TL x cls i = JN x cls t i ++ sf (JN x cls t i).length x[i] ++ TL x cls (i + 1) := by
      rw [TL_cons hi, ← List.append_assoc]; unfold spart; rw [if_pos ho, F_eq hi, hjl]
    have e2 : JN x cls t i ++ rf x cls (JN x cls t i).length x[i] x[i].2.2.1.length ++ TL x cls (i + 1) = JN x cls t (i + 1) ++ TL x cls (i + 1) := by
      rw [JN_succ]; unfold part; rw [if_pos ho, F_eq hi, hjl]
    have e3 : AD x cls i ++ pr cls (JN x cls t i).length x[i] x[i].2.2.1.length = AD x cls (i + 1) := by
      rw [AD_succ]; unfold prs; rw [if_pos ho, F_eq hi, hjl]
    rw [e1, ← hjl]
    refine c18_ok hc (hF _ (List.getElem_mem hi)) hx (by omega) (by omega) (by omega) hbl (fun j hj ho => bgL_get hj ho) ?_ ?_
    · rw [e2, e3]; exact ih
    · rw [e2, e3]; exact ih
  · have ho : ownF cls i = false := by
      rw [← Bool.not_eq_true, own_iff, h2]; intro q; exact e (Option.some.inj q)
    have e1 : JN x cls t (i + 1) = JN x cls t i := by rw [JN_succ]; unfold part; rw [if_neg (by rw [ho]; simp), List.append_nil]
    have e2 : TL x cls i = TL x cls (i + 1) := by rw [TL_cons hi]; unfold spart; rw [if_neg (by rw [ho]; simp), List.nil_append]
    have e3 : AD x cls (i + 1) = AD x cls i := by rw [AD_succ]; unfold prs; rw [if_neg (by rw [ho]; simp), List.append_nil]
    rw [e1, e3] at ih
    rw [e2]
    exact ih

theorem c8_ok {x : List LF} {cls : List Int} {m : Int} {lg : Bool} {k : Int → Int → List Int → List Int → List Int → List (Int × Int × List Int × Int × Unit) → List (Int × Int × Int × List (List UInt8 × Int × Int × Unit) × Unit) → List Int → Prop} (hx : x.length ≤ 12) (hL : ∀ f ∈ x, Lens f)
    (h1 : lsErr x.length x ≠ 0 → k 0 (lsErr x.length x) cls [] [] [] [] []) (hc : lsErr x.length x = 0 → Cls x cls)
    (h2 : lsErr x.length x = 0 → (m < 0 ∨ (x.length : Int) ≤ m) → k 0 12 cls [] [] [] [] [])
    (h3 : lsErr x.length x = 0 → 0 ≤ m → m < x.length → c19 x lg (JN x cls ((bg x cls (cl cls m) : Nat) : Int) x.length) (bgL x cls x.length) (adL x cls (AD x cls x.length)) cls (fun z49 z50 z51 z52 z53 z54 z55 z56 z57 z58 z59 => k z49 z50 z54 z55 z56 z57 z58 z59)) : c8 x m lg cls k := by
  constructor
  refine c6_ok hx hL (brN (fun e => h1 e) fun e => ?_)
  have hc := hc e
  have hF : ∀ f ∈ x, Fok x.length f := fun f hf => fok_of (lsErr_ok e f hf)
  have hl := hc.len
  refine brF (by rw [hl]; simp) (l8r7_ok hx hc (brP (fun q => h2 e (.inl q)) fun q1 => brP (fun q => h2 e (.inr (by omega))) fun q2 => l8r16_ok hx hc hF ?_))
  obtain ⟨g1, g2, g3⟩ := cls_call hc (fn := m) (by omega) (by omega)
  have hbl := bgL_len (x := x) (cls := cls) (i := x.length)
  have hsl := SJ_len (x := x) (cls := cls) (i := x.length)
  refine brD (by omega) (needS g1 (brD (by omega) ?_))
  rw [Int.toNat_natCast]
  refine needS (bgL_get g3 g2) ?_
  have hsj : SJ x cls x.length = ((20, 0, 0, 0, 0, ()), 0, ()) :: ((0, 0, 0, 0, 0, ()), (-1), ()) :: TL x cls 0 := rfl
  refine brD (by rw [hsj]; simp; omega) ?_
  rw [hsj]
  exact l8r25_ok hx hc hF (h3 e (by omega) (by omega))
theorem err_far {o : O} (ho : o.1 = 11) (h : err (wn o 0) = 0) : err (wn o 1048576) = 0 := by
  have hu : (use o.1).2.2.2.1 = true := by rw [ho]; decide
  have ht : ∀ n, tail o.1 n = 0 := fun n => by rw [ho]; rfl
  have hf : form (wn o 1048576) = form (wn o 0) := by
    unfold form
    simp only [wn, hu, Bool.not_true, Bool.false_and]
  have hd : rng 1048576 (-2147483648) 2147483647 = true := by decide
  have h0 : rng 0 (-2147483648) 2147483647 = true := by decide
  unfold err at h ⊢
  rw [hf]
  simp only [regs, wn, ht, hd, h0, Bool.and_true] at h ⊢
  exact h
theorem ies_all {L : Int} : ∀ {l : LR}, (∀ x ∈ l, ie L x = 0) → ies L l = 0
  | [], _ => rfl
  | y :: r, h => by
    simp only [ies]
    rw [if_neg (by simpa using h y (by simp))]
    exact ies_all fun x hx => h x (by simp [hx])
theorem ie_of {L : Int} {x : RI} (h1 : e0 x = 0) (h2 : -1 ≤ x.2.1 ∧ x.2.1 ≤ L) (h3 : 0 ≤ x.2.1 → rng x.1.1 16 20 = true ∧ x.1.2.2.2.2.1 = 0) : ie L x = 0 := by
  unfold ie
  rw [if_neg (by simpa using h1), if_neg (by omega), if_neg]
  rintro ⟨q, q2 | q2⟩
  · rw [(h3 q).1] at q2; cases q2
  · exact q2 (h3 q).2
theorem ie_zero {L : Int} {x : RI} (h : ie L x = 0) : e0 x = 0 ∧ (-1 ≤ x.2.1 ∧ x.2.1 ≤ L) ∧ (0 ≤ x.2.1 → rng x.1.1 16 20 = true ∧ x.1.2.2.2.2.1 = 0) := by
  have h1 := ie_err h
  refine ⟨h1.1, ie_bnd h, fun q => ⟨h1.2 q, ?_⟩⟩
  unfold ie at h
  refine Classical.byContradiction fun e => ?_
  have hb := ie_bnd (x := x) (L := L) (by unfold ie; exact h)
  rw [if_neg (by simpa using h1.1), if_neg (by omega), if_pos ⟨q, .inr e⟩] at h
  cases h
theorem wn_self {o : O} (h : o.2.2.2.2.1 = 0) : wn o 0 = o := by
  obtain ⟨a, b, c, d, e, ⟨⟩⟩ := o
  dsimp only at h
  subst h
  rfl

theorem bg_mono {x : List LF} {cls : List Int} : ∀ (d i : Nat), bg x cls i ≤ bg x cls (i + d)
  | 0, i => Nat.le_refl _
  | d + 1, i => Nat.le_trans (bg_mono d i) (by show bg x cls (i + d) ≤ bg x cls (i + d) + _; omega)
theorem bg_lt {x : List LF} {cls : List Int} (hF : ∀ f ∈ x, Fok x.length f) {i : Nat} (hi : i < x.length) (ho : ownF cls i = true) : bg x cls i + (F x i).2.1.length ≤ bg x cls x.length ∧ 0 < (F x i).2.1.length := by
  have h1 : bg x cls (i + 1) = bg x cls i + if ownF cls i then (F x i).2.1.length else 0 := rfl
  rw [if_pos ho] at h1
  have h2 := bg_mono (x := x) (cls := cls) (x.length - (i + 1)) (i + 1)
  rw [show i + 1 + (x.length - (i + 1)) = x.length by omega] at h2
  have h3 := (hF _ (List.getElem_mem hi)).pos
  rw [F_eq hi] at h1 ⊢
  omega
theorem bg_ge {x : List LF} {cls : List Int} (i : Nat) : 2 ≤ bg x cls i := by
  have := bg_mono (x := x) (cls := cls) i 0
  rw [Nat.zero_add] at this
  exact this

/-- what an item may have become -/
structure Was (L : Int) (y z : IT) : Prop where
  is : z = y ∨ (y.1.1 = 20 ∧ y.1.2.2.2.2.1 = 0 ∧ y.2.1 = -1 ∧ ∃ v, 0 ≤ v ∧ v ≤ L ∧ z = (y.1, v, y.2.2)) ∨ (y.1.1 = 11 ∧ y.1.2.2.2.2.1 = 0 ∧ y.2.1 = -1 ∧ z = (wn y.1 1048576, y.2))
theorem rs_item {x : List LF} {cls : List Int} (hc : Cls x cls) (hF : ∀ f ∈ x, Fok x.length f) {f : LF} (hf : Fok x.length f) {b k m : Nat} (hk : k < f.2.1.length) (hb : (b : Int) + f.2.1.length ≤ (bg x cls x.length : Nat)) :
    ie (bg x cls x.length : Nat) (rs x cls b (f.2.2.1.take m) (k : Int) f.2.1[k]) = 0 ∧
      (opAt f (k : Int) ≠ 20 → (∃ c ∈ f.2.2.1.take m, c.1 = (k : Int)) → base (rs x cls b (f.2.2.1.take m) (k : Int) f.2.1[k]) = true) := by
  have hie := ies_zero hf.ie _ (List.getElem_mem hk)
  obtain ⟨q1, q2, q3⟩ := ie_zero hie
  have hne := hf.noend _ (List.getElem_mem hk)
  have hop : opAt f (k : Int) = f.2.1[k].1.1 := by unfold opAt; rw [Int.toNat_natCast, List.getElem?_eq_getElem hk]; rfl
  have hcall : ∀ c ∈ f.2.2.1, c.1 = (k : Int) → ¬ badIt f.2.1[k] ∧ 0 ≤ c.2.1 ∧ c.2.1 < x.length := by
    intro c hc1 hc2
    obtain ⟨i, hi, rfl⟩ := List.mem_iff_getElem.1 hc1
    obtain ⟨g1, g2, g3, g4, y, hy, hbad⟩ := hf.cin i hi
    rw [hc2, Int.toNat_natCast, List.getElem?_eq_getElem hk] at hy
    rw [Option.some.inj hy]
    exact ⟨hbad, g3, g4⟩
  have htake : ∀ c ∈ f.2.2.1.take m, c ∈ f.2.2.1 := fun c hc => List.mem_of_mem_take hc
  generalize f.2.1[k] = y at *
  generalize f.2.2.1.take m = cs at *
  by_cases h0 : 0 ≤ y.2.1
  · -- a jump with a label of its ownF
    have hno : ∀ c ∈ cs, c.1 ≠ (k : Int) := fun c hc e => (hcall c (htake c hc) e).1 (.inr (.inl h0))
    have hfold : ∀ (l : List CL) (z : IT), (∀ c ∈ l, c.1 ≠ (k : Int)) → l.foldl (stp x cls k) z = z := by
      intro l
      induction l with
      | nil => intro z _; rfl
      | cons c r ih =>
        intro z hl
        rw [List.foldl_cons, show stp x cls k z c = z by unfold stp; rw [if_pos (hl c (by simp))]]
        exact ih z fun d hd => hl d (by simp [hd])
    unfold rs
    rw [hfold cs _ hno]
    refine ⟨?_, fun _ ⟨c, h1, h2⟩ => absurd h2 (hno c h1)⟩
    have hs : shf b y = (y.1, y.2.1 + (b : Int), y.2.2) := by unfold shf; rw [if_pos h0]
    rw [hs]
    refine ie_of ?_ ⟨by dsimp only; omega, by dsimp only; omega⟩ fun _ => q3 h0
    unfold e0 at q1 ⊢
    rw [if_pos h0] at q1
    rw [if_pos (by dsimp only; omega)]
    exact q1
  · have hs : shf b y = y := by unfold shf; rw [if_neg h0]
    have key : ∀ (l : List CL) (z : IT), (∀ c ∈ l, c ∈ f.2.2.1) → Was (bg x cls x.length : Nat) y z → Was (bg x cls x.length : Nat) y (l.foldl (stp x cls k) z) ∧ (opAt f (k : Int) ≠ 20 → ((∃ c ∈ l, c.1 = (k : Int)) ∨ z = (wn y.1 1048576, y.2)) → l.foldl (stp x cls k) z = (wn y.1 1048576, y.2)) := by
      intro l
      induction l with
      | nil => intro z _ hz; exact ⟨hz, fun _ h => h.elim (fun ⟨c, hc, _⟩ => (by cases hc)) id⟩
      | cons c r ih =>
        intro z hl hz
        rw [List.foldl_cons]
        by_cases e : c.1 = (k : Int)
        · obtain ⟨g1, g2, g3⟩ := hcall c (hl c (by simp)) e
          unfold badIt at g1
          have hN : y.1.2.2.2.2.1 = 0 := Classical.byContradiction fun q => g1 (.inr (.inr q))
          have hT : y.2.1 = -1 := by omega
          have hzop : z.1.1 = y.1.1 := by
            rcases hz.is with rfl | ⟨_, _, _, v, _, _, rfl⟩ | ⟨_, _, _, rfl⟩ <;> rfl
          by_cases h20 : y.1.1 = 20
          · have hst : stp x cls k z c = (z.1, ((bg x cls (cl cls c.2.1) : Nat) : Int), z.2.2) := by unfold stp; rw [if_neg (fun h => h e), if_pos (by rw [hzop]; exact h20)]
            obtain ⟨w1, w2, w3⟩ := cls_call hc g2 g3
            have hlt := bg_lt hF w3 w2
            have hw : Was (bg x cls x.length : Nat) y (stp x cls k z c) := by
              rw [hst]
              refine ⟨.inr (.inl ⟨h20, hN, hT, ((bg x cls (cl cls c.2.1) : Nat) : Int), Int.natCast_nonneg _, by omega, ?_⟩)⟩
              rcases hz.is with rfl | ⟨_, _, _, v, _, _, rfl⟩ | ⟨h11, _, _, rfl⟩
              · rfl
              · rfl
              · omega
            obtain ⟨k1, k2⟩ := ih _ (fun d hd => hl d (by simp [hd])) hw
            exact ⟨k1, fun hne20 => absurd (hop.trans h20) hne20⟩
          · have h11 : y.1.1 = 11 := Classical.byContradiction fun q => g1 (.inl ⟨h20, q⟩)
            have hst : stp x cls k z c = (wn y.1 1048576, y.2) := by
              unfold stp
              rw [if_neg (fun h => h e), if_neg (by rw [hzop]; exact h20)]
              rcases hz.is with rfl | ⟨q, _, _, v, _, _, rfl⟩ | ⟨_, _, _, rfl⟩
              · rfl
              · exact absurd q h20
              · rfl
            have hw : Was (bg x cls x.length : Nat) y (stp x cls k z c) := by rw [hst]; exact ⟨.inr (.inr ⟨h11, hN, hT, rfl⟩)⟩
            obtain ⟨k1, k2⟩ := ih _ (fun d hd => hl d (by simp [hd])) hw
            exact ⟨k1, fun q _ => k2 q (.inr hst)⟩
        · have hst : stp x cls k z c = z := by unfold stp; rw [if_pos e]
          rw [hst]
          obtain ⟨k1, k2⟩ := ih z (fun d hd => hl d (by simp [hd])) hz
          refine ⟨k1, fun q h => k2 q ?_⟩
          rcases h with ⟨d, hd, he⟩ | h
          · rcases List.mem_cons.1 hd with rfl | hd
            · exact absurd he e
            · exact .inl ⟨d, hd, he⟩
          · exact .inr h
    unfold rs
    rw [hs]
    obtain ⟨k1, k2⟩ := key cs y htake ⟨.inl rfl⟩
    refine ⟨?_, fun q h => ?_⟩
    · have hy0 : e0 y = err y.1 := by unfold e0; rw [if_neg h0]
      rcases k1.is with e | ⟨g1, g2, g3, v, g4, g5, e⟩ | ⟨g1, g2, g3, e⟩
      · rw [e]
        exact ie_of q1 ⟨by omega, by omega⟩ fun q => absurd q h0
      · rw [e]
        refine ie_of ?_ ⟨by dsimp only; omega, g5⟩ fun _ => ⟨by rw [g1]; decide, g2⟩
        unfold e0
        rw [if_pos g4, wn_self g2, ← hy0]; exact q1
      · rw [e]
        refine ie_of ?_ ⟨by dsimp only; omega, by dsimp only; omega⟩ fun q => absurd q h0
        unfold e0
        rw [if_neg h0]
        exact err_far g1 (by rw [wn_self g2, ← hy0]; exact q1)
    · rw [k2 q (.inl h)]
      unfold base
      rw [show decide ((wn y.1 1048576, y.2).2.1 < 0) = true from decide_eq_true (by dsimp only; omega)]
      rfl

/-- where an item of the joined list comes from -/
theorem JN_get {x : List LF} {cls : List Int} {t : Int} : ∀ {n : Nat}, n ≤ x.length → ∀ y ∈ JN x cls t n, y ∈ base0 t ∨ ∃ j, j < n ∧ ownF cls j = true ∧ y ∈ rf x cls (bg x cls j) (F x j) (F x j).2.2.1.length
  | 0, _, y, hy => .inl (by simpa [JN] using hy)
  | n + 1, h, y, hy => by
    rw [JN_succ] at hy
    rcases List.mem_append.1 hy with hy | hy
    · rcases JN_get (by omega) y hy with q | ⟨j, q1, q2⟩
      · exact .inl q
      · exact .inr ⟨j, by omega, q2⟩
    · unfold part at hy
      by_cases ho : ownF cls n = true
      · rw [if_pos ho] at hy; exact .inr ⟨n, by omega, ho, hy⟩
      · rw [if_neg ho] at hy; cases hy
theorem JN_ies {x : List LF} {cls : List Int} (hc : Cls x cls) (hF : ∀ f ∈ x, Fok x.length f) {t : Int} (h0 : 0 ≤ t) (h1 : t ≤ (bg x cls x.length : Nat)) : ies (JN x cls t x.length).length (JN x cls t x.length) = 0 := by
  rw [JN_len]
  refine ies_all fun y hy => ?_
  rcases JN_get (Nat.le_refl _) y hy with q | ⟨j, hj, ho, q⟩
  · unfold base0 at q
    rcases List.mem_cons.1 q with rfl | q
    · exact ie_of (by unfold e0; rw [if_pos h0]; exact (show err (wn (20, 0, 0, 0, 0, ()) 0) = 0 by decide)) ⟨by dsimp only; omega, h1⟩ fun _ => (show rng 20 16 20 = true ∧ (0 : Int) = 0 by decide)
    · rw [List.mem_singleton.1 q]
      exact ie_of (by decide) ⟨by decide, by dsimp only; omega⟩ fun q => absurd q (by decide)
  · obtain ⟨k, hk, rfl⟩ := List.mem_iff_getElem.1 q
    have hk2 : k < (F x j).2.1.length := by rw [rf_len] at hk; exact hk
    rw [rf_get hk2]
    have hf : Fok x.length (F x j) := by rw [F_eq hj]; exact hF _ (List.getElem_mem hj)
    exact (rs_item hc hF hf hk2 (by have := (bg_lt hF hj ho).1; omega)).1
theorem JN_chk {x : List LF} {cls : List Int} (hc : Cls x cls) (hF : ∀ f ∈ x, Fok x.length f) {t : Int} (h0 : 0 ≤ t) (h1 : t ≤ (bg x cls x.length : Nat)) : chk (JN x cls t x.length) = if 16384 < bg x cls x.length then 2 else 0 := by
  unfold chk
  rw [JN_ies hc hF h0 h1, JN_len]
theorem JN_at {x : List LF} {cls : List Int} {t : Int} : ∀ {n j k : Nat}, j < n → ownF cls j = true → (hk : k < (F x j).2.1.length) → (JN x cls t n)[bg x cls j + k]? = some (rs x cls (bg x cls j) (F x j).2.2.1 (k : Int) ((F x j).2.1[k]))
  | 0, j, k, h, _, _ => absurd h (by omega)
  | n + 1, j, k, h, ho, hk => by
    rw [JN_succ]
    by_cases e : j = n
    · subst e
      have hl := JN_len (x := x) (cls := cls) (t := t) (i := j)
      rw [List.getElem?_append_right (by omega), hl, Nat.add_sub_cancel_left]
      unfold part
      rw [if_pos ho, List.getElem?_eq_getElem (by rw [rf_len]; exact hk), rf_get hk, List.take_length]
    · have hl := JN_len (x := x) (cls := cls) (t := t) (i := n)
      have h1 : bg x cls (j + 1) = bg x cls j + if ownF cls j then (F x j).2.1.length else 0 := rfl
      rw [if_pos ho] at h1
      have h2 := bg_mono (x := x) (cls := cls) (n - (j + 1)) (j + 1)
      rw [show j + 1 + (n - (j + 1)) = n by omega] at h2
      rw [List.getElem?_append_left (by omega)]
      exact JN_at (by omega) ho hk

/-- the loads of addresses -/
theorem AD_mem {x : List LF} {cls : List Int} : ∀ {n : Nat} {p : Int × Nat}, p ∈ AD x cls n → ∃ j, j < n ∧ ownF cls j = true ∧ ∃ c ∈ (F x j).2.2.1, opAt (F x j) c.1 ≠ 20 ∧ p = ((bg x cls j : Int) + c.1, cl cls c.2.1)
  | 0, p, h => by simp [AD] at h
  | n + 1, p, h => by
    rw [AD_succ] at h
    rcases List.mem_append.1 h with h | h
    · obtain ⟨j, q1, q2⟩ := AD_mem h
      exact ⟨j, by omega, q2⟩
    · unfold prs at h
      by_cases ho : ownF cls n = true
      · rw [if_pos ho] at h
        unfold pr at h
        rw [List.take_length] at h
        obtain ⟨c, hc, rfl⟩ := List.mem_map.1 h
        obtain ⟨h1, h2⟩ := List.mem_filter.1 hc
        exact ⟨n, by omega, ho, c, h1, by simpa using h2, rfl⟩
      · rw [if_neg ho] at h; cases h
theorem outs_full {l : LR} {G : List Bool} (hG : G.length = l.length) : ∀ i, i ≤ l.length → (outs l G i).length = Ad G i
  | 0, _ => by simp [outs, Ad]
  | i + 1, h => by
    rw [outs_succ, List.length_append, outs_full hG i (by omega), wdi_eq (by omega) (by omega)]
    simp only [Ad]
    rw [List.getElem?_eq_getElem (by omega)]
    cases G[i] <;> simp [br, long, short]
theorem Ad_mono {G : List Bool} {i : Nat} : ∀ d, Ad G i ≤ Ad G (i + d)
  | 0 => Nat.le_refl _
  | d + 1 => Nat.le_trans (Ad_mono d) (by show Ad G (i + d) ≤ Ad G (i + d) + _; omega)
/-- a place of an address is right -/
structure Pa (x : List LF) (cls : List Int) (G : List Bool) (L : Nat) (p : Int × Nat) : Prop where
  p0 : 0 ≤ p.1
  p1 : p.1 < L
  code : Ad G p.1.toNat + 1 < Ad G L
  ownF' : ownF cls p.2 = true
  lt : p.2 < x.length
  to : bg x cls p.2 < L
theorem AD_pa {x : List LF} {cls : List Int} (hc : Cls x cls) (hF : ∀ f ∈ x, Fok x.length f) {t : Int} {all : Bool} {g : List Bool} (hB : Best (JN x cls t x.length) g) : ∀ p ∈ AD x cls x.length, Pa x cls (ls (JN x cls t x.length) all g) (bg x cls x.length) p := by
  intro p hp
  obtain ⟨j, hj, ho, c, hcm, hop, rfl⟩ := AD_mem hp
  have hf : Fok x.length (F x j) := by rw [F_eq hj]; exact hF _ (List.getElem_mem hj)
  obtain ⟨i, hi, rfl⟩ := List.mem_iff_getElem.1 hcm
  obtain ⟨g1, g2, g3, g4, _⟩ := hf.cin i hi
  have hlt := bg_lt hF hj ho
  obtain ⟨w1, w2, w3⟩ := cls_call hc g3 g4
  have hlt2 := bg_lt hF w3 w2
  have hl := JN_len (x := x) (cls := cls) (t := t) (i := x.length)
  generalize hk : (F x j).2.2.1[i].1.toNat = k at *
  have hk1 : (F x j).2.2.1[i].1 = (k : Int) := by omega
  have hkl : k < (F x j).2.1.length := by omega
  have hat := JN_at (t := t) (n := x.length) hj ho hkl
  have hbase : base (rs x cls (bg x cls j) (F x j).2.2.1 (k : Int) ((F x j).2.1[k])) = true := by
    have := (rs_item hc hF hf (m := (F x j).2.2.1.length) hkl (by have := hlt.1; omega : ((bg x cls j : Nat) : Int) + _ ≤ _)).2 (by rw [← hk1]; exact hop) ⟨_, by rw [List.take_length]; exact hcm, hk1⟩
    rw [List.take_length] at this
    exact this
  have hlen : bg x cls j + k < (JN x cls t x.length).length := by omega
  have hgi : g[bg x cls j + k]? = some true := hB.bas _ hlen (by
    rw [List.getElem?_eq_getElem hlen] at hat
    rw [Option.some.inj hat]; exact hbase)
  have hGl := ls_len (l := JN x cls t x.length) (all := all) hB.len
  have hG : (ls (JN x cls t x.length) all g)[bg x cls j + k]? = some true := by
    have h2 : bg x cls j + k < g.length := by rw [hB.len]; exact hlen
    rw [List.getElem?_eq_getElem (by omega), ls_get (by omega) hlen h2]
    rw [List.getElem?_eq_getElem h2] at hgi
    rw [Option.some.inj hgi]; rfl
  have hp1 : (((bg x cls j : Nat) : Int) + (F x j).2.2.1[i].1).toNat = bg x cls j + k := by omega
  refine ⟨by dsimp only; omega, by dsimp only; omega, ?_, w2, w3, by dsimp only; omega⟩
  show Ad _ (((bg x cls j : Nat) : Int) + (F x j).2.2.1[i].1).toNat + 1 < _
  rw [hp1]
  have hA : Ad (ls (JN x cls t x.length) all g) (bg x cls j + k + 1) = Ad (ls (JN x cls t x.length) all g) (bg x cls j + k) + 2 := by
    show _ + _ = _
    rw [if_pos hG]
  have hm := Ad_mono (G := ls (JN x cls t x.length) all g) (i := bg x cls j + k + 1) (bg x cls x.length - (bg x cls j + k + 1))
  rw [show bg x cls j + k + 1 + (bg x cls x.length - (bg x cls j + k + 1)) = bg x cls x.length by omega] at hm
  omega
abbrev MAP := Int × Int × List Int × Int × Unit
/-- an address is written into the code -/
def setA (x : List LF) (cls : List Int) (G : List Bool) (code : List Int) (p : Int × Nat) : List Int := code.set (Ad G p.1.toNat + 1) (2 * ((Ad G (bg x cls p.2) : Nat) : Int) + 1)
def codeA (x : List LF) (cls : List Int) (G : List Bool) (ad : List (Int × Nat)) (code : List Int) : List Int := ad.foldl (setA x cls G) code
theorem codeA_len {x : List LF} {cls : List Int} {G : List Bool} : ∀ {ad : List (Int × Nat)} {code : List Int}, (codeA x cls G ad code).length = code.length
  | [], _ => rfl
  | p :: r, code => by
    show (codeA x cls G r (setA x cls G code p)).length = _
    rw [codeA_len]; unfold setA; rw [List.length_set]
theorem codeA_succ {x : List LF} {cls : List Int} {G : List Bool} {ad : List (Int × Nat)} {code : List Int} {m : Nat} (h : m < ad.length) : codeA x cls G (ad.take (m + 1)) code = setA x cls G (codeA x cls G (ad.take m) code) ad[m] := by
  unfold codeA
  rw [List.take_succ_eq_append_getElem h, List.foldl_append]
  rfl
theorem adL_len {x : List LF} {cls : List Int} {ad : List (Int × Nat)} : (adL x cls ad).length = ad.length := by simp [adL]

theorem l19r5v2_ok {x : List LF} {cls beg : List Int} {G : List Bool} {its : List IT} {ad : List (Int × Nat)} {code : List Int} {L : Nat} {k : List LF → Nat → Nat → Nat → List IT → List Int → List (List Int) → List Int → Int → List Int → List Int → List MAP → List (Int × Int × Int × List (List UInt8 × Int × Int × Unit) × Unit) → List Int → List Int → Prop}
    (hL : L ≤ 16384) (hGL : Ad G L ≤ 16384) (hal : ad.length ≤ 1000000) (hp : ∀ p ∈ ad, Pa x cls G L p) (hcode : code.length = Ad G L)
    (h : k x 0 L (L + 1) its beg (adL x cls ad) cls 0 [] [] [] [] (codeA x cls G ad code) (atL G L)) :
    l19r5v2 k x 0 L (L + 1) ((adL x cls ad).length : Int) 0 its beg (adL x cls ad) cls 0 [] [] [] [] code (atL G L) := by
  have hatl := atL_len (g := G) (n := L)
  have hadl := adL_len (x := x) (cls := cls) (ad := ad)
  rw [hadl]
  constructor
  intro I hI
  refine upInd (N := ad.length) (M := fun i => I x 0 L (L + 1) (ad.length : Int) (i : Int) its beg (adL x cls ad) cls 0 [] [] [] [] (codeA x cls G (ad.take i) code) (atL G L)) (hI _ _ _ _ _ _ _ _ _ _ _ _ _ _ _ _ _ (by rw [List.take_length]; exact brDn (by omega) h)) (fun i hi ih => hI _ _ _ _ _ _ _ _ _ _ _ _ _ _ _ _ _ ?_) 0 (Nat.zero_le _)
  have hpi := hp _ (List.getElem_mem hi)
  obtain ⟨p0, p1, pc, po, plt, pto⟩ := hpi
  have hcl := codeA_len (x := x) (cls := cls) (G := G) (ad := ad.take i) (code := code)
  have a1 := A_le G (ad[i]).1.toNat
  have a2 := A_le G (bg x cls (ad[i]).2)
  have e1 : (atL G L)[0 + (ad[i]).1.toNat]? = some ((Ad G (ad[i]).1.toNat : Nat) : Int) := by rw [Nat.zero_add, List.getElem?_eq_getElem (by omega), atL_get]
  have e2 : (atL G L)[0 + (((bg x cls (ad[i]).2 : Nat) : Int)).toNat]? = some ((Ad G (bg x cls (ad[i]).2) : Nat) : Int) := by rw [Nat.zero_add, Int.toNat_natCast, List.getElem?_eq_getElem (by omega), atL_get]
  rw [codeA_succ hi] at ih
  unfold setA at ih
  rw [wrapS (by omega), Int.toNat_natCast]
  have e3 : (adL x cls ad)[i]? = some [(ad[i]).1, ((bg x cls (ad[i]).2 : Nat) : Int)] := by unfold adL; rw [List.getElem?_map, List.getElem?_eq_getElem hi]; rfl
  refine brD (by omega) (brD (by omega) (needS e3 (needS (v := (ad[i]).1) rfl (brD (by omega) (needS e1 (needS (v := ((bg x cls (ad[i]).2 : Nat) : Int)) rfl (brD (by omega) (needS e2 ?_))))))))
  rw [wrap64 (a := ((Ad G (ad[i]).1.toNat : Nat) : Int) + 1) (by omega) (by omega), wrap64 (a := 2 * ((Ad G (bg x cls (ad[i]).2) : Nat) : Int)) (by omega) (by omega), wrap64 (by omega) (by omega)]
  have e4 : (((Ad G (ad[i]).1.toNat : Nat) : Int) + 1).toNat = Ad G (ad[i]).1.toNat + 1 := by omega
  refine brD (by omega) ?_
  rw [e4]
  exact needNth (by omega) ih

theorem eI {a : Int} : eqT (.int .i64) a a = true := eqT_self (.int .i64) a
theorem eQ4 {a b c : Int} : (eqT (.int .i64) a a && (eqT (.int .i64) b b && (true && (eqT (.int .i64) c c && true)))) = true := by rw [eI, eI, eI]; rfl
/-- a stack map -/
def mkm (G : List Bool) (b : Nat) (f : LF) (m : MP) : MAP := (((Ad G (b + m.1.toNat + if m.2.1 then 1 else 0) : Nat) : Int), f.2.2.2.2.1, m.2.2.1, m.2.2.2.1, ())
theorem c46_ok {l : List Int} {k : List Int → Prop} (hl : l.length * 8 ≤ 140737488355328) (h : k l) : c46 l k := by
  constructor
  have hr : roomB (0 + l.length) 8 = true := roomS (by omega)
  have hn : l.isEmpty = true → k [] := fun e => by rw [List.isEmpty_iff.1 e] at h; exact h
  have hs : br (List.isEmpty l) (k []) (br (roomB (0 + l.length) 8) (k ([] ++ l)) False) := brB (fun e => hn e) fun e => brT hr h
  exact brB (fun e => ⟨hn e, hs⟩) fun e => hs
theorem c29_ok {n : Nat} {f : LF} {G : List Bool} {b L : Nat} {k : List Int → List MAP → Prop} (hf : Fok n f) (hsz : ∀ m ∈ f.2.2.2.1, m.2.2.1.length * 8 ≤ 140737488355328) (hb : b + f.2.1.length ≤ L) (hL : L ≤ 16384) {c : Nat} (h : k (atL G L) (f.2.2.2.1.map (mkm G b f))) : c29 f b f.2.1.length c (atL G L) k := by
  have hml := hf.mlen
  have hlen := hf.len
  have hatl := atL_len (g := G) (n := L)
  constructor
  constructor
  intro I hI
  refine upInd (N := f.2.2.2.1.length) (M := fun i => I b f.2.1.length c f.2.2.2.1 (f.2.2.2.1.length : Int) (i : Int) (atL G L) f ((f.2.2.2.1.take i).map (mkm G b f))) (hI _ _ _ _ _ _ _ _ _ (by rw [List.take_length]; exact brDn (by omega) h)) (fun i hi ih => hI _ _ _ _ _ _ _ _ _ ?_) 0 (Nat.zero_le _)
  obtain ⟨m0, m1, m2⟩ := hf.min i hi
  have hs := hsz _ (List.getElem_mem hi)
  rw [List.take_succ_eq_append_getElem hi, List.map_append] at ih
  rw [wrapS (by omega)]
  have hil : ((f.2.2.2.1.take i).map (mkm G b f)).length ≤ 20000 := by rw [List.length_map, List.length_take]; omega
  have hg : (atL G L)[b + (f.2.2.2.1[i].1).toNat]? = some ((Ad G (b + (f.2.2.2.1[i].1).toNat) : Nat) : Int) := by rw [List.getElem?_eq_getElem (by omega), atL_get]
  have hw : IntKind.wrap .i64 (f.2.2.2.1[i].1 + 1) = f.2.2.2.1[i].1 + 1 := wrap64 (by omega) (by omega)
  have fin : br (f.2.2.2.1[i].2.1)
      (br (decide ((0 : Int) ≤ (IntKind.wrap .i64 (f.2.2.2.1[i].1 + 1)) ∧ ((IntKind.wrap .i64 (f.2.2.2.1[i].1 + 1)) : Int) < ((f.2.1.length : Nat) : Int)))
        (need False (atL G L)[(b + (Int.toNat (IntKind.wrap .i64 (f.2.2.2.1[i].1 + 1))))]? fun y15 =>
          br (roomB ((List.length ((f.2.2.2.1.take i).map (mkm G b f))) + 1) 48)
            (I b f.2.1.length c f.2.2.2.1 (f.2.2.2.1.length : Int) ((i + 1 : Nat) : Int) (atL G L) f ((f.2.2.2.1.take i).map (mkm G b f) ++ [(y15, f.2.2.2.2.1, f.2.2.2.1[i].2.2.1, f.2.2.2.1[i].2.2.2.1, ())])) False) False)
      (br (roomB ((List.length ((f.2.2.2.1.take i).map (mkm G b f))) + 1) 48)
        (I b f.2.1.length c f.2.2.2.1 (f.2.2.2.1.length : Int) ((i + 1 : Nat) : Int) (atL G L) f ((f.2.2.2.1.take i).map (mkm G b f) ++ [(((Ad G (b + (f.2.2.2.1[i].1).toNat) : Nat) : Int), f.2.2.2.2.1, f.2.2.2.1[i].2.2.1, f.2.2.2.1[i].2.2.2.1, ())])) False) := by
    refine brB (fun e => ?_) fun e => ?_
    · have := m2 e
      rw [hw]
      have e5 : (f.2.2.2.1[i].1 + 1).toNat = (f.2.2.2.1[i].1).toNat + 1 := by omega
      have hg2 : (atL G L)[b + ((f.2.2.2.1[i].1).toNat + 1)]? = some ((Ad G (b + (f.2.2.2.1[i].1).toNat + 1) : Nat) : Int) := by rw [List.getElem?_eq_getElem (by omega), atL_get]; rfl
      rw [e5]
      have em : mkm G b f f.2.2.2.1[i] = (((Ad G (b + (f.2.2.2.1[i].1).toNat + 1) : Nat) : Int), f.2.2.2.2.1, f.2.2.2.1[i].2.2.1, f.2.2.2.1[i].2.2.2.1, ()) := by unfold mkm; rw [if_pos e]
      rw [List.map_cons, List.map_nil, em] at ih
      exact brD (by omega) (needS hg2 (brT (roomS (by omega)) ih))
    · have em : mkm G b f f.2.2.2.1[i] = (((Ad G (b + (f.2.2.2.1[i].1).toNat) : Nat) : Int), f.2.2.2.2.1, f.2.2.2.1[i].2.2.1, f.2.2.2.1[i].2.2.2.1, ()) := by unfold mkm; rw [if_neg (by rw [e]; simp)]; rfl
      rw [List.map_cons, List.map_nil, em] at ih
      exact brT (roomS (by omega)) ih
  clear ih hw
  have hq : (eqT (.int .i64) ((Ad G (b + (f.2.2.2.1[i].1).toNat) : Nat) : Int) ((Ad G (b + (f.2.2.2.1[i].1).toNat) : Nat) : Int) && (eqT (.int .i64) f.2.2.2.2.1 f.2.2.2.2.1 && (true && (eqT (.int .i64) f.2.2.2.1[i].2.2.2.1 f.2.2.2.1[i].2.2.2.1 && true)))) = true := by
    exact eQ4
  refine brD (by omega) (needAt hi (brD (by omega) (needS hg ⟨c46_ok hs ?_, ?_⟩)))
  · repeat (first
      | refine brT (b := true && true) rfl ?_
      | refine brT (eqT_self (.int .i64) _) ?_
      | refine brT hq ?_
      | refine brT (b := (decide (b = b)) && ((decide (f.2.1.length = f.2.1.length)) && (decide (c = c)))) (by simp) ?_
      | refine brT (b := decide (b + (f.2.2.2.1[i].1).toNat = b + (f.2.2.2.1[i].1).toNat) && true) (by simp) ?_
      | refine needS hg ?_
      | refine brD (p := (0 : Int) ≤ f.2.2.2.1[i].1 ∧ f.2.2.2.1[i].1 < ((f.2.1.length : Nat) : Int)) (by omega) ?_)
    exact fin
  · repeat (first
      | refine brT (b := true && true) rfl ?_
      | refine brT (eqT_self (.int .i64) _) ?_
      | refine brT (eqT_self (.sl (.int .i64)) _) ?_
      | refine brT (b := (decide (b = b)) && ((decide (f.2.1.length = f.2.1.length)) && (decide (c = c)))) (by simp) ?_
      | refine brT (b := decide (b + (f.2.2.2.1[i].1).toNat = b + (f.2.2.2.1[i].1).toNat) && true) (by simp) ?_
      | refine needS hg ?_
      | refine c46_ok hs ?_
      | refine brD (p := (0 : Int) ≤ f.2.2.2.1[i].1 ∧ f.2.2.2.1[i].1 < ((f.2.1.length : Nat) : Int)) (by omega) ?_)
    exact fin
def stL (x : List LF) (cls : List Int) (G : List Bool) (i : Nat) : List Int := (List.range i).flatMap fun j => if ownF cls j then [((Ad G (bg x cls j) : Nat) : Int)] else []
def mps (x : List LF) (cls : List Int) (G : List Bool) (j : Nat) : List MAP := if ownF cls j then (F x j).2.2.2.1.map (mkm G (bg x cls j) (F x j)) else []
def mpL (x : List LF) (cls : List Int) (G : List Bool) (i : Nat) : List MAP := (List.range i).flatMap (mps x cls G)
def whL (x : List LF) (cls : List Int) (G : List Bool) (n : Nat) : List Int := (List.range n).map fun j : Nat => ((Ad G (bg x cls (cl cls ((j : Nat) : Int))) : Nat) : Int)
theorem stL_succ {x : List LF} {cls : List Int} {G : List Bool} {i : Nat} : stL x cls G (i + 1) = stL x cls G i ++ if ownF cls i then [((Ad G (bg x cls i) : Nat) : Int)] else [] := by
  unfold stL; rw [List.range_succ, List.flatMap_append, List.flatMap_singleton]
theorem mpL_succ {x : List LF} {cls : List Int} {G : List Bool} {i : Nat} : mpL x cls G (i + 1) = mpL x cls G i ++ mps x cls G i := by
  unfold mpL; rw [List.range_succ, List.flatMap_append, List.flatMap_singleton]
theorem stL_len {x : List LF} {cls : List Int} {G : List Bool} (i : Nat) : (stL x cls G i).length ≤ i := by
  induction i with
  | zero => simp [stL]
  | succ i ih =>
    rw [stL_succ, List.length_append]
    have : (if ownF cls i then [((Ad G (bg x cls i) : Nat) : Int)] else []).length ≤ 1 := by split <;> simp
    omega
theorem F_mlen {x : List LF} (hF : ∀ f ∈ x, Fok x.length f) {i : Nat} : (F x i).2.2.2.1.length ≤ 16384 := by
  unfold F
  by_cases h : i < x.length
  · have h2 := hF _ (List.getElem_mem h)
    rw [List.getElem?_eq_getElem h]
    exact Nat.le_trans h2.mlen h2.len
  · rw [List.getElem?_eq_none (by omega)]
    simp [dflt]
theorem mps_len {x : List LF} {cls : List Int} {G : List Bool} (hF : ∀ f ∈ x, Fok x.length f) (i : Nat) : (mps x cls G i).length ≤ 16384 := by
  have := F_mlen hF (i := i)
  unfold mps
  split
  · rw [List.length_map]; exact this
  · simp
theorem mpL_len {x : List LF} {cls : List Int} {G : List Bool} (hF : ∀ f ∈ x, Fok x.length f) (i : Nat) : (mpL x cls G i).length ≤ i * 16384 := by
  induction i with
  | zero => simp [mpL]
  | succ i ih =>
    rw [mpL_succ, List.length_append]
    have := mps_len (cls := cls) (G := G) hF i
    omega
theorem whL_len {x : List LF} {cls : List Int} {G : List Bool} {n : Nat} : (whL x cls G n).length = n := by simp [whL]
theorem whL_get {x : List LF} {cls : List Int} {G : List Bool} {n i : Nat} (h : i < (whL x cls G n).length) : (whL x cls G n)[i] = ((Ad G (bg x cls (cl cls (i : Int))) : Nat) : Int) := by simp [whL]
/-- slots that fit the memory -/
def Szm (x : List LF) : Prop := ∀ f ∈ x, ∀ m ∈ f.2.2.2.1, m.2.2.1.length * 8 ≤ 140737488355328

abbrev MARK := Int × Int × Int × List (List UInt8 × Int × Int × Unit) × Unit
theorem l19r12v2_ok {x : List LF} {cls : List Int} {G : List Bool} {its : List IT} {adr : List (List Int)} {code : List Int} {k : List IT → List Int → List (List Int) → List Int → Int → List Int → List Int → List MAP → List MARK → Int → List Int → List Int → List MAP → List MARK → List Int → Prop}
    (hx : x.length ≤ 12) (hc : Cls x cls) (hF : ∀ f ∈ x, Fok x.length f) (hz : Szm x) (hL : bg x cls x.length ≤ 16384) (hGL : Ad G (bg x cls x.length) ≤ 16384)
    (h : k its (bgL x cls x.length) adr cls 0 [] [] [] [] 0 code (stL x cls G x.length) (mpL x cls G x.length) [] (whL x cls G x.length)) :
    l19r12v2 k 0 (bg x cls x.length) (bg x cls x.length + 1) x (x.length : Int) 0 its (bgL x cls x.length) adr cls 0 [] [] [] [] (atL G (bg x cls x.length)) 0 code [] [] [] (List.replicate x.length 0) := by
  have hl := hc.len
  have hbl := bgL_len (x := x) (cls := cls) (i := x.length)
  have hatl := atL_len (g := G) (n := bg x cls x.length)
  have hwl := whL_len (x := x) (cls := cls) (G := G) (n := x.length)
  have hrl : (whL x cls G x.length).length = (List.replicate x.length (0 : Int)).length := by rw [hwl, List.length_replicate]
  constructor
  intro I hI
  have key := upInd (N := x.length) (M := fun i => I 0 (bg x cls x.length) (bg x cls x.length + 1) x (x.length : Int) (i : Int) its (bgL x cls x.length) adr cls 0 [] [] [] [] (atL G (bg x cls x.length)) 0 code (stL x cls G i) (mpL x cls G i) [] (mix (whL x cls G x.length) (List.replicate x.length 0) i))
    (by
      apply hI
      have := mix_all hrl
      rw [hwl] at this
      rw [this]
      exact brDn (by omega) h)
    (by
      intro i hi ih
      apply hI
      obtain ⟨g1, g2, g3⟩ := cls_call hc (fn := (i : Int)) (by omega) (by omega)
      rw [Int.toNat_natCast] at g1
      have hlt := bg_lt hF g3 g2
      have a1 := A_le G (bg x cls (cl cls (i : Int)))
      have e1 : (atL G (bg x cls x.length))[0 + (((bg x cls (cl cls (i : Int)) : Nat) : Int)).toNat]? = some ((Ad G (bg x cls (cl cls (i : Int))) : Nat) : Int) := by rw [Nat.zero_add, Int.toNat_natCast, List.getElem?_eq_getElem (by omega), atL_get]
      have hml : (mix (whL x cls G x.length) (List.replicate x.length (0 : Int)) i).length = x.length := by rw [mix_len hrl (by omega), List.length_replicate]
      have hset := mix_set hrl (i := i) (by omega)
      rw [whL_get] at hset
      rw [wrapS (by omega), Int.toNat_natCast]
      refine brD (by omega) (needAt hi (brD (by omega) (needS g1 (brD (by omega) ?_))))
      rw [Int.toNat_natCast]
      refine needS (bgL_get g3 g2) (brD (by omega) (needS e1 (brD (by rw [hml]; omega) (needNth (by rw [hml]; omega) (brD (by omega) (needS g1 ?_))))))
      rw [hset]
      refine brE (fun e => ?_) fun e => ?_
      · have ho : ownF cls i = true := own_iff.2 (by rw [g1, e])
        have hlt2 := bg_lt hF hi ho
        have hf := hF _ (List.getElem_mem hi)
        have e2 : (atL G (bg x cls x.length))[0 + (((bg x cls i : Nat) : Int)).toNat]? = some ((Ad G (bg x cls i) : Nat) : Int) := by rw [Nat.zero_add, Int.toNat_natCast, List.getElem?_eq_getElem (by omega), atL_get]
        have hsl := stL_len (x := x) (cls := cls) (G := G) i
        have hmpl := mpL_len (cls := cls) (G := G) hF i
        have hmps := mps_len (cls := cls) (G := G) hF i
        have hFi : F x i = x[i] := F_eq hi
        rw [stL_succ, if_pos ho, mpL_succ] at ih
        rw [hFi] at hlt2
        refine brD (by omega) (needS (bgL_get hi ho) (brD (by omega) (needS e2 (brT rfl (brT (roomS (by omega)) ?_)))))
        rw [wrap64 (a := ((bg x cls i : Nat) : Int) + (x[i].2.1.length : Int)) (by omega) (by omega), Nat.zero_add, Int.toNat_natCast, show (((bg x cls i : Nat) : Int) + (x[i].2.1.length : Int) - ((bg x cls i : Nat) : Int)).toNat = x[i].2.1.length by omega]
        have hmm : (x[i].2.2.2.1.map (mkm G (bg x cls i) x[i])) = mps x cls G i := by unfold mps; rw [if_pos ho, hFi]
        refine brD (by omega) (c29_ok hf (hz _ (List.getElem_mem hi)) (by omega) hL (brT rfl ?_))
        rw [hmm]
        refine brB (fun em => ?_) fun em => brT (roomS (by omega)) ih
        rw [List.isEmpty_iff.1 em, List.append_nil] at ih
        exact ih
      · have ho : ownF cls i = false := by
          rw [← Bool.not_eq_true, own_iff, g1]; intro q; exact e (Option.some.inj q)
        rw [stL_succ, if_neg (by rw [ho]; simp), List.append_nil, mpL_succ, show mps x cls G i = [] by unfold mps; rw [if_neg (by rw [ho]; simp)], List.append_nil] at ih
        exact ih)
    0 (Nat.zero_le _)
  rw [mix_zero] at key
  exact key

theorem c19_ok {x : List LF} {cls : List Int} {t : Int} {lg : Bool} {k : Int → Int → List IT → List Int → List (List Int) → List Int → List Int → List Int → List MAP → List MARK → List Int → Prop}
    (hx : x.length ≤ 12) (hc : Cls x cls) (hF : ∀ f ∈ x, Fok x.length f) (hz : Szm x) (h0 : 0 ≤ t) (ht : t ≤ (bg x cls x.length : Nat))
    (h1 : 16384 < bg x cls x.length → k 0 2 (JN x cls t x.length) (bgL x cls x.length) (adL x cls (AD x cls x.length)) cls [] [] [] [] [])
    (h2 : bg x cls x.length ≤ 16384 → ∀ g, Best (JN x cls t x.length) g → 16384 < Ad (ls (JN x cls t x.length) lg g) (bg x cls x.length) → k 0 2 (JN x cls t x.length) (bgL x cls x.length) (adL x cls (AD x cls x.length)) cls [] [] [] [] [])
    (h3 : bg x cls x.length ≤ 16384 → ∀ g, Best (JN x cls t x.length) g → Ad (ls (JN x cls t x.length) lg g) (bg x cls x.length) ≤ 16384 → k 0 0 (JN x cls t x.length) (bgL x cls x.length) (adL x cls (AD x cls x.length)) cls
      (codeA x cls (ls (JN x cls t x.length) lg g) (AD x cls x.length) (outs (JN x cls t x.length) (ls (JN x cls t x.length) lg g) (bg x cls x.length))) (stL x cls (ls (JN x cls t x.length) lg g) x.length) (mpL x cls (ls (JN x cls t x.length) lg g) x.length) [] (whL x cls (ls (JN x cls t x.length) lg g) x.length)) :
    c19 x lg (JN x cls t x.length) (bgL x cls x.length) (adL x cls (AD x cls x.length)) cls k := by
  have hchk := JN_chk hc hF h0 ht
  have hlen := JN_len (x := x) (cls := cls) (t := t) (i := x.length)
  have hal := AD_len (cls := cls) hF x.length
  constructor
  refine c28_ok (fun e => ?_) (fun e g hB hA => ?_) fun e g hB hA => ?_
  · have hbig : 16384 < bg x cls x.length := by
      refine Classical.byContradiction fun q => e ?_
      rw [hchk, if_neg q]
    rw [hchk, if_pos hbig]
    exact brT rfl (h1 hbig)
  · have hs := (chk_good e).1
    rw [hlen] at hs hA
    exact brT rfl (h2 hs g hB hA)
  · have hs := (chk_good e).1
    rw [hlen] at hs hA ⊢
    have hof := outs_full (l := JN x cls t x.length) (G := ls (JN x cls t x.length) lg g) (ls_len hB.len) (bg x cls x.length) (by omega)
    refine brF rfl (l19r5v2_ok hs hA (by omega) (AD_pa hc hF hB) hof (brD (by omega) ?_))
    rw [Int.toNat_natCast]
    exact l19r12v2_ok hx hc hF hz hs hA (h3 hs g hB hA)
theorem asc_split {n : Int} : ∀ {cs : List CL}, cs.Pairwise (fun c d => c.1 < d.1) → cs.filter (fun c => decide (c.1 < n)) ++ cs.filter (fun c => c.1 == n) = cs.filter fun c => decide (c.1 < n + 1)
  | [], _ => rfl
  | c :: r, h => by
    obtain ⟨h1, h2⟩ := List.pairwise_cons.1 h
    have ih := asc_split (n := n) h2
    simp only [List.filter_cons]
    by_cases e : c.1 < n
    · rw [decide_eq_true e, decide_eq_true (by omega : c.1 < n + 1), beq_eq_false_iff_ne.2 (by omega : c.1 ≠ n), if_pos rfl, if_pos rfl, if_neg (by simp), List.cons_append, ih]
    · rw [decide_eq_false e, if_neg (by simp)]
      by_cases e2 : c.1 = n
      · have hnil : r.filter (fun c => decide (c.1 < n)) = [] := List.filter_eq_nil_iff.2 fun d hd => by have := h1 d hd; simp; omega
        rw [hnil, List.nil_append] at ih
        rw [hnil, List.nil_append, beq_iff_eq.2 e2, decide_eq_true (by omega : c.1 < n + 1), if_pos rfl, if_pos rfl, ih]
      · rw [beq_eq_false_iff_ne.2 e2, decide_eq_false (by omega : ¬ c.1 < n + 1), if_neg (by simp), if_neg (by simp), ih]
theorem asc_flat {cs : List CL} (h : cs.Pairwise fun c d => c.1 < d.1) (h0 : ∀ c ∈ cs, 0 ≤ c.1) (n : Nat) : (List.range n).flatMap (fun k : Nat => cs.filter fun c => c.1 == (k : Int)) = cs.filter fun c => decide (c.1 < (n : Int)) := by
  induction n with
  | zero =>
    symm
    refine List.filter_eq_nil_iff.2 fun c hc => ?_
    have := h0 c hc
    simp; omega
  | succ n ih =>
    rw [List.range_succ, List.flatMap_append, List.flatMap_singleton, ih, asc_split h]
    rfl
/-- the loads of item k, m calls seen -/
def pk (cls : List Int) (b : Nat) (f : LF) (k m : Nat) : List (Int × Nat) := ((f.2.2.1.take m).filter fun c => (c.1 == (k : Int)) && (opAt f c.1 != 20)).map fun c => ((b : Int) + c.1, cl cls c.2.1)
theorem pk_succ {cls : List Int} {b : Nat} {f : LF} {k m : Nat} (h : m < f.2.2.1.length) : pk cls b f k (m + 1) = pk cls b f k m ++ if f.2.2.1[m].1 = (k : Int) ∧ opAt f f.2.2.1[m].1 ≠ 20 then [((b : Int) + f.2.2.1[m].1, cl cls f.2.2.1[m].2.1)] else [] := by
  unfold pk
  rw [List.take_succ_eq_append_getElem h, List.filter_append, List.map_append]
  by_cases e : f.2.2.1[m].1 = (k : Int) ∧ opAt f f.2.2.1[m].1 ≠ 20
  · rw [if_pos e]
    have : ((f.2.2.1[m].1 == (k : Int)) && (opAt f f.2.2.1[m].1 != 20)) = true := by simp [e.1]; rw [← e.1]; exact e.2
    rw [List.filter_cons, this]; rfl
  · rw [if_neg e]
    have : ((f.2.2.1[m].1 == (k : Int)) && (opAt f f.2.2.1[m].1 != 20)) = false := by
      rw [Bool.and_eq_false_iff]
      by_cases e1 : f.2.2.1[m].1 = (k : Int)
      · right; simp; exact Classical.not_not.1 fun q => e ⟨e1, q⟩
      · left; simpa using e1
    rw [List.filter_cons, this]; rfl
def pks (cls : List Int) (b : Nat) (f : LF) (k : Nat) : List (Int × Nat) := (List.range k).flatMap fun j => pk cls b f j f.2.2.1.length
theorem pks_full {n : Nat} {cls : List Int} {b : Nat} {f : LF} (hf : Fok n f) : pks cls b f f.2.1.length = pr cls b f f.2.2.1.length := by
  have h := asc_flat hf.cas (fun c hc => by obtain ⟨i, hi, rfl⟩ := List.mem_iff_getElem.1 hc; exact (hf.cin i hi).1) f.2.1.length
  have hall : f.2.2.1.filter (fun c => decide (c.1 < (f.2.1.length : Int))) = f.2.2.1 := List.filter_eq_self.2 fun c hc => by
    obtain ⟨i, hi, rfl⟩ := List.mem_iff_getElem.1 hc
    exact decide_eq_true (hf.cin i hi).2.1
  rw [hall] at h
  unfold pks pk pr
  rw [List.take_length]
  conv => rhs; rw [← h, List.filter_flatMap, List.map_flatMap]
  congr 1
  funext j
  rw [List.filter_filter]
  congr 2
  funext c
  exact Bool.and_comm _ _
theorem pk_len {cls : List Int} {b : Nat} {f : LF} {k m : Nat} : (pk cls b f k m).length ≤ f.2.2.1.length := by
  unfold pk
  rw [List.length_map]
  refine Nat.le_trans (List.length_filter_le _ _) ?_
  rw [List.length_take]; omega
def ldL (l : List (Int × Nat)) : List (Int × Int × Unit) := l.map fun p => (p.1, (p.2 : Int), ())
theorem ldL_len {l : List (Int × Nat)} : (ldL l).length = l.length := by simp [ldL]

theorem pks_succ {cls : List Int} {b : Nat} {f : LF} {k : Nat} : pks cls b f (k + 1) = pks cls b f k ++ pk cls b f k f.2.2.1.length := by
  unfold pks; rw [List.range_succ, List.flatMap_append, List.flatMap_singleton]
theorem pks_mono {cls : List Int} {b : Nat} {f : LF} {k : Nat} : ∀ d, (pks cls b f k).length ≤ (pks cls b f (k + d)).length
  | 0 => Nat.le_refl _
  | d + 1 => Nat.le_trans (pks_mono d) (by rw [show k + (d + 1) = (k + d) + 1 by omega, pks_succ, List.length_append]; omega)
theorem l9r23_ok {x a1 a5 : List LF} {a2 : Bool} {a3 a6 a7 a9 : Int} {a8 : List IT} {cls beg : List Int} {f : LF} {b kN : Nat} {its : List IT} {A : List (Int × Nat)}
    {K : List LF → Bool → Int → List LF → Int → Int → List IT → Int → Int → List Int → Int → List Int → List Int → List MAP → List MARK → List IT → List Int → List (Int × Int × Unit) → LF → IT → Prop}
    (hc : Cls x cls) (hlen : x.length ≤ 12) (hf : Fok x.length f) (hk : kN < f.2.1.length) (hil : its.length = b + kN) (hA : A.length ≤ 1000000) (hbl : beg.length = x.length) (hbg : ∀ i, i < x.length → ownF cls i = true → beg[i]? = some ((bg x cls i : Nat) : Int))
    (h : K a1 a2 a3 a5 a6 a7 a8 a9 (kN : Int) cls 0 [] [] [] [] its beg (ldL (A ++ pk cls b f kN f.2.2.1.length)) f (rs x cls b f.2.2.1 (kN : Int) f.2.1[kN])) :
    l9r23 K a1 a2 a3 (kN : Int) a5 a6 a7 a8 a9 (kN : Int) f.2.2.1 (f.2.2.1.length : Int) 0 cls 0 [] [] [] [] its beg (ldL A) f (shf b f.2.1[kN]) := by
  have hcl := hf.clen
  have hl := hf.len
  have hcls := hc.len
  constructor
  intro I hI
  have key := upInd (N := f.2.2.1.length) (M := fun m => I a1 a2 a3 (kN : Int) a5 a6 a7 a8 a9 (kN : Int) f.2.2.1 (f.2.2.1.length : Int) (m : Int) cls 0 [] [] [] [] its beg (ldL (A ++ pk cls b f kN m)) f (rs x cls b (f.2.2.1.take m) (kN : Int) f.2.1[kN]))
    (by apply hI; rw [List.take_length]; exact brDn (by omega) h)
    (by
      intro m hm ih
      apply hI
      obtain ⟨g1, g2, g3, g4, _⟩ := hf.cin m hm
      obtain ⟨q1, q2, q3⟩ := cls_call hc g3 g4
      have hop : (rs x cls b (f.2.2.1.take m) (kN : Int) f.2.1[kN]).1.1 = f.2.1[kN].1.1 := rs_op
      have hopk : opAt f (kN : Int) = f.2.1[kN].1.1 := by unfold opAt; rw [Int.toNat_natCast, List.getElem?_eq_getElem hk]; rfl
      rw [rs_succ hm, pk_succ hm] at ih
      have hpl := pk_len (cls := cls) (b := b) (f := f) (k := kN) (m := m)
      have hll : (ldL (A ++ pk cls b f kN m)).length ≤ 1100000 := by rw [ldL_len, List.length_append]; omega
      generalize hY : rs x cls b (f.2.2.1.take m) (kN : Int) f.2.1[kN] = Y at ih hop ⊢
      rw [wrapS (by omega)]
      refine brD (by omega) (needAt hm (brN (fun e => ?_) fun e => brE (fun e2 => ?_) fun e2 => ?_))
      · rw [if_neg (fun q => e q.1), List.append_nil] at ih
        unfold stp at ih
        rw [if_pos e] at ih
        exact ih
      · rw [if_neg (fun q => q.2 (by rw [e, hopk, ← hop]; exact e2)), List.append_nil] at ih
        unfold stp at ih
        rw [if_neg (fun h => h e), if_pos e2] at ih
        refine brD (by omega) (needS q1 (brD (by omega) ?_))
        rw [Int.toNat_natCast]
        exact needS (hbg _ q3 q2) ih
      · rw [if_pos ⟨e, by rw [e, hopk, ← hop]; exact e2⟩] at ih
        unfold stp at ih
        rw [if_neg (fun h => h e), if_neg e2] at ih
        refine brD (by omega) (needS q1 (brT (roomS (by omega)) ?_))
        rw [hil]
        unfold ldL at ih ⊢
        rw [← List.append_assoc, List.map_append] at ih
        rw [e] at ih
        exact ih)
    0 (Nat.zero_le _)
  have e0 : pk cls b f kN 0 = [] := by simp [pk]
  rw [e0, List.append_nil] at key
  exact key

theorem l9r18_ok {x : List LF} {a2 : Bool} {cls beg : List Int} {f : LF} {i : Nat} {its : List IT} {A : List (Int × Nat)} {a4 a5 : Int}
    {K : List LF → Bool → List LF → Int → Int → List Int → Int → List Int → List Int → List MAP → List MARK → List IT → List Int → List (Int × Int × Unit) → Prop}
    (hc : Cls x cls) (hlen : x.length ≤ 12) (hf : Fok x.length f) (hi : i < x.length) (ho : ownF cls i = true) (hil : its.length = bg x cls i) (hb : bg x cls i ≤ 1000000) (hA : A.length ≤ 500000) (hbl : beg.length = x.length) (hbg : ∀ i, i < x.length → ownF cls i = true → beg[i]? = some ((bg x cls i : Nat) : Int))
    (h : K x a2 x a4 a5 cls 0 [] [] [] [] (its ++ rf x cls (bg x cls i) f f.2.2.1.length) beg (ldL (A ++ pr cls (bg x cls i) f f.2.2.1.length))) :
    l9r18 K x a2 (i : Int) x a4 a5 f.2.1 (f.2.1.length : Int) 0 cls 0 [] [] [] [] its beg (ldL A) f := by
  have hl := hf.len
  have hcl := hf.clen
  have hB := ies_bnd hf.ie
  have hpks : ∀ k, k ≤ f.2.1.length → (pks cls (bg x cls i) f k).length ≤ f.2.2.1.length := fun k hk => by
    have h1 := pks_mono (cls := cls) (b := bg x cls i) (f := f) (k := k) (f.2.1.length - k)
    rw [show k + (f.2.1.length - k) = f.2.1.length by omega, pks_full hf] at h1
    exact Nat.le_trans h1 pr_len
  constructor
  intro I hI
  have key := upInd (N := f.2.1.length) (M := fun k => I x a2 (i : Int) x a4 a5 f.2.1 (f.2.1.length : Int) (k : Int) cls 0 [] [] [] [] (its ++ (rf x cls (bg x cls i) f f.2.2.1.length).take k) beg (ldL (A ++ pks cls (bg x cls i) f k)) f)
    (by
      apply hI
      rw [pks_full hf, List.take_of_length_le (by rw [rf_len]; exact Nat.le_refl _)]
      exact brDn (by omega) h)
    (by
      intro k hk ih
      apply hI
      have hbd := hB k hk
      have hp := hpks k (by omega)
      have hrl := rf_len (x := x) (cls := cls) (b := bg x cls i) (f := f) (m := f.2.2.1.length)
      have hil2 : (its ++ (rf x cls (bg x cls i) f f.2.2.1.length).take k).length = bg x cls i + k := by rw [List.length_append, List.length_take, hrl, hil]; omega
      have hal : (A ++ pks cls (bg x cls i) f k).length ≤ 1000000 := by rw [List.length_append]; omega
      rw [List.take_succ_eq_append_getElem (by rw [hrl]; exact hk), rf_get hk, List.take_length, ← List.append_assoc, pks_succ, ← List.append_assoc] at ih
      have hin : ∀ y, y = shf (bg x cls i) f.2.1[k] → l9r23 (fun z42 z43 z44 z45 z46 z47 z48 z49 z50 z51 z52 z53 z54 z55 z56 z57 z58 z59 z60 z61 => br (roomB ((List.length z57) + 1) 48) (I z42 z43 z44 z45 z46 z47 z48 z49 (IntKind.wrap .i64 (z50 + 1)) z51 z52 z53 z54 z55 z56 (z57 ++ [z61]) z58 z59 z60) False)
          x a2 (i : Int) (k : Int) x a4 a5 f.2.1 (f.2.1.length : Int) (k : Int) f.2.2.1 (f.2.2.1.length : Int) 0 cls 0 [] [] [] [] (its ++ (rf x cls (bg x cls i) f f.2.2.1.length).take k) beg (ldL (A ++ pks cls (bg x cls i) f k)) f y := fun y hy => by
        subst hy
        refine l9r23_ok hc hlen hf hk hil2 hal hbl hbg (brT (roomS (by rw [hil2]; omega)) ?_)
        rw [wrapS (by omega)]
        exact ih
      refine brD (by omega) (needAt hk (brP (fun e => brD (by omega) ?_) fun e => hin _ ?_))
      · rw [Int.toNat_natCast]
        refine needS (hbg i hi ho) (hin _ ?_)
        rw [wrap64 (by omega) (by omega)]
        unfold shf
        rw [if_pos e]
      · unfold shf; rw [if_neg e])
    0 (Nat.zero_le _)
  have e0 : pks cls (bg x cls i) f 0 = [] := rfl
  rw [List.take_zero, List.append_nil, e0, List.append_nil] at key
  exact key
def bgF (x : List LF) (cls : List Int) : List Int := (List.range x.length).map fun j : Nat => if ownF cls j then ((bg x cls j : Nat) : Int) else 0
theorem bgF_len {x : List LF} {cls : List Int} : (bgF x cls).length = x.length := by simp [bgF]
theorem bgF_get {x : List LF} {cls : List Int} {i : Nat} (h : i < (bgF x cls).length) : (bgF x cls)[i] = if ownF cls i then ((bg x cls i : Nat) : Int) else 0 := by simp [bgF]
theorem bgF_own {x : List LF} {cls : List Int} {i : Nat} (h : i < x.length) (ho : ownF cls i = true) : (bgF x cls)[i]? = some ((bg x cls i : Nat) : Int) := by
  rw [List.getElem?_eq_getElem (by rw [bgF_len]; exact h), bgF_get, if_pos ho]

theorem l9r5_ok {x : List LF} {cls : List Int} {m : Int} {all : Bool} {its : List IT} {K : List LF → Int → Bool → List Int → Int → List Int → List Int → List MAP → List MARK → List IT → List Int → Prop}
    (hx : x.length ≤ 12) (hc : Cls x cls) (hF : ∀ f ∈ x, Fok x.length f) (h : K x m all cls 0 [] [] [] [] its (bgF x cls)) :
    l9r5 K x m all 2 x (x.length : Int) 0 cls 0 [] [] [] [] its (List.replicate x.length 0) := by
  have hl := hc.len
  have hbl := bgF_len (x := x) (cls := cls)
  have hrl : (bgF x cls).length = (List.replicate x.length (0 : Int)).length := by rw [hbl, List.length_replicate]
  constructor
  intro I hI
  have key := upInd (N := x.length) (M := fun i => I x m all ((bg x cls i : Nat) : Int) x (x.length : Int) (i : Int) cls 0 [] [] [] [] its (mix (bgF x cls) (List.replicate x.length 0) i))
    (by
      apply hI
      have := mix_all hrl
      rw [hbl] at this
      rw [this]
      exact brDn (by omega) h)
    (by
      intro i hi ih
      apply hI
      obtain ⟨g1, g2, g3⟩ := cls_call hc (fn := (i : Int)) (by omega) (by omega)
      rw [Int.toNat_natCast] at g1
      have hbg := bg_le (cls := cls) hF i
      have hml : (mix (bgF x cls) (List.replicate x.length (0 : Int)) i).length = x.length := by rw [mix_len hrl (by omega), List.length_replicate]
      have hfl := (F_len hF (i := i)).1
      have hbe : bg x cls (i + 1) = bg x cls i + if ownF cls i then (F x i).2.1.length else 0 := rfl
      rw [F_eq hi] at hbe hfl
      rw [wrapS (by omega), Int.toNat_natCast]
      refine brD (by omega) (needAt hi (brD (by omega) (needS g1 (brE (fun e => ?_) fun e => ?_))))
      · have ho : ownF cls i = true := own_iff.2 (by rw [g1, e])
        have hset := mix_set hrl (i := i) (by omega)
        rw [bgF_get, if_pos ho] at hset
        rw [if_pos ho] at hbe
        refine brD (by rw [hml]; omega) (needNth (by rw [hml]; omega) ?_)
        rw [hset, wrap64 (by omega) (by omega), show ((bg x cls i : Nat) : Int) + (x[i].2.1.length : Int) = ((bg x cls (i + 1) : Nat) : Int) by omega]
        exact ih
      · have ho : ¬ ownF cls i = true := by
          rw [own_iff, g1]; intro q; exact e (Option.some.inj q)
        rw [if_neg ho] at hbe
        have hs := mix_same hrl (i := i) (by omega) (by rw [bgF_get, if_neg ho, List.getElem_replicate])
        rw [← hs, hbe, Nat.add_zero] at ih
        exact ih)
    0 (Nat.zero_le _)
  rw [mix_zero] at key
  exact key

theorem l9r14_ok {x : List LF} {cls : List Int} {t : Int} {all : Bool} {K : List LF → Bool → List Int → Int → List Int → List Int → List MAP → List MARK → List IT → List Int → List (Int × Int × Unit) → Prop}
    (hx : x.length ≤ 12) (hc : Cls x cls) (hF : ∀ f ∈ x, Fok x.length f) (h : K x all cls 0 [] [] [] [] (JN x cls t x.length) (bgF x cls) (ldL (AD x cls x.length))) :
    l9r14 K x all x (x.length : Int) 0 cls 0 [] [] [] [] (JN x cls t 0) (bgF x cls) (ldL (AD x cls 0)) := by
  have hl := hc.len
  have hbl := bgF_len (x := x) (cls := cls)
  constructor
  intro I hI
  refine upInd (N := x.length) (M := fun i => I x all x (x.length : Int) (i : Int) cls 0 [] [] [] [] (JN x cls t i) (bgF x cls) (ldL (AD x cls i))) (hI _ _ _ _ _ _ _ _ _ _ _ _ _ _ (brDn (by omega) h)) (fun i hi ih => hI _ _ _ _ _ _ _ _ _ _ _ _ _ _ ?_) 0 (Nat.zero_le _)
  obtain ⟨g1, g2, g3⟩ := cls_call hc (fn := (i : Int)) (by omega) (by omega)
  rw [Int.toNat_natCast] at g1
  have hbg := bg_le (cls := cls) hF i
  have hal := AD_len (cls := cls) hF i
  have hjl := JN_len (x := x) (cls := cls) (t := t) (i := i)
  refine brD (by omega) (needAt hi (brD (by omega) ?_))
  rw [Int.toNat_natCast]
  refine needS g1 (brN (fun e => ?_) fun e => ?_)
  · have ho : ¬ ownF cls i = true := by
      rw [own_iff, g1]; intro q; exact e (Option.some.inj q)
    have e1 : JN x cls t (i + 1) = JN x cls t i := by rw [JN_succ]; unfold part; rw [if_neg ho, List.append_nil]
    have e3 : AD x cls (i + 1) = AD x cls i := by rw [AD_succ]; unfold prs; rw [if_neg ho, List.append_nil]
    rw [e1, e3] at ih
    rw [wrapS (by omega)]
    exact ih
  · have ho : ownF cls i = true := own_iff.2 (by rw [g1, e])
    refine l9r18_ok hc hx (hF _ (List.getElem_mem hi)) hi ho hjl (by omega) (by omega) hbl (fun j hj ho => bgF_own hj ho) ?_
    rw [wrapS (by omega)]
    have e2 : JN x cls t i ++ rf x cls (bg x cls i) x[i] x[i].2.2.1.length = JN x cls t (i + 1) := by
      rw [JN_succ]; unfold part; rw [if_pos ho, F_eq hi]
    have e3 : AD x cls i ++ pr cls (bg x cls i) x[i] x[i].2.2.1.length = AD x cls (i + 1) := by
      rw [AD_succ]; unfold prs; rw [if_pos ho, F_eq hi]
    rw [e2, e3]
    exact ih
theorem pat_len {g : List Bool} {n i : Nat} : (pat g n i).length = n + 1 := by simp [pat]
theorem pat_zero {g : List Bool} {n : Nat} : List.replicate (n + 1) (0 : Int) = pat g n 0 := by
  refine List.ext_getElem (by simp [pat]) fun j h1 h2 => ?_
  rw [pat_get, List.getElem_replicate]
  split
  · have : j = 0 := by omega
    subst this; rfl
  · rfl
theorem pat_all {g : List Bool} {n : Nat} : pat g n n = atL g n := by
  refine List.ext_getElem (by simp [pat, atL]) fun j h1 h2 => ?_
  rw [pat_get, atL_get, if_pos (by rw [pat_len] at h1; omega)]

theorem l9r39_ok {x : List LF} {cls beg : List Int} {all : Bool} {its : List IT} {g : List Bool} {ld : List (Int × Int × Unit)} {K : List LF → Bool → List Int → Int → List Int → List Int → List MAP → List MARK → List IT → List Int → List (Int × Int × Unit) → List Int → Prop}
    (hl : its.length ≤ 16384) (hg : g.length = its.length) (h : K x all cls 0 [] [] [] [] its beg ld (atL (ls its all g) its.length)) :
    l9r39 K x all (its.length : Int) 0 cls 0 [] [] [] [] its beg ld g (List.replicate (its.length + 1) 0) := by
  have hG := ls_len (l := its) (all := all) hg
  rw [pat_zero (g := ls its all g)]
  constructor
  intro I hI
  refine upInd (N := its.length) (M := fun i => I x all (its.length : Int) (i : Int) cls 0 [] [] [] [] its beg ld g (pat (ls its all g) its.length i)) (hI _ _ _ _ _ _ _ _ _ _ _ _ _ _ _ (by rw [pat_all]; exact brDn (by omega) h)) (fun i hi ih => hI _ _ _ _ _ _ _ _ _ _ _ _ _ _ _ ?_) 0 (Nat.zero_le _)
  have hpl := pat_len (g := ls its all g) (n := its.length) (i := i)
  have hb := A_le (ls its all g) i
  have hA : Ad (ls its all g) (i + 1) = Ad (ls its all g) i + (if (ls its all g)[i]? = some true then 2 else 1) := rfl
  rw [List.getElem?_eq_getElem (by omega : i < (ls its all g).length), ls_get (by omega) hi (by omega)] at hA
  have hpi : (pat (ls its all g) its.length i)[i]'(by omega) = ((Ad (ls its all g) i : Nat) : Int) := by rw [pat_get, if_pos (Nat.le_refl _)]
  rw [wrapS (by omega), Int.toNat_natCast, Int.toNat_natCast]
  refine brD (by omega) (brD (by omega) (needNth hi (brD (by omega) (needNth (by omega) (brD (by omega) (needNth (by omega) (brD (by omega) (needNth (by omega) ?_))))))))
  rw [hpi, wrap64 (a := ((Ad (ls its all g) i : Nat) : Int) + 1) (by omega) (by omega)]
  have hsl : ((pat (ls its all g) its.length i).set (i + 1) (((Ad (ls its all g) i : Nat) : Int) + 1)).length = its.length + 1 := by rw [List.length_set, hpl]
  have hget : ((pat (ls its all g) its.length i).set (i + 1) (((Ad (ls its all g) i : Nat) : Int) + 1))[i + 1]? = some (((Ad (ls its all g) i : Nat) : Int) + 1) := by
    rw [List.getElem?_eq_getElem (by omega), List.getElem_set_self]
  have two : (g[i] || (all && decide (0 ≤ its[i].2.1))) = true → I x all (its.length : Int) ((i + 1 : Nat) : Int) cls 0 [] [] [] [] its beg ld g (((pat (ls its all g) its.length i).set (i + 1) (((Ad (ls its all g) i : Nat) : Int) + 1)).set (i + 1) (IntKind.wrap .i64 (((Ad (ls its all g) i : Nat) : Int) + 1 + 1))) := fun e => by
    rw [e, if_pos rfl] at hA
    rw [List.set_set, wrap64 (by omega) (by omega), pat_set hi (by rw [hA]; push_cast; omega)]
    exact ih
  have one : (g[i] || (all && decide (0 ≤ its[i].2.1))) = false → I x all (its.length : Int) ((i + 1 : Nat) : Int) cls 0 [] [] [] [] its beg ld g ((pat (ls its all g) its.length i).set (i + 1) (((Ad (ls its all g) i : Nat) : Int) + 1)) := fun e => by
    rw [e, if_neg (by simp)] at hA
    rw [pat_set hi (by rw [hA]; rfl)]
    exact ih
  refine brB (fun e => ?_) fun e => brB (fun e2 => brP (fun e3 => ?_) fun e3 => ?_) fun e2 => ?_
  · exact brD (by omega) (needS hget (brD (by omega) (needS hget (two (by rw [e]; rfl)))))
  · exact brD (by omega) (needS hget (brD (by omega) (needS hget (two (by rw [e, e2, decide_eq_true e3]; rfl)))))
  · exact one (by rw [e, e2, decide_eq_false e3]; rfl)
  · exact one (by rw [e, e2]; rfl)

theorem l9r49_ok {x : List LF} {cls : List Int} {G : List Bool} {ad : List (Int × Nat)} {code : List Int} {L : Nat} {K : List LF → List Int → Int → List Int → List Int → List MAP → List MARK → List Int → List Int → Int → List Int → List Int → List MAP → List MARK → Prop}
    (hL : L ≤ 16384) (hGL : Ad G L ≤ 16384) (hal : ad.length ≤ 1000000) (hp : ∀ p ∈ ad, Pa x cls G L p) (hcode : code.length = Ad G L)
    (h : K x cls 0 [] [] [] [] (bgF x cls) (atL G L) 0 (codeA x cls G ad code) [] [] []) :
    l9r49 K x ((ldL ad).length : Int) 0 cls 0 [] [] [] [] (bgF x cls) (atL G L) 0 code [] [] [] (ldL ad) := by
  have hatl := atL_len (g := G) (n := L)
  have hbl := bgF_len (x := x) (cls := cls)
  have hll := ldL_len (l := ad)
  rw [hll]
  constructor
  intro I hI
  refine upInd (N := ad.length) (M := fun i => I x (ad.length : Int) (i : Int) cls 0 [] [] [] [] (bgF x cls) (atL G L) 0 (codeA x cls G (ad.take i) code) [] [] [] (ldL ad)) (hI _ _ _ _ _ _ _ _ _ _ _ _ _ _ _ _ _ (by rw [List.take_length]; exact brDn (by omega) h)) (fun i hi ih => hI _ _ _ _ _ _ _ _ _ _ _ _ _ _ _ _ _ ?_) 0 (Nat.zero_le _)
  obtain ⟨p0, p1, pc, po, plt, pto⟩ := hp _ (List.getElem_mem hi)
  have hcl := codeA_len (x := x) (cls := cls) (G := G) (ad := ad.take i) (code := code)
  have a1 := A_le G (ad[i]).1.toNat
  have a2 := A_le G (bg x cls (ad[i]).2)
  have e1 : (atL G L)[(ad[i]).1.toNat]? = some ((Ad G (ad[i]).1.toNat : Nat) : Int) := by rw [List.getElem?_eq_getElem (by omega), atL_get]
  have e2 : (atL G L)[bg x cls (ad[i]).2]? = some ((Ad G (bg x cls (ad[i]).2) : Nat) : Int) := by rw [List.getElem?_eq_getElem (by omega), atL_get]
  have e3 : (ldL ad)[i]? = some ((ad[i]).1, ((ad[i]).2 : Int), ()) := by unfold ldL; rw [List.getElem?_map, List.getElem?_eq_getElem hi]; rfl
  rw [codeA_succ hi] at ih
  unfold setA at ih
  rw [wrapS (by omega), Int.toNat_natCast]
  refine brD (by omega) (brD (by omega) (needS e3 (brD (by dsimp only; omega) (needS e1 (brD (by dsimp only; omega) ?_)))))
  show need False (bgF x cls)[(((ad[i]).2 : Nat) : Int).toNat]? _
  rw [Int.toNat_natCast]
  refine needS (bgF_own plt po) (brD (by omega) ?_)
  rw [Int.toNat_natCast]
  refine needS e2 ?_
  rw [wrap64 (a := ((Ad G (ad[i]).1.toNat : Nat) : Int) + 1) (by omega) (by omega), wrap64 (a := 2 * ((Ad G (bg x cls (ad[i]).2) : Nat) : Int)) (by omega) (by omega), wrap64 (by omega) (by omega)]
  have e4 : (((Ad G (ad[i]).1.toNat : Nat) : Int) + 1).toNat = Ad G (ad[i]).1.toNat + 1 := by omega
  refine brD (by omega) ?_
  rw [e4]
  exact needNth (by omega) ih

theorem l9r61_ok {n : Nat} {x : List LF} {cls : List Int} {G : List Bool} {f : LF} {j L : Nat} {a : Int} {code st wh : List Int} {mp : List MAP} {K : List LF → Int → Int → List Int → Int → List Int → List Int → List MAP → List MARK → List Int → List Int → Int → List Int → List Int → List MAP → List MARK → List Int → Prop}
    (hf : Fok n f) (hj : j < x.length) (hx : x.length ≤ 12) (ho : ownF cls j = true) (hb : bg x cls j + f.2.1.length ≤ L) (hL : L ≤ 16384) (hm : mp.length ≤ 1000000)
    (h : K x a (j : Int) cls 0 [] [] [] [] (bgF x cls) (atL G L) 0 code st (mp ++ f.2.2.2.1.map (mkm G (bg x cls j) f)) [] wh) :
    l9r61 K (j : Int) x a (j : Int) f.2.2.2.1 (f.2.2.2.1.length : Int) 0 cls 0 [] [] [] [] (bgF x cls) (atL G L) 0 code st mp [] wh f := by
  have hml := hf.mlen
  have hlen := hf.len
  have hatl := atL_len (g := G) (n := L)
  have hbl := bgF_len (x := x) (cls := cls)
  constructor
  intro I hI
  have key := upInd (N := f.2.2.2.1.length) (M := fun i => I (j : Int) x a (j : Int) f.2.2.2.1 (f.2.2.2.1.length : Int) (i : Int) cls 0 [] [] [] [] (bgF x cls) (atL G L) 0 code st (mp ++ (f.2.2.2.1.take i).map (mkm G (bg x cls j) f)) [] wh f)
    (by apply hI; rw [List.take_length]; exact brDn (by omega) h)
    (by
      intro i hi ih
      apply hI
      obtain ⟨m0, m1, m2⟩ := hf.min i hi
      rw [List.take_succ_eq_append_getElem hi, List.map_append, ← List.append_assoc] at ih
      have hil : (mp ++ (f.2.2.2.1.take i).map (mkm G (bg x cls j) f)).length ≤ 1100000 := by rw [List.length_append, List.length_map, List.length_take]; omega
      rw [wrapS (by omega)]
      refine brD (by omega) (needAt hi (brD (by omega) ?_))
      rw [Int.toNat_natCast]
      refine needS (bgF_own hj ho) ?_
      rw [wrap64 (a := ((bg x cls j : Nat) : Int) + f.2.2.2.1[i].1) (by omega) (by omega), wrap64 (a := ((bg x cls j : Nat) : Int) + f.2.2.2.1[i].1 + 1) (by omega) (by omega)]
      have e5 : (((bg x cls j : Nat) : Int) + f.2.2.2.1[i].1 + 1).toNat = bg x cls j + (f.2.2.2.1[i].1).toNat + 1 := by omega
      have e6 : (((bg x cls j : Nat) : Int) + f.2.2.2.1[i].1).toNat = bg x cls j + (f.2.2.2.1[i].1).toNat := by omega
      refine brB (fun e => ?_) fun e => ?_
      · have := m2 e
        have em : mkm G (bg x cls j) f f.2.2.2.1[i] = (((Ad G (bg x cls j + (f.2.2.2.1[i].1).toNat + 1) : Nat) : Int), f.2.2.2.2.1, f.2.2.2.1[i].2.2.1, f.2.2.2.1[i].2.2.2.1, ()) := by unfold mkm; rw [if_pos e]
        rw [List.map_cons, List.map_nil, em] at ih
        refine brD (by omega) ?_
        rw [e5]
        have hg2 : (atL G L)[bg x cls j + (f.2.2.2.1[i].1).toNat + 1]? = some ((Ad G (bg x cls j + (f.2.2.2.1[i].1).toNat + 1) : Nat) : Int) := by rw [List.getElem?_eq_getElem (by omega), atL_get]
        exact needS hg2 (brT rfl (brT (roomS (by omega)) ih))
      · have em : mkm G (bg x cls j) f f.2.2.2.1[i] = (((Ad G (bg x cls j + (f.2.2.2.1[i].1).toNat) : Nat) : Int), f.2.2.2.2.1, f.2.2.2.1[i].2.2.1, f.2.2.2.1[i].2.2.2.1, ()) := by unfold mkm; rw [if_neg (by rw [e]; simp)]; rfl
        rw [List.map_cons, List.map_nil, em] at ih
        refine brD (by omega) ?_
        rw [e6]
        have hg2 : (atL G L)[bg x cls j + (f.2.2.2.1[i].1).toNat]? = some ((Ad G (bg x cls j + (f.2.2.2.1[i].1).toNat) : Nat) : Int) := by rw [List.getElem?_eq_getElem (by omega), atL_get]
        exact needS hg2 (brT rfl (brT (roomS (by omega)) ih)))
    0 (Nat.zero_le _)
  rw [List.take_zero, List.map_nil, List.append_nil] at key
  exact key

theorem whL_succ {x : List LF} {cls : List Int} {G : List Bool} {i : Nat} : whL x cls G (i + 1) = whL x cls G i ++ [((Ad G (bg x cls (cl cls (i : Int))) : Nat) : Int)] := by
  unfold whL; rw [List.range_succ, List.map_append]; rfl
theorem l9r55_ok {x : List LF} {cls : List Int} {G : List Bool} {code : List Int} {K : List Int → Int → List Int → List Int → List MAP → List MARK → Int → List Int → List Int → List MAP → List MARK → List Int → Prop}
    (hx : x.length ≤ 12) (hc : Cls x cls) (hF : ∀ f ∈ x, Fok x.length f) (hL : bg x cls x.length ≤ 16384)
    (h : K cls 0 [] [] [] [] 0 code (stL x cls G x.length) (mpL x cls G x.length) [] (whL x cls G x.length)) :
    l9r55 K x (x.length : Int) 0 cls 0 [] [] [] [] (bgF x cls) (atL G (bg x cls x.length)) 0 code [] [] [] [] := by
  have hl := hc.len
  have hbl := bgF_len (x := x) (cls := cls)
  have hatl := atL_len (g := G) (n := bg x cls x.length)
  constructor
  intro I hI
  refine upInd (N := x.length) (M := fun i => I x (x.length : Int) (i : Int) cls 0 [] [] [] [] (bgF x cls) (atL G (bg x cls x.length)) 0 code (stL x cls G i) (mpL x cls G i) [] (whL x cls G i)) (hI _ _ _ _ _ _ _ _ _ _ _ _ _ _ _ _ _ (brDn (by omega) h)) (fun i hi ih => hI _ _ _ _ _ _ _ _ _ _ _ _ _ _ _ _ _ ?_) 0 (Nat.zero_le _)
  obtain ⟨g1, g2, g3⟩ := cls_call hc (fn := (i : Int)) (by omega) (by omega)
  rw [Int.toNat_natCast] at g1
  have hlt := bg_lt hF g3 g2
  have hwl := whL_len (x := x) (cls := cls) (G := G) (n := i)
  have e1 : (atL G (bg x cls x.length))[bg x cls (cl cls (i : Int))]? = some ((Ad G (bg x cls (cl cls (i : Int))) : Nat) : Int) := by rw [List.getElem?_eq_getElem (by omega), atL_get]
  refine brD (by omega) (needAt hi (brD (by omega) ?_))
  rw [Int.toNat_natCast]
  refine needS g1 (brD (by omega) ?_)
  rw [Int.toNat_natCast]
  refine needS (bgF_own g3 g2) (brD (by omega) ?_)
  rw [Int.toNat_natCast]
  refine needS e1 (brT (roomS (by omega)) (brD (by omega) (needS g1 (brN (fun e => ?_) fun e => ?_))))
  · have ho : ¬ ownF cls i = true := by
      rw [own_iff, g1]; intro q; exact e (Option.some.inj q)
    rw [stL_succ, if_neg ho, List.append_nil, mpL_succ, show mps x cls G i = [] by unfold mps; rw [if_neg ho], List.append_nil, whL_succ] at ih
    rw [wrapS (by omega)]
    exact ih
  · have ho : ownF cls i = true := own_iff.2 (by rw [g1, e])
    have hlt2 := bg_lt hF hi ho
    have hf := hF _ (List.getElem_mem hi)
    have e2 : (atL G (bg x cls x.length))[bg x cls i]? = some ((Ad G (bg x cls i) : Nat) : Int) := by rw [List.getElem?_eq_getElem (by omega), atL_get]
    have hsl := stL_len (x := x) (cls := cls) (G := G) i
    have hmpl := mpL_len (cls := cls) (G := G) hF i
    have hFi : F x i = x[i] := F_eq hi
    rw [hFi] at hlt2
    refine brD (by omega) (needS (bgF_own hi ho) (brD (by omega) ?_))
    rw [Int.toNat_natCast]
    refine needS e2 (brT rfl (brT (roomS (by omega)) (l9r61_ok hf hi hx ho (by omega) hL (by omega) ?_)))
    have hmm : (x[i].2.2.2.1.map (mkm G (bg x cls i) x[i])) = mps x cls G i := by unfold mps; rw [if_pos ho, hFi]
    rw [hmm, ← mpL_succ, wrapS (by omega), ← whL_succ]
    rw [stL_succ, if_pos ho] at ih
    exact ih

theorem c9_ok {x : List LF} {cls : List Int} {m : Int} {all : Bool} {k : Int → Bool → List Int → List Int → List Int → List MAP → List MARK → List Int → Prop}
    (hx : x.length ≤ 12) (hc : Cls x cls) (hF : ∀ f ∈ x, Fok x.length f) (h0 : 0 ≤ m) (hm : m < x.length)
    (h1 : 16384 < bg x cls x.length → k 0 false cls [] [] [] [] [])
    (h2 : bg x cls x.length ≤ 16384 → ∀ g, Best (JN x cls ((bg x cls (cl cls m) : Nat) : Int) x.length) g → 16384 < Ad (ls (JN x cls ((bg x cls (cl cls m) : Nat) : Int) x.length) all g) (bg x cls x.length) → k 0 false cls [] [] [] [] [])
    (h3 : bg x cls x.length ≤ 16384 → ∀ g, Best (JN x cls ((bg x cls (cl cls m) : Nat) : Int) x.length) g → Ad (ls (JN x cls ((bg x cls (cl cls m) : Nat) : Int) x.length) all g) (bg x cls x.length) ≤ 16384 → k 0 true cls
      (codeA x cls (ls (JN x cls ((bg x cls (cl cls m) : Nat) : Int) x.length) all g) (AD x cls x.length) (outs (JN x cls ((bg x cls (cl cls m) : Nat) : Int) x.length) (ls (JN x cls ((bg x cls (cl cls m) : Nat) : Int) x.length) all g) (bg x cls x.length)))
      (stL x cls (ls (JN x cls ((bg x cls (cl cls m) : Nat) : Int) x.length) all g) x.length) (mpL x cls (ls (JN x cls ((bg x cls (cl cls m) : Nat) : Int) x.length) all g) x.length) [] (whL x cls (ls (JN x cls ((bg x cls (cl cls m) : Nat) : Int) x.length) all g) x.length)) :
    c9 x m all cls k := by
  have hl := hc.len
  have hbl := bgF_len (x := x) (cls := cls)
  obtain ⟨g1, g2, g3⟩ := cls_call hc h0 hm
  have hlt := bg_lt hF g3 g2
  have hal := AD_len (cls := cls) hF x.length
  have hbgn := bg_le (cls := cls) hF x.length
  constructor
  unfold tc9
  refine brD (by omega) ?_
  rw [Int.toNat_natCast]
  refine l9r5_ok hx hc hF (brD (by omega) (needS g1 (brD (by omega) ?_)))
  rw [Int.toNat_natCast]
  refine needS (bgF_own g3 g2) (brD (by decide) (needS (v := ((20, 0, 0, 0, 0, ()), 0, ())) rfl (l9r14_ok (t := ((bg x cls (cl cls m) : Nat) : Int)) hx hc hF ?_)))
  generalize ht : ((bg x cls (cl cls m) : Nat) : Int) = t at *
  have hjl := JN_len (x := x) (cls := cls) (t := t) (i := x.length)
  have hie := JN_ies hc hF (t := t) (by omega) (by omega)
  refine brP (fun q => h1 (by omega)) fun q => c20_ok (by omega) (ies_bnd hie) fun g hB => ?_
  rw [wrapS (by omega), Int.toNat_natCast]
  have hgl := hB.len
  refine brD (by omega) (l9r39_ok (by omega) hgl ?_)
  rw [hjl]
  have hatl := atL_len (g := ls (JN x cls t x.length) all g) (n := bg x cls x.length)
  refine brD (by omega) ?_
  rw [Int.toNat_natCast]
  refine needNth (by omega) ?_
  rw [atL_get]
  have hof := outs_full (l := JN x cls t x.length) (G := ls (JN x cls t x.length) all g) (ls_len hgl) (bg x cls x.length) (by omega)
  refine brP (fun q2 => h2 (by omega) g hB (by omega)) fun q2 => c21_ok (by omega) hie hB ?_
  rw [hjl]
  exact l9r49_ok (by omega) (by omega) (by omega) (AD_pa hc hF hB) hof (l9r55_ok hx hc hF (by omega) (h3 (by omega) g hB (by omega)))
def fact : List LF := [(0, [((22, 0, 0, 0, 0, ()), (-1), ())], [], [], 1, ()), (0, [((22, 0, 0, 0, 0, ()), (-1), ())], [], [], 1, ())]
theorem c14_fact {k : Int → Prop} (h : k 0) : c14 [((22, 0, 0, 0, 0, ()), (-1), ())] k := by
  constructor
  refine brF (by decide) ?_
  constructor
  intro I hI
  apply hI
  refine brT (by decide) (needS rfl (brF (by decide) (c26_ok (brF (by decide) (brF (by decide) (brF (by decide) (brF (by decide) ?_)))))))
  apply hI
  exact brF (by decide) h
theorem c15_fact {k : Int → Prop} (h : k 0) : c15 (0, [((22, 0, 0, 0, 0, ()), (-1), ())], [], [], 1, ()) 2 k := by
  constructor
  constructor
  intro I hI
  apply hI
  refine brT (by decide) (needS rfl (brF (by decide) ?_))
  apply hI
  refine brF (by decide) ?_
  clear hI I
  constructor
  intro I hI
  apply hI
  refine brF (by decide) ?_
  clear hI I
  constructor
  intro I hI
  apply hI
  exact brF (by decide) h
theorem c6_fact {k : Int → Prop} (h : k 0) : c6 fact k := by
  constructor
  refine brF (by decide) ?_
  constructor
  intro I hI
  apply hI
  refine brT (by decide) (needS rfl (c14_fact (brF (by decide) (brF (by decide) (brF (by decide) (brF (by decide) (c15_fact (brF (by decide) ?_))))))))
  apply hI
  refine brT (by decide) (needS rfl (c14_fact (brF (by decide) (brF (by decide) (brF (by decide) (brF (by decide) (c15_fact (brF (by decide) ?_))))))))
  apply hI
  exact brF (by decide) h
theorem F_fact (i : Nat) (hi : i < 2) : F fact i = (0, [((22, 0, 0, 0, 0, ()), (-1), ())], [], [], 1, ()) := by
  rcases (by omega : i = 0 ∨ i = 1) with rfl | rfl <;> rfl
theorem c4_ok {k : Bool → Prop} (h : k true) : c4 k := by
  constructor
  refine c11_ok (x := fact) (e := 0) (by decide) (fun f hf => ?_) (fun _ j hj i hi => ?_) (fun k => c6_fact) (fun e => absurd rfl e) fun _ cls hc => ?_
  · have : f = (0, [((22, 0, 0, 0, 0, ()), (-1), ())], [], [], 1, ()) := by
      simp [fact] at hf; exact hf
    subst this
    exact ⟨by decide, by decide, by decide, fun m hm => by cases hm⟩
  · have h2 : j < 2 := hj
    rcases (by omega : j = 0 ∨ j = 1) with rfl | rfl <;> exact absurd hi (by simp [fact])
  · have hl := hc.len
    have hR : RC cls 0 1 := by
      refine hc.top (fun i j => i < 2 ∧ j < 2) (fun i j hij => ⟨hij.1, hij.2, ?_⟩) 0 1 (by omega)
      rw [F_fact i hij.1, F_fact j hij.2]
      exact ⟨rfl, rfl, rfl, rfl, fun i h1 => absurd h1 (by simp)⟩
    obtain ⟨v, hv, h1, _⟩ := hc.right 0 (by decide)
    have hv0 : v = 0 := by omega
    subst hv0
    have hcls : cls = [0, 0] := by
      have h2 : cls.length = 2 := hl
      match cls, h2 with
      | [a, b], _ =>
        have e1 : a = 0 := by simpa using hv
        have e2 : a = b := by simpa [RC] using hR
        subst e2; subst e1; rfl
    subst hcls
    exact brT rfl (c10_ok (by decide) (fun _ => h) fun e => absurd rfl e)

abbrev itT : Ty := .pair opT (.pair (.int .i64) .unit)
abbrev clT : Ty := .pair (.int .i64) (.pair (.int .i64) .unit)
abbrev mpT : Ty := .pair (.int .i64) (.pair .bool (.pair (.sl (.int .i64)) (.pair (.int .i64) .unit)))
abbrev lfT : Ty := .pair (.int .i64) (.pair (.sl itT) (.pair (.sl clT) (.pair (.sl mpT) (.pair (.int .i64) .unit))))
theorem good_lens {x : List LF} (h : Go.Abs.Good (.sl lfT) x) : ∀ f ∈ x, Lens f := fun f hf => by
  have h1 : Go.Abs.Good lfT f := h.2 f hf
  obtain ⟨_, h2, h3, h4, _⟩ := h1
  exact ⟨h2.1, h3.1, h4.1, fun m hm => (show Go.Abs.Good mpT m from h4.2 m hm).2.2.1.1⟩

theorem mpL_slots {x : List LF} {cls : List Int} {G : List Bool} (hz : Szm x) : ∀ m ∈ mpL x cls G x.length, m.2.2.1.length ≤ maxLen := by
  intro m hm
  have hmx : maxLen = 9223372036854775807 := rfl
  unfold mpL at hm
  obtain ⟨j, hj, hm⟩ := List.mem_flatMap.1 hm
  have hjl : j < x.length := List.mem_range.1 hj
  unfold mps at hm
  split at hm
  · obtain ⟨m', hm', rfl⟩ := List.mem_map.1 hm
    rw [F_eq hjl] at hm'
    have := hz _ (List.getElem_mem hjl) m' hm'
    show m'.2.2.1.length ≤ maxLen
    omega
  · cases hm
theorem l3r26_ok {mp : List MAP} {a : Int} {b c : List Int} {k1 : Bool → Prop} {k2 : Prop} (hl : mp.length ≤ 1000000) (hs : ∀ m ∈ mp, m.2.2.1.length ≤ maxLen) (h : k2) : l3r26 k1 k2 (mp.length : Int) 0 a b c mp [] mp := by
  constructor
  intro I hI
  refine upInd (N := mp.length) (M := fun i => I (mp.length : Int) (i : Int) a b c mp [] mp) (hI _ _ _ _ _ _ _ _ (brDn (by omega) h)) (fun i hi ih => hI _ _ _ _ _ _ _ _ ?_) 0 (Nat.zero_le _)
  rw [wrapS (by omega), Int.toNat_natCast]
  refine brD (by omega) (brD (by omega) (needNth hi (brD (by omega) (needNth hi (brF (by simp) (brF (by simp) (brF (by simp) (c10_ok (hs _ (List.getElem_mem hi)) (fun _ => brF rfl ih) fun e => absurd rfl e))))))))

theorem j3r18_err {x : List LF} {m e : Int} {lg : Bool} {cls : List Int} {k : Bool → Prop} (he : e ≠ 0) (h : k true) : j3r18 k x m lg e e cls 0 [] [] [] [] [] := by
  constructor
  exact brT (by simpa using he) (brT (by simp) h)
theorem j3r15_ok {x : List LF} {m : Int} {lg : Bool} {cls : List Int} {k : Bool → Prop} (hx : x.length ≤ 12) (hL : ∀ f ∈ x, Lens f) (hz : Szm x) (hc : lsErr x.length x = 0 → Cls x cls) (h : k true) : j3r15 k x m lg (lsErr x.length x) cls := by
  constructor
  refine c8_ok hx hL (fun e => brF (by simpa using e) (j3r18_err e h)) hc (fun e q => brT (by simpa using e) ?_) fun e q1 q2 => ?_
  · by_cases q1 : m < 0
    · exact brD q1 (j3r18_err (by decide) h)
    · exact brDn q1 (brD (by omega) (j3r18_err (by decide) h))
  have hc := hc e
  have hF : ∀ f ∈ x, Fok x.length f := fun f hf => fok_of (lsErr_ok e f hf)
  obtain ⟨g1, g2, g3⟩ := cls_call hc (fn := m) q1 q2
  have hlt := bg_lt hF g3 g2
  have hbgn := bg_le (cls := cls) hF x.length
  rw [e]
  refine c19_ok hx hc hF hz (Int.natCast_nonneg _) (by omega) (fun w1 => ?_) (fun w1 g hB w2 => ?_) fun w1 g hB w2 => ?_
  · refine brT rfl (brDn (by omega) (brDn (by omega) ⟨brF rfl (c9_ok hx hc hF q1 q2 (fun _ => brT rfl (brT rfl h)) (fun w => absurd w1 (by omega)) fun w => absurd w1 (by omega))⟩))
  · refine brT rfl (brDn (by omega) (brDn (by omega) ⟨brF rfl (c9_ok hx hc hF q1 q2 (fun _ => brT rfl (brT rfl h)) (fun _ g' hB' _ => brT rfl (brT rfl h)) fun _ g' hB' w3 => ?_)⟩))
    rw [best_eq hB' hB] at w3
    omega
  · refine brT rfl (brDn (by omega) (brDn (by omega) ⟨brF rfl (c9_ok hx hc hF q1 q2 (fun w => absurd w1 (by omega)) (fun _ g' hB' w3 => ?_) fun _ g' hB' w3 => ?_)⟩))
    · rw [best_eq hB' hB] at w3
      omega
    · rw [best_eq hB' hB]
      generalize hG : ls (JN x cls ((bg x cls (cl cls m) : Nat) : Int) x.length) lg g = G at w2 ⊢
      have hm : maxLen = 9223372036854775807 := rfl
      have hjl := JN_len (x := x) (cls := cls) (t := ((bg x cls (cl cls m) : Nat) : Int)) (i := x.length)
      have hcl := codeA_len (x := x) (cls := cls) (G := G) (ad := AD x cls x.length) (code := outs (JN x cls ((bg x cls (cl cls m) : Nat) : Int) x.length) G (bg x cls x.length))
      have hol := outs_len (l := JN x cls ((bg x cls (cl cls m) : Nat) : Int) x.length) (G := G) (bg x cls x.length)
      have hsl := stL_len (x := x) (cls := cls) (G := G) x.length
      have hwl := whL_len (x := x) (cls := cls) (G := G) (n := x.length)
      have hml := mpL_len (cls := cls) (G := G) hF x.length
      refine brF rfl (brF rfl (brF rfl (brF rfl ?_)))
      refine c10_ok (by omega) (fun _ => brF rfl (c10_ok (by omega) (fun _ => brF rfl (c10_ok (by omega) (fun _ => brF rfl (brF (by simp) ?_)) fun e => absurd rfl e)) fun e => absurd rfl e)) fun e => absurd rfl e
      exact l3r26_ok (by omega) (mpL_slots hz) h

def idL (n : Nat) : List Int := (List.range n).map fun i : Nat => (i : Int)
theorem idL_len {n : Nat} : (idL n).length = n := by simp [idL]
theorem idL_succ {n : Nat} : idL (n + 1) = idL n ++ [(n : Int)] := by unfold idL; rw [List.range_succ, List.map_append]; rfl
theorem idL_cls {x : List LF} : Cls x (idL x.length) := ⟨idL_len, fun i hi => ⟨i, Nat.le_refl _, by simp [idL, hi], by simp [idL, hi]⟩⟩
theorem l3r9_ok {x : List LF} {a b : Bool} {c d : Int} {K : List LF → Bool → Int → Bool → Int → List Int → Prop} (hx : x.length ≤ 12) (h : K x a c b d (idL x.length)) : l3r9 K x a c b d (x.length : Int) 0 [] := by
  constructor
  intro I hI
  refine upInd (N := x.length) (M := fun i => I x a c b d (x.length : Int) (i : Int) (idL i)) (hI _ _ _ _ _ _ _ _ (brDn (by omega) h)) (fun i hi ih => hI _ _ _ _ _ _ _ _ ?_) 0 (Nat.zero_le _)
  have := idL_len (n := i)
  rw [idL_succ] at ih
  rw [wrapS (by omega)]
  exact brD (by omega) (brT (roomS (by omega)) ih)

theorem law3 {x1 : List LF} {x2 : Bool} {x3 : Int} {x4 : Bool} {k : Bool → Prop} (hg : Go.Abs.Good (.sl lfT) x1 ∧ Go.Abs.Sz (.sl lfT) x1) (_ : Go.Abs.Good .bool x2 ∧ Go.Abs.Sz .bool x2) (_ : Go.Abs.Good (.int .i64) x3 ∧ Go.Abs.Sz (.int .i64) x3) (_ : Go.Abs.Good .bool x4 ∧ Go.Abs.Sz .bool x4) (h : k true) : c3 x1 x2 x3 x4 k := by
  obtain ⟨hg, hs⟩ := hg
  constructor
  unfold tc3
  refine c4_ok (brF rfl ?_)
  have hmin : minI ((x1.length : Nat) : Int) 12 = ((min x1.length 12 : Nat) : Int) := by unfold minI; split <;> omega
  rw [hmin, Int.toNat_natCast, List.drop_zero]
  refine brD (by omega) ?_
  have hmem : ∀ f ∈ x1.take (min x1.length 12), f ∈ x1 := fun f hf => List.mem_of_mem_take hf
  have hl : (x1.take (min x1.length 12)).length ≤ 12 := by rw [List.length_take]; omega
  have hlens : ∀ f ∈ x1.take (min x1.length 12), Lens f := fun f hf => good_lens hg f (hmem f hf)
  have hz : Szm (x1.take (min x1.length 12)) := fun f hf m hm => by
    have h1 : Go.Abs.Sz lfT f := hs.2 f (hmem f hf)
    obtain ⟨_, _, _, h4, _⟩ := h1
    have h5 : Go.Abs.Sz mpT m := h4.2 m hm
    obtain ⟨_, _, h6, _⟩ := h5
    have hb : Ty.bts (.int .i64) = 8 := rfl
    have h7 := h6.1
    rw [hb] at h7
    exact Nat.le_trans h7 (by decide)
  generalize x1.take (min x1.length 12) = x at hl hlens hz ⊢
  refine c5_ok hl hlens (c6_ok hl hlens (brF (by simp) (l3r9_ok hl (brB (fun _ => brE (fun e => ?_) fun e => ?_) fun _ => ?_))))
  · obtain ⟨cls, hc⟩ := fin_ex (x := x)
    have hF : ∀ f ∈ x, Fok x.length f := fun f hf => fok_of (lsErr_ok e f hf)
    refine c7_ok ⟨hl, fun j hj i hi _ => ?_, hlens⟩ hc (j3r15_ok hl hlens hz (fun _ => cls_of hc) h)
    have := (hF _ (List.getElem_mem hj)).cin i hi
    exact ⟨this.2.2.1, this.2.2.2.1⟩
  · exact j3r15_ok hl hlens hz (fun _ => idL_cls) h
  · exact j3r15_ok hl hlens hz (fun _ => idL_cls) h
end Go.Proofs.Ytmafnkmdnajicaa
