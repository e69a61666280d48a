/- Plain laws for what the lifter prints. -/
import Derived.Test.YteeigkbjjoedoaaASpec
set_option linter.unusedVariables false
namespace Go.Abs
theorem brT {b : Bool} {x y : Prop} (hb : b = true) (h : x) : br b x y := by subst hb; exact h
theorem brF {b : Bool} {x y : Prop} (hb : b = false) (h : y) : br b x y := by subst hb; exact h
theorem brA {b : Bool} {x y : Prop} (h1 : x) (h2 : y) : br b x y := by cases b; exact h2; exact h1
theorem br_true {x y : Prop} : br true x y = x := rfl
theorem br_false {x y : Prop} : br false x y = y := rfl
theorem brI {b : Bool} {x y : Prop} : br b x y ↔ (b = true → x) ∧ (b = false → y) := by cases b <;> simp [br]
theorem brP {p : Prop} [Decidable p] {x y : Prop} (h1 : p → x) (h2 : ¬p → y) : br (decide p) x y := by
  by_cases h : p
  · exact brT (decide_eq_true h) (h1 h)
  · exact brF (decide_eq_false h) (h2 h)
theorem brE {a b : Int} {x y : Prop} (h1 : a = b → x) (h2 : a ≠ b → y) : br (a == b) x y := by
  by_cases h : a = b
  · exact brT (beq_iff_eq.2 h) (h1 h)
  · exact brF (beq_eq_false_iff_ne.2 h) (h2 h)
theorem brN {a b : Int} {x y : Prop} (h1 : a ≠ b → x) (h2 : a = b → y) : br (a != b) x y := by
  by_cases h : a = b
  · exact brF (by simp [h]) (h2 h)
  · exact brT (by simp [h]) (h1 h)
theorem br_push {α : Type} {k : α → Prop} {b : Bool} {u v : α} : br b (k u) (k v) = k (br b u v) := by cases b <;> rfl
theorem needS {α : Type} {o : Option α} {v : α} {K : α → Prop} (h : o = some v) (hk : K v) : need False o K := by subst h; exact hk
theorem need_some {α : Type} {v : α} {K : α → Prop} : need False (some v) K = K v := rfl
theorem wrap64 {a : Int} (h1 : -9223372036854775808 ≤ a) (h2 : a ≤ 9223372036854775807) : IntKind.wrap .i64 a = a := by
  simp [IntKind.wrap, IntKind.signed, IntKind.bits]
  omega
theorem eqT_self : ∀ (t : Ty) (x : t.T), eqT t x x = true := by
  intro t
  have hs : ∀ {α : Type} (f : α → α → Bool), (∀ x, f x x = true) → ∀ l : List α, eqTs f l l = true := by
    intro α f hf l
    induction l with
    | nil => rfl
    | cons a r ih => simp [eqTs, hf, ih]
  induction t with
  | int k => intro x; exact beq_self_eq_true (α := Int) x
  | bool => intro x; exact beq_self_eq_true (α := Bool) x
  | str => intro x; exact beq_self_eq_true (α := List UInt8) x
  | opq z => intro x; rfl
  | sl e ih => intro x; exact hs _ ih x
  | pair a b iha ihb => intro x; simp only [eqT, iha, ihb]; rfl
  | unit => intro x; rfl
  | arr n e ih => intro x; exact hs _ ih x
theorem roomS {n b : Nat} (h : n * b ≤ 140737488355328) : roomB n b = true := decide_eq_true h
end Go.Abs

set_option linter.unusedVariables false
set_option linter.unusedSimpArgs false
namespace Go.Abs
theorem at?_nat {α : Type} {xs : List α} {i : Nat} : at? xs (i : Int) = xs[i]? := by
  unfold at?
  rw [if_pos (Int.natCast_nonneg i), Int.toNat_natCast]
theorem needAt {α : Type} {xs : List α} {i : Nat} {K : α → Prop} (h : i < xs.length) (hk : K xs[i]) : need False (at? xs (i : Int)) K := by
  rw [at?_nat, List.getElem?_eq_getElem h]; exact hk
theorem needAtI {α : Type} {xs : List α} {i : Int} {K : α → Prop} (h0 : 0 ≤ i) (h : i.toNat < xs.length) (hk : K xs[i.toNat]) : need False (at? xs i) K := by
  unfold at?
  rw [if_pos h0, List.getElem?_eq_getElem h]; exact hk
theorem needNth {α : Type} {xs : List α} {i : Nat} {K : α → Prop} (h : i < xs.length) (hk : K xs[i]) : need False xs[i]? K := by
  rw [List.getElem?_eq_getElem h]; exact hk
theorem wrapS {n : Nat} (h : n < 9223372036854775807) : IntKind.wrap .i64 ((n : Int) + 1) = ((n + 1 : Nat) : Int) := by
  rw [wrap64 (by omega) (by omega)]; rfl
theorem bnot_beq {a b : Bool} : (!(a == b)) = (a != b) := rfl
theorem brT' {b : Bool} {x y : Prop} (hb : b = true) : br b x y = x := by subst hb; rfl
theorem brF' {b : Bool} {x y : Prop} (hb : b = false) : br b x y = y := by subst hb; rfl
theorem br_ite {p : Prop} [Decidable p] {x y : Prop} : br (decide p) x y = if p then x else y := by
  by_cases h : p
  · rw [if_pos h, brT' (decide_eq_true h)]
  · rw [if_neg h, brF' (decide_eq_false h)]
theorem brD {p : Prop} [Decidable p] {x y : Prop} (hp : p) (h : x) : br (decide p) x y := brT (decide_eq_true hp) h
theorem brDn {p : Prop} [Decidable p] {x y : Prop} (hp : ¬p) (h : y) : br (decide p) x y := brF (decide_eq_false hp) h
theorem brB {b : Bool} {x y : Prop} (h1 : b = true → x) (h2 : b = false → y) : br b x y := by cases b; exact h2 rfl; exact h1 rfl
theorem upInd {N : Nat} {M : Nat → Prop} (hN : M N) (hs : ∀ i, i < N → M (i + 1) → M i) : ∀ i, i ≤ N → M i := by
  have key : ∀ n i, n + i = N → M i := by
    intro n
    induction n with
    | zero => intro i h; have : i = N := by omega
              subst this; exact hN
    | succ n ih => intro i h; exact hs i (by omega) (ih (i + 1) (by omega))
  intro i h
  exact key (N - i) i (by omega)
theorem midI {a b : Nat} (h : a + b < 9223372036854775808) : IntKind.wrap .i64 (shrI .u64 (IntKind.wrap .u64 (IntKind.wrap .i64 ((a : Int) + (b : Int)))) 1) = (((a + b) / 2 : Nat) : Int) := by
  rw [wrap64 (a := (a : Int) + (b : Int)) (by omega) (by omega)]
  have e : IntKind.wrap .u64 ((a : Int) + (b : Int)) = ((a + b : Nat) : Int) := by
    simp [IntKind.wrap, IntKind.signed, IntKind.bits]; omega
  rw [e]
  have e2 : shrI .u64 ((a + b : Nat) : Int) 1 = (((a + b) / 2 : Nat) : Int) := by
    unfold shrI
    have e3 : min ((1 : Int).toNat) (IntKind.bits .u64) = 1 := by decide
    rw [e3, Int.fdiv_eq_ediv_of_nonneg _ (by decide)]
    simp
  rw [e2, wrap64 (by omega) (by omega)]
theorem drop_cons {α : Type} {l : List α} {i : Nat} (h : i < l.length) : l.drop i = l[i] :: l.drop (i + 1) := List.drop_eq_getElem_cons h
end Go.Abs
