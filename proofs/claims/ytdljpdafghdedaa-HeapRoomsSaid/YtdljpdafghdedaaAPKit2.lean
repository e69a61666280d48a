/- More plain laws for what the lifter prints: places of lists, numbers. -/
import Derived.Test.YtdljpdafghdedaaAPKit
set_option linter.unusedVariables false
set_option linter.unusedSimpArgs false
namespace Go.Abs

theorem at?_nat {α : Type} {xs : List α} {i : Nat} : at? xs (i : Int) = xs[i]? := by
  unfold at?
  rw [if_pos (Int.natCast_nonneg i), Int.toNat_natCast]
theorem needAt {α : Type} {xs : List α} {i : Nat} {K : α → Prop} (h : i < xs.length) (hk : K xs[i]) : need False (at? xs (i : Int)) K := by
  rw [at?_nat, List.getElem?_eq_getElem h]; exact hk
theorem needAtI {α : Type} {xs : List α} {i : Int} {K : α → Prop} (h0 : 0 ≤ i) (h : i.toNat < xs.length) (hk : K xs[i.toNat]) : need False (at? xs i) K := by
  unfold at?
  rw [if_pos h0, List.getElem?_eq_getElem h]; exact hk
theorem needNth {α : Type} {xs : List α} {i : Nat} {K : α → Prop} (h : i < xs.length) (hk : K xs[i]) : need False xs[i]? K := by
  rw [List.getElem?_eq_getElem h]; exact hk
theorem wrapS {n : Nat} (h : n < 9223372036854775807) : IntKind.wrap .i64 ((n : Int) + 1) = ((n + 1 : Nat) : Int) := by
  rw [wrap64 (by omega) (by omega)]; rfl
theorem bnot_beq {a b : Bool} : (!(a == b)) = (a != b) := rfl
theorem brT' {b : Bool} {x y : Prop} (hb : b = true) : br b x y = x := by subst hb; rfl
theorem brF' {b : Bool} {x y : Prop} (hb : b = false) : br b x y = y := by subst hb; rfl
theorem br_ite {p : Prop} [Decidable p] {x y : Prop} : br (decide p) x y = if p then x else y := by
  by_cases h : p
  · rw [if_pos h, brT' (decide_eq_true h)]
  · rw [if_neg h, brF' (decide_eq_false h)]
theorem brD {p : Prop} [Decidable p] {x y : Prop} (hp : p) (h : x) : br (decide p) x y := brT (decide_eq_true hp) h
theorem brDn {p : Prop} [Decidable p] {x y : Prop} (hp : ¬p) (h : y) : br (decide p) x y := brF (decide_eq_false hp) h
/-- on both roads the same -/
theorem brB {b : Bool} {x y : Prop} (h1 : b = true → x) (h2 : b = false → y) : br b x y := by cases b; exact h2 rfl; exact h1 rfl
/-- rounds of a loop that counts up -/
theorem upInd {N : Nat} {M : Nat → Prop} (hN : M N) (hs : ∀ i, i < N → M (i + 1) → M i) : ∀ i, i ≤ N → M i := by
  have key : ∀ n i, n + i = N → M i := by
    intro n
    induction n with
    | zero => intro i h; have : i = N := by omega
              subst this; exact hN
    | succ n ih => intro i h; exact hs i (by omega) (ih (i + 1) (by omega))
  intro i h
  exact key (N - i) i (by omega)
/-- the middle of two places, as sort searches it -/
theorem midI {a b : Nat} (h : a + b < 9223372036854775808) : IntKind.wrap .i64 (shrI .u64 (IntKind.wrap .u64 (IntKind.wrap .i64 ((a : Int) + (b : Int)))) 1) = (((a + b) / 2 : Nat) : Int) := by
  rw [wrap64 (a := (a : Int) + (b : Int)) (by omega) (by omega)]
  have e : IntKind.wrap .u64 ((a : Int) + (b : Int)) = ((a + b : Nat) : Int) := by
    simp [IntKind.wrap, IntKind.signed, IntKind.bits]; omega
  rw [e]
  have e2 : shrI .u64 ((a + b : Nat) : Int) 1 = (((a + b) / 2 : Nat) : Int) := by
    unfold shrI
    have e3 : min ((1 : Int).toNat) (IntKind.bits .u64) = 1 := by decide
    rw [e3, Int.fdiv_eq_ediv_of_nonneg _ (by decide)]
    simp
  rw [e2, wrap64 (by omega) (by omega)]
theorem drop_cons {α : Type} {l : List α} {i : Nat} (h : i < l.length) : l.drop i = l[i] :: l.drop (i + 1) := List.drop_eq_getElem_cons h
end Go.Abs
