/- What the functions compute, as plain Lean (printed by a program). -/
import Derived.Test.YteeigkbjjoedoaaATypT
namespace Go.Proofs.Yteeigkbjjoedoaa
open Go.Abs
abbrev tFU := Int × (List ((List Int) × (List (Int × Int × Int × (List Int) × Unit)) × (Int × Int × Int × (List Int) × (List (Int × (List Int) × Unit)) × Unit) × Unit)) × Unit
abbrev tBK := (List Int) × (List (Int × Int × Int × (List Int) × Unit)) × (Int × Int × Int × (List Int) × (List (Int × (List Int) × Unit)) × Unit) × Unit
abbrev tTM := Int × Int × Int × (List Int) × (List (Int × (List Int) × Unit)) × Unit
abbrev tIN := Int × Int × Int × (List Int) × Unit
abbrev tED := Int × (List Int) × Unit
abbrev q0 := (Int × (Int × Int × Unit))
set_option linter.unusedVariables false
abbrev tab8 : List UInt8 := [0, 1, 2, 2, 3, 3, 3, 3, 4, 4, 4, 4, 4, 4, 4, 4, 5, 5, 5, 5, 5, 5, 5, 5, 5, 5, 5, 5, 5, 5, 5, 5, 6, 6, 6, 6, 6, 6, 6, 6, 6, 6, 6, 6, 6, 6, 6, 6, 6, 6, 6, 6, 6, 6, 6, 6, 6, 6, 6, 6, 6, 6, 6, 6, 7, 7, 7, 7, 7, 7, 7, 7, 7, 7, 7, 7, 7, 7, 7, 7, 7, 7, 7, 7, 7, 7, 7, 7, 7, 7, 7, 7, 7, 7, 7, 7, 7, 7, 7, 7, 7, 7, 7, 7, 7, 7, 7, 7, 7, 7, 7, 7, 7, 7, 7, 7, 7, 7, 7, 7, 7, 7, 7, 7, 7, 7, 7, 7, 8, 8, 8, 8, 8, 8, 8, 8, 8, 8, 8, 8, 8, 8, 8, 8, 8, 8, 8, 8, 8, 8, 8, 8, 8, 8, 8, 8, 8, 8, 8, 8, 8, 8, 8, 8, 8, 8, 8, 8, 8, 8, 8, 8, 8, 8, 8, 8, 8, 8, 8, 8, 8, 8, 8, 8, 8, 8, 8, 8, 8, 8, 8, 8, 8, 8, 8, 8, 8, 8, 8, 8, 8, 8, 8, 8, 8, 8, 8, 8, 8, 8, 8, 8, 8, 8, 8, 8, 8, 8, 8, 8, 8, 8, 8, 8, 8, 8, 8, 8, 8, 8, 8, 8, 8, 8, 8, 8, 8, 8, 8, 8, 8, 8, 8, 8, 8, 8, 8, 8, 8, 8, 8, 8, 8, 8, 8, 8]
def tc14 (k1 : Int → (List tBK) → Prop) : Prop :=
 k1 (-1) [([], [(1, 0, 1, [], ())], (2, 1, 0, [], [(1, [], ()), (2, [], ())], ()), ()), ([], [], (1, 0, 0, [], [(3, [], ())], ()), ()), ([], [], (1, 0, 0, [], [(3, [], ())], ()), ()), ([], [], (0, 1, 0, [], [], ()), ())]
structure c14 (k1 : Int → (List tBK) → Prop) : Prop where
 of : tc14 k1
def tl16r3 (k1 : Int → tFU → Prop) (s1 : Int) (s2 : List tBK) (s3 : Int) (s4 : Int) (s5 : tFU) : Prop :=
 ∀ (I1 : Int → (List tBK) → Int → Int → tFU → Prop),
 (∀ (s1 : Int) (s2 : List tBK) (s3 : Int) (s4 : Int) (s5 : tFU), (br (decide ((s4 : Int) < s3))
 (need False (at? s2 s4) fun y6 =>
 I1 (IntKind.wrap .i64 (s1 + (↑(List.length y6.2.1)))) s2 s3 (IntKind.wrap .i64 (s4 + 1)) s5)
 (k1 s1 s5)) → I1 s1 s2 s3 s4 s5) →
 I1 s1 s2 s3 s4 s5
structure l16r3 (k1 : Int → tFU → Prop) (s1 : Int) (s2 : List tBK) (s3 : Int) (s4 : Int) (s5 : tFU) : Prop where
 of : tl16r3 k1 s1 s2 s3 s4 s5
def tc26 (x1 : Int) (x2 : Int) (x3 : Int) (k1 : Bool → Prop) : Prop :=
 br (decide ((x1 : Int) ≥ x2))
 (k1 (decide ((x1 : Int) ≤ x3)))
 (k1 false)
structure c26 (x1 : Int) (x2 : Int) (x3 : Int) (k1 : Bool → Prop) : Prop where
 of : tc26 x1 x2 x3 k1
def tc36 (x1 : Int) (x2 : Int × Int × Unit) (x3 : tFU) (x4 : List q0) (k1 : Int → tFU → (List q0) → Prop) : Prop :=
 c26 x1 0 4095
 (fun z5 => br (!z5)
 (k1 4 x3 x4)
 (br (mhas x4 x1)
 (k1 7 x3 x4)
 (k1 0 x3 (mput x4 x1 x2))))
structure c36 (x1 : Int) (x2 : Int × Int × Unit) (x3 : tFU) (x4 : List q0) (k1 : Int → tFU → (List q0) → Prop) : Prop where
 of : tc36 x1 x2 x3 x4 k1
def tl27r3 (k1 : Int → tFU → (List q0) → Prop) (k2 : Int → tFU → (List q0) → tBK → Prop) (s1 : Int) (s2 : List Int) (s3 : Int) (s4 : Int) (s5 : tFU) (s6 : List q0) (s7 : tBK) : Prop :=
 ∀ (I1 : Int → (List Int) → Int → Int → tFU → (List q0) → tBK → Prop),
 (∀ (s1 : Int) (s2 : List Int) (s3 : Int) (s4 : Int) (s5 : tFU) (s6 : List q0) (s7 : tBK), (br (decide ((s4 : Int) < s3))
 (need False (at? s2 s4) fun y8 =>
 c36 y8 (s1, 0, ()) s5 s6
 (fun z9 z10 z11 => br ((z9 : Int) != 0)
 (k1 z9 z10 z11)
 (I1 s1 s2 s3 (IntKind.wrap .i64 (s4 + 1)) z10 z11 s7)))
 (k2 s1 s5 s6 s7)) → I1 s1 s2 s3 s4 s5 s6 s7) →
 I1 s1 s2 s3 s4 s5 s6 s7
structure l27r3 (k1 : Int → tFU → (List q0) → Prop) (k2 : Int → tFU → (List q0) → tBK → Prop) (s1 : Int) (s2 : List Int) (s3 : Int) (s4 : Int) (s5 : tFU) (s6 : List q0) (s7 : tBK) : Prop where
 of : tl27r3 k1 k2 s1 s2 s3 s4 s5 s6 s7
def tc56 (x1 : tIN) (k1 : Int → Bool → Prop) : Prop :=
 br ((x1.2.1 : Int) == 0)
 (k1 0 true)
 (br ((x1.2.1 : Int) == 1)
 (k1 2 true)
 (br ((x1.2.1 : Int) == 2)
 (k1 2 true)
 (br ((x1.2.1 : Int) == 3)
 (k1 2 true)
 (br ((x1.2.1 : Int) == 4)
 (k1 2 true)
 (br ((x1.2.1 : Int) == 5)
 (k1 2 true)
 (br ((x1.2.1 : Int) == 6)
 (k1 2 true)
 (br ((x1.2.1 : Int) == 7)
 (k1 2 true)
 (br ((x1.2.1 : Int) == 16)
 (k1 2 true)
 (br ((x1.2.1 : Int) == 18)
 (k1 2 true)
 (br ((x1.2.1 : Int) == 19)
 (k1 2 true)
 (br ((x1.2.1 : Int) == 21)
 (k1 2 true)
 (br ((x1.2.1 : Int) == 23)
 (k1 2 true)
 (br ((x1.2.1 : Int) == 20)
 (k1 3 true)
 (br ((x1.2.1 : Int) == 10)
 (k1 1 true)
 (br ((x1.2.1 : Int) == 11)
 (k1 1 true)
 (br ((x1.2.1 : Int) == 12)
 (k1 1 true)
 (br ((x1.2.1 : Int) == 15)
 (k1 1 true)
 (br ((x1.2.1 : Int) == 17)
 (k1 1 true)
 (br ((x1.2.1 : Int) == 24)
 (k1 1 true)
 (br ((x1.2.1 : Int) == 8)
 (k1 (-1) true)
 (br ((x1.2.1 : Int) == 9)
 (k1 (-1) true)
 (br ((x1.2.1 : Int) == 13)
 (k1 (-1) true)
 (br ((x1.2.1 : Int) == 14)
 (k1 (-1) true)
 (br ((x1.2.1 : Int) == 22)
 (br ((x1.2.2.1 : Int) == 2)
 (k1 x1.2.2.1 true)
 (k1 x1.2.2.1 ((x1.2.2.1 : Int) == 4)))
 (k1 0 false)))))))))))))))))))))))))
structure c56 (x1 : tIN) (k1 : Int → Bool → Prop) : Prop where
 of : tc56 x1 k1
def tc59 (x1 : Int) (k1 : Bool → Prop) : Prop :=
 c26 x1 (-1073741824) 1073741823
 (fun z2 => k1 z2)
structure c59 (x1 : Int) (k1 : Bool → Prop) : Prop where
 of : tc59 x1 k1
def tc57 (x1 : tIN) (k1 : Bool → Prop) : Prop :=
 br ((x1.2.1 : Int) == 0)
 (c59 x1.2.2.1
 (fun z2 => k1 z2))
 (br ((x1.2.1 : Int) == 8)
 (c26 x1.2.2.1 0 255
 (fun z3 => k1 z3))
 (br ((x1.2.1 : Int) == 11)
 (c26 x1.2.2.1 0 15
 (fun z4 => k1 z4))
 (br ((x1.2.1 : Int) == 9)
 (c26 x1.2.2.1 0 255
 (fun z5 => k1 z5))
 (br ((x1.2.1 : Int) == 13)
 (c26 x1.2.2.1 0 255
 (fun z6 => k1 z6))
 (br ((x1.2.1 : Int) == 23)
 (br ((x1.2.2.1 : Int) == 1)
 (k1 true)
 (br ((x1.2.2.1 : Int) == 2)
 (k1 true)
 (k1 ((x1.2.2.1 : Int) == 3))))
 (br ((x1.2.1 : Int) == 24)
 (c26 x1.2.2.1 0 3
 (fun z7 => k1 z7))
 (br ((x1.2.1 : Int) == 22)
 (k1 true)
 (k1 ((x1.2.2.1 : Int) == 0)))))))))
structure c57 (x1 : tIN) (k1 : Bool → Prop) : Prop where
 of : tc57 x1 k1
def tj37s5 (k1 : Int → Prop) (k2 : Prop) (s1 : Bool) (s2 : tIN) : Prop :=
 br (s1)
 (k1 2)
 (c57 s2
 (fun z3 => br (!z3)
 (k1 4)
 (k2)))
structure j37s5 (k1 : Int → Prop) (k2 : Prop) (s1 : Bool) (s2 : tIN) : Prop where
 of : tj37s5 k1 k2 s1 s2
def tj37s2 (k1 : Int → Prop) (k2 : Prop) (s1 : Bool) (s2 : tIN) : Prop :=
 br (s1)
 (k1 3)
 (br ((s2.2.1 : Int) == 8)
 (br (decide (((↑(List.length s2.2.2.2.1)) : Int) > 16))
 (j37s5
 (fun z3 => k1 z3)
 (k2)
 true s2)
 (br ((s2.2.1 : Int) == 13)
 (j37s5
 (fun z4 => k1 z4)
 (k2)
 (decide (((↑(List.length s2.2.2.2.1)) : Int) > 6)) s2)
 (br ((s2.2.1 : Int) == 14)
 (j37s5
 (fun z5 => k1 z5)
 (k2)
 (decide (((↑(List.length s2.2.2.2.1)) : Int) > 6)) s2)
 (j37s5
 (fun z6 => k1 z6)
 (k2)
 false s2))))
 (br ((s2.2.1 : Int) == 9)
 (br (decide (((↑(List.length s2.2.2.2.1)) : Int) > 16))
 (j37s5
 (fun z7 => k1 z7)
 (k2)
 true s2)
 (br ((s2.2.1 : Int) == 13)
 (j37s5
 (fun z8 => k1 z8)
 (k2)
 (decide (((↑(List.length s2.2.2.2.1)) : Int) > 6)) s2)
 (br ((s2.2.1 : Int) == 14)
 (j37s5
 (fun z9 => k1 z9)
 (k2)
 (decide (((↑(List.length s2.2.2.2.1)) : Int) > 6)) s2)
 (j37s5
 (fun z10 => k1 z10)
 (k2)
 false s2))))
 (br ((s2.2.1 : Int) == 13)
 (j37s5
 (fun z11 => k1 z11)
 (k2)
 (decide (((↑(List.length s2.2.2.2.1)) : Int) > 6)) s2)
 (br ((s2.2.1 : Int) == 14)
 (j37s5
 (fun z12 => k1 z12)
 (k2)
 (decide (((↑(List.length s2.2.2.2.1)) : Int) > 6)) s2)
 (j37s5
 (fun z13 => k1 z13)
 (k2)
 false s2)))))
structure j37s2 (k1 : Int → Prop) (k2 : Prop) (s1 : Bool) (s2 : tIN) : Prop where
 of : tj37s2 k1 k2 s1 s2
def tj37r9 (k1 : Int → Prop) : Prop :=
 k1 0
structure j37r9 (k1 : Int → Prop) : Prop where
 of : tj37r9 k1
def tc37 (x1 : tIN) (k1 : Int → Prop) : Prop :=
 c56 x1
 (fun z2 z3 => br (!z3)
 (j37s2
 (fun z4 => k1 z4)
 (j37r9
 (fun z5 => k1 z5)
 )
 true x1)
 (br (decide ((z2 : Int) ≥ 0))
 (br (((↑(List.length x1.2.2.2.1)) : Int) != z2)
 (j37s2
 (fun z6 => k1 z6)
 (j37r9
 (fun z7 => k1 z7)
 )
 true x1)
 (br ((x1.2.1 : Int) == 14)
 (j37s2
 (fun z8 => k1 z8)
 (j37r9
 (fun z9 => k1 z9)
 )
 (((↑(List.length x1.2.2.2.1)) : Int) == 0) x1)
 (j37s2
 (fun z10 => k1 z10)
 (j37r9
 (fun z11 => k1 z11)
 )
 false x1)))
 (br ((x1.2.1 : Int) == 14)
 (j37s2
 (fun z12 => k1 z12)
 (j37r9
 (fun z13 => k1 z13)
 )
 (((↑(List.length x1.2.2.2.1)) : Int) == 0) x1)
 (j37s2
 (fun z14 => k1 z14)
 (j37r9
 (fun z15 => k1 z15)
 )
 false x1))))
structure c37 (x1 : tIN) (k1 : Int → Prop) : Prop where
 of : tc37 x1 k1
def tl27r10 (k1 : Int → tFU → (List q0) → Prop) (k2 : tFU → (List q0) → tBK → Prop) (s1 : Int) (s2 : List tIN) (s3 : Int) (s4 : Int) (s5 : tFU) (s6 : List q0) (s7 : tBK) : Prop :=
 ∀ (I1 : Int → (List tIN) → Int → Int → tFU → (List q0) → tBK → Prop),
 (∀ (s1 : Int) (s2 : List tIN) (s3 : Int) (s4 : Int) (s5 : tFU) (s6 : List q0) (s7 : tBK), (br (decide ((s4 : Int) < s3))
 (need False (at? s2 s4) fun y8 =>
 c36 y8.1 (s1, (IntKind.wrap .i64 (s4 + 1)), ()) s5 s6
 (fun z9 z10 z11 => br ((z9 : Int) != 0)
 (k1 z9 z10 z11)
 (c37 y8
 (fun z12 => br ((z12 : Int) != 0)
 (k1 z12 z10 z11)
 (I1 s1 s2 s3 (IntKind.wrap .i64 (s4 + 1)) z10 z11 s7)))))
 (k2 s5 s6 s7)) → I1 s1 s2 s3 s4 s5 s6 s7) →
 I1 s1 s2 s3 s4 s5 s6 s7
structure l27r10 (k1 : Int → tFU → (List q0) → Prop) (k2 : tFU → (List q0) → tBK → Prop) (s1 : Int) (s2 : List tIN) (s3 : Int) (s4 : Int) (s5 : tFU) (s6 : List q0) (s7 : tBK) : Prop where
 of : tl27r10 k1 k2 s1 s2 s3 s4 s5 s6 s7
def tj58r14 (k1 : Bool → Prop) (s1 : Int) (s2 : Bool) (s3 : Bool) (s4 : Bool) (s5 : tTM) : Prop :=
 br (((↑(List.length s5.2.2.2.2.1)) : Int) == s1)
 (br (s2)
 (br (s3)
 (br (s4)
 (k1 true)
 (k1 (((↑(List.length s5.2.2.2.1)) : Int) == 0)))
 (br ((s5.2.2.1 : Int) == 0)
 (br (s4)
 (k1 true)
 (k1 (((↑(List.length s5.2.2.2.1)) : Int) == 0)))
 (k1 false)))
 (br ((s5.2.1 : Int) == 0)
 (br (s3)
 (br (s4)
 (k1 true)
 (k1 (((↑(List.length s5.2.2.2.1)) : Int) == 0)))
 (br ((s5.2.2.1 : Int) == 0)
 (br (s4)
 (k1 true)
 (k1 (((↑(List.length s5.2.2.2.1)) : Int) == 0)))
 (k1 false)))
 (k1 false)))
 (k1 false)
structure j58r14 (k1 : Bool → Prop) (s1 : Int) (s2 : Bool) (s3 : Bool) (s4 : Bool) (s5 : tTM) : Prop where
 of : tj58r14 k1 s1 s2 s3 s4 s5
def tc58 (x1 : tTM) (k1 : Bool → Prop) : Prop :=
 br ((x1.1 : Int) == 0)
 (j58r14
 (fun z2 => k1 z2)
 0 true false false x1)
 (br ((x1.1 : Int) == 1)
 (j58r14
 (fun z3 => k1 z3)
 1 false false false x1)
 (br ((x1.1 : Int) == 2)
 (j58r14
 (fun z4 => k1 z4)
 2 true false false x1)
 (br ((x1.1 : Int) == 3)
 (j58r14
 (fun z5 => k1 z5)
 (IntKind.wrap .i64 ((↑(List.length x1.2.2.2.1)) + 1)) true false true x1)
 (br ((x1.1 : Int) == 4)
 (j58r14
 (fun z6 => k1 z6)
 0 false true false x1)
 (k1 false)))))
structure c58 (x1 : tTM) (k1 : Bool → Prop) : Prop where
 of : tc58 x1 k1
def tl69r2 (k1 : Int → Prop) (k2 : Prop) (s1 : List Int) (s2 : Int) (s3 : Int) (s4 : Int) : Prop :=
 ∀ (I1 : (List Int) → Int → Int → Int → Prop),
 (∀ (s1 : List Int) (s2 : Int) (s3 : Int) (s4 : Int), (br (decide ((s4 : Int) < s3))
 (need False (at? s1 s4) fun y5 =>
 br ((s2 : Int) == y5)
 (k1 s4)
 (I1 s1 s2 s3 (IntKind.wrap .i64 (s4 + 1))))
 (k2)) → I1 s1 s2 s3 s4) →
 I1 s1 s2 s3 s4
structure l69r2 (k1 : Int → Prop) (k2 : Prop) (s1 : List Int) (s2 : Int) (s3 : Int) (s4 : Int) : Prop where
 of : tl69r2 k1 k2 s1 s2 s3 s4
def tc69 (x1 : List Int) (x2 : Int) (k1 : Int → Prop) : Prop :=
 l69r2
 (fun z3 => k1 z3)
 (k1 (-1))
 x1 x2 (↑(List.length x1)) 0
structure c69 (x1 : List Int) (x2 : Int) (k1 : Int → Prop) : Prop where
 of : tc69 x1 x2 k1
def tc60 (x1 : List Int) (x2 : Int) (k1 : Bool → Prop) : Prop :=
 c69 x1 x2
 (fun z3 => k1 (decide ((z3 : Int) ≥ 0)))
structure c60 (x1 : List Int) (x2 : Int) (k1 : Bool → Prop) : Prop where
 of : tc60 x1 x2 k1
def tl38r8 (k1 : Int → Prop) (k2 : tFU → tTM → Prop) (s1 : List Int) (s2 : Int) (s3 : Int) (s4 : tFU) (s5 : tTM) : Prop :=
 ∀ (I1 : (List Int) → Int → Int → tFU → tTM → Prop),
 (∀ (s1 : List Int) (s2 : Int) (s3 : Int) (s4 : tFU) (s5 : tTM), (br (decide ((s3 : Int) < s2))
 (need False (at? s1 s3) fun y6 =>
 c59 y6
 (fun z7 => br (!z7)
 (k1 4)
 (br (decide ((0 : Int) ≤ 0 ∧ (0 : Int) ≤ s3 ∧ (s3 : Int) ≤ (↑(List.length s5.2.2.2.1))))
 (c60 (List.drop 0 (List.take (Int.toNat s3) s5.2.2.2.1)) y6
 (fun z8 => br (z8)
 (k1 7)
 (I1 s1 s2 (IntKind.wrap .i64 (s3 + 1)) s4 s5)))
 False)))
 (k2 s4 s5)) → I1 s1 s2 s3 s4 s5) →
 I1 s1 s2 s3 s4 s5
structure l38r8 (k1 : Int → Prop) (k2 : tFU → tTM → Prop) (s1 : List Int) (s2 : Int) (s3 : Int) (s4 : tFU) (s5 : tTM) : Prop where
 of : tl38r8 k1 k2 s1 s2 s3 s4 s5
def tl38r16 (k1 : Int → Prop) (k2 : Prop) (s1 : List tED) (s2 : Int) (s3 : Int) (s4 : tFU) : Prop :=
 ∀ (I1 : (List tED) → Int → Int → tFU → Prop),
 (∀ (s1 : List tED) (s2 : Int) (s3 : Int) (s4 : tFU), (br (decide ((s3 : Int) < s2))
 (need False (at? s1 s3) fun y5 =>
 c26 y5.1 1 (IntKind.wrap .i64 ((↑(List.length s4.2.1)) - 1))
 (fun z6 => br (!z6)
 (k1 4)
 (need False (at? s4.2.1 y5.1) fun y7 =>
 (br (true && true)
 (br (eqT (.sl (.pair (.sl (.int .i64)) (.pair (.sl (.pair (.int .i64) (.pair (.int .i64) (.pair (.int .i64) (.pair (.sl (.int .i64)) .unit))))) (.pair (.pair (.int .i64) (.pair (.int .i64) (.pair (.int .i64) (.pair (.sl (.int .i64)) (.pair (.sl (.pair (.int .i64) (.pair (.sl (.int .i64)) .unit))) .unit))))) .unit)))) s4.2.1 s4.2.1)
 (br (true && true)
 (br (eqT (.int .i64) y5.1 y5.1)
 (need False (at? s4.2.1 y5.1) fun y8 =>
 br (eqT (.pair (.sl (.int .i64)) (.pair (.sl (.pair (.int .i64) (.pair (.int .i64) (.pair (.int .i64) (.pair (.sl (.int .i64)) .unit))))) (.pair (.pair (.int .i64) (.pair (.int .i64) (.pair (.int .i64) (.pair (.sl (.int .i64)) (.pair (.sl (.pair (.int .i64) (.pair (.sl (.int .i64)) .unit))) .unit))))) .unit))) y7 y8)
 (br (eqT (.sl (.int .i64)) y7.1 y7.1)
 (br (eqT (.int .i64) (((List.length y5.2.1) : Nat) : Int) (((List.length y5.2.1) : Nat) : Int))
 (br (((↑(List.length y5.2.1)) : Int) != (↑(List.length y7.1)))
 (k1 3)
 (I1 s1 s2 (IntKind.wrap .i64 (s3 + 1)) s4))
 False)
 False)
 False)
 False)
 False)
 False)
 False) ∧
 (br (true && true)
 (br (eqT (.int .i64) (((List.length y7.1) : Nat) : Int) (((List.length y7.1) : Nat) : Int))
 (br (((↑(List.length y5.2.1)) : Int) != (↑(List.length y7.1)))
 (k1 3)
 (I1 s1 s2 (IntKind.wrap .i64 (s3 + 1)) s4))
 False)
 False))))
 (k2)) → I1 s1 s2 s3 s4) →
 I1 s1 s2 s3 s4
structure l38r16 (k1 : Int → Prop) (k2 : Prop) (s1 : List tED) (s2 : Int) (s3 : Int) (s4 : tFU) : Prop where
 of : tl38r16 k1 k2 s1 s2 s3 s4
def tc38 (x1 : tFU) (x2 : tTM) (k1 : Int → Prop) : Prop :=
 c58 x2
 (fun z3 => br (!z3)
 (k1 3)
 (br (decide (((↑(List.length x2.2.2.2.1)) : Int) > 256))
 (k1 2)
 (br ((x2.1 : Int) == 4)
 (c26 x2.2.2.1 1 6
 (fun z4 => br (!z4)
 (k1 4)
 (l38r8
 (fun z5 => k1 z5)
 (fun z6 z7 => l38r16
 (fun z8 => k1 z8)
 (k1 0)
 z7.2.2.2.2.1 (↑(List.length z7.2.2.2.2.1)) 0 z6)
 x2.2.2.2.1 (↑(List.length x2.2.2.2.1)) 0 x1 x2)))
 (l38r8
 (fun z9 => k1 z9)
 (fun z10 z11 => l38r16
 (fun z12 => k1 z12)
 (k1 0)
 z11.2.2.2.2.1 (↑(List.length z11.2.2.2.2.1)) 0 z10)
 x2.2.2.2.1 (↑(List.length x2.2.2.2.1)) 0 x1 x2))))
structure c38 (x1 : tFU) (x2 : tTM) (k1 : Int → Prop) : Prop where
 of : tc38 x1 x2 k1
def tc27 (x1 : Int) (x2 : tFU) (x3 : List q0) (k1 : Int → tFU → (List q0) → Prop) : Prop :=
 need False (at? x2.2.1 x1) fun y4 =>
 l27r3
 (fun z5 z6 z7 => k1 z5 z6 z7)
 (fun z8 z9 z10 z11 => l27r10
 (fun z12 z13 z14 => k1 z12 z13 z14)
 (fun z15 z16 z17 => c38 z15 z17.2.2.1
 (fun z18 => k1 z18 z15 z16))
 z8 z11.2.1 (↑(List.length z11.2.1)) 0 z9 z10 z11)
 x1 y4.1 (↑(List.length y4.1)) 0 x2 x3 y4
structure c27 (x1 : Int) (x2 : tFU) (x3 : List q0) (k1 : Int → tFU → (List q0) → Prop) : Prop where
 of : tc27 x1 x2 x3 k1
def tl16r15 (k1 : Int → Prop) (k2 : tFU → (List q0) → Prop) (s1 : Int) (s2 : Int) (s3 : tFU) (s4 : List q0) : Prop :=
 ∀ (I1 : Int → Int → tFU → (List q0) → Prop),
 (∀ (s1 : Int) (s2 : Int) (s3 : tFU) (s4 : List q0), (br (decide ((s2 : Int) < s1))
 (c27 s2 s3 s4
 (fun z5 z6 z7 => br ((z5 : Int) != 0)
 (k1 z5)
 (I1 s1 (IntKind.wrap .i64 (s2 + 1)) z6 z7)))
 (k2 s3 s4)) → I1 s1 s2 s3 s4) →
 I1 s1 s2 s3 s4
structure l16r15 (k1 : Int → Prop) (k2 : tFU → (List q0) → Prop) (s1 : Int) (s2 : Int) (s3 : tFU) (s4 : List q0) : Prop where
 of : tl16r15 k1 k2 s1 s2 s3 s4
def tc61 (x1 : List Int) (x2 : Int) (k1 : (List Int) → Prop) : Prop :=
 br (decide ((0 : Int) ≤ (IntKind.wrap .i64 (Int.tdiv x2 64)) ∧ ((IntKind.wrap .i64 (Int.tdiv x2 64)) : Int) < 2))
 (need False (x1)[(Int.toNat (IntKind.wrap .i64 (Int.tdiv x2 64)))]? fun y3 =>
 br (decide (((Int.tmod x2 64) : Int) < 0))
 False
 (br (decide ((0 : Int) ≤ (IntKind.wrap .i64 (Int.tdiv x2 64)) ∧ ((IntKind.wrap .i64 (Int.tdiv x2 64)) : Int) < 2))
 (need False (x1)[(Int.toNat (IntKind.wrap .i64 (Int.tdiv x2 64)))]? fun y4 =>
 k1 (List.set x1 (Int.toNat (IntKind.wrap .i64 (Int.tdiv x2 64))) (bitop .or .u64 y3 (shlI .u64 1 (Int.tmod x2 64)))))
 False))
 False
structure c61 (x1 : List Int) (x2 : Int) (k1 : (List Int) → Prop) : Prop where
 of : tc61 x1 x2 k1
def tl39r3 (k1 : tFU → (List Int) → (List Int) → Prop) (s1 : Int) (s2 : Int) (s3 : tFU) (s4 : List Int) (s5 : List Int) : Prop :=
 ∀ (I1 : Int → Int → tFU → (List Int) → (List Int) → Prop),
 (∀ (s1 : Int) (s2 : Int) (s3 : tFU) (s4 : List Int) (s5 : List Int), (br (decide ((s2 : Int) < s1))
 (c61 s5 s2
 (fun z6 => I1 s1 (IntKind.wrap .i64 (s2 + 1)) s3 s4 z6))
 (k1 s3 s4 s5)) → I1 s1 s2 s3 s4 s5) →
 I1 s1 s2 s3 s4 s5
structure l39r3 (k1 : tFU → (List Int) → (List Int) → Prop) (s1 : Int) (s2 : Int) (s3 : tFU) (s4 : List Int) (s5 : List Int) : Prop where
 of : tl39r3 k1 s1 s2 s3 s4 s5
def tl39r9 (k1 : tFU → (List Int) → (List (List Int)) → Prop) (s1 : Int) (s2 : Int) (s3 : tFU) (s4 : List Int) (s5 : List Int) (s6 : List (List Int)) : Prop :=
 ∀ (I1 : Int → Int → tFU → (List Int) → (List Int) → (List (List Int)) → Prop),
 (∀ (s1 : Int) (s2 : Int) (s3 : tFU) (s4 : List Int) (s5 : List Int) (s6 : List (List Int)), (br (decide ((s2 : Int) < s1))
 (br (decide ((0 : Int) ≤ s2 ∧ (s2 : Int) < (↑(List.length s6))))
 (need False (s6)[(Int.toNat s2)]? fun y7 =>
 I1 s1 (IntKind.wrap .i64 (s2 + 1)) s3 s4 s5 (List.set s6 (Int.toNat s2) s5))
 False)
 (k1 s3 s4 s6)) → I1 s1 s2 s3 s4 s5 s6) →
 I1 s1 s2 s3 s4 s5 s6
structure l39r9 (k1 : tFU → (List Int) → (List (List Int)) → Prop) (s1 : Int) (s2 : Int) (s3 : tFU) (s4 : List Int) (s5 : List Int) (s6 : List (List Int)) : Prop where
 of : tl39r9 k1 s1 s2 s3 s4 s5 s6
def tc41 (x1 : List Int) (x2 : Int) (k1 : Bool → Prop) : Prop :=
 br (decide ((0 : Int) ≤ (IntKind.wrap .i64 (Int.tdiv x2 64)) ∧ ((IntKind.wrap .i64 (Int.tdiv x2 64)) : Int) < 2))
 (need False (x1)[(Int.toNat (IntKind.wrap .i64 (Int.tdiv x2 64)))]? fun y3 =>
 br (decide (((Int.tmod x2 64) : Int) < 0))
 False
 (k1 (((bitop .and .u64 (shrI .u64 y3 (Int.tmod x2 64)) 1) : Int) == 1)))
 False
structure c41 (x1 : List Int) (x2 : Int) (k1 : Bool → Prop) : Prop where
 of : tc41 x1 x2 k1
def tc62 (x1 : List Int) (x2 : List Int) (k1 : (List Int) → Prop) : Prop :=
 need False (x1)[0]? fun y3 =>
 need False (x2)[0]? fun y4 =>
 need False (x1)[1]? fun y5 =>
 need False (x2)[1]? fun y6 =>
 k1 [(bitop .and .u64 y3 y4), (bitop .and .u64 y5 y6)]
structure c62 (x1 : List Int) (x2 : List Int) (k1 : (List Int) → Prop) : Prop where
 of : tc62 x1 x2 k1
def tj39r26 (k1 : Bool → Int → (List tBK) → Int → Int → (List tED) → Int → Int → tFU → (List Int) → (List (List Int)) → (List Int) → Prop) (s1 : Bool) (s2 : Int) (s3 : List tBK) (s4 : Int) (s5 : Int) (s6 : List tED) (s7 : Int) (s8 : Int) (s9 : tFU) (s10 : List Int) (s11 : List (List Int)) (s12 : List Int) (s13 : tED) (s14 : List Int) : Prop :=
 br (decide ((0 : Int) ≤ s13.1 ∧ (s13.1 : Int) < (↑(List.length s11))))
 (need False (s11)[(Int.toNat s13.1)]? fun y15 =>
 br (!(eqT (.arr 2 (.int .u64)) s14 y15))
 (c61 s12 s13.1
 (fun z16 => br (true && true)
 (br (eqT (.int .i64) s13.1 s13.1)
 (br (eqT (.arr 2 (.int .u64)) s14 s14)
 (br (decide ((0 : Int) ≤ s13.1 ∧ (s13.1 : Int) < (↑(List.length s11))))
 (need False (s11)[(Int.toNat s13.1)]? fun y17 =>
 k1 true s2 s3 s4 s5 s6 s7 s8 s9 s10 (List.set s11 (Int.toNat s13.1) s14) z16)
 False)
 False)
 False)
 False))
 (c41 s12 s13.1
 (fun z18 => br (!z18)
 (c61 s12 s13.1
 (fun z19 => br (true && true)
 (br (eqT (.int .i64) s13.1 s13.1)
 (br (eqT (.arr 2 (.int .u64)) s14 s14)
 (br (decide ((0 : Int) ≤ s13.1 ∧ (s13.1 : Int) < (↑(List.length s11))))
 (need False (s11)[(Int.toNat s13.1)]? fun y20 =>
 k1 true s2 s3 s4 s5 s6 s7 s8 s9 s10 (List.set s11 (Int.toNat s13.1) s14) z19)
 False)
 False)
 False)
 False))
 (k1 s1 s2 s3 s4 s5 s6 s7 s8 s9 s10 s11 s12))))
 False
structure j39r26 (k1 : Bool → Int → (List tBK) → Int → Int → (List tED) → Int → Int → tFU → (List Int) → (List (List Int)) → (List Int) → Prop) (s1 : Bool) (s2 : Int) (s3 : List tBK) (s4 : Int) (s5 : Int) (s6 : List tED) (s7 : Int) (s8 : Int) (s9 : tFU) (s10 : List Int) (s11 : List (List Int)) (s12 : List Int) (s13 : tED) (s14 : List Int) : Prop where
 of : tj39r26 k1 s1 s2 s3 s4 s5 s6 s7 s8 s9 s10 s11 s12 s13 s14
def tl39r23 (k1 : Bool → (List tBK) → Int → Int → tFU → (List Int) → (List (List Int)) → (List Int) → Prop) (s1 : Bool) (s2 : Int) (s3 : List tBK) (s4 : Int) (s5 : Int) (s6 : List tED) (s7 : Int) (s8 : Int) (s9 : tFU) (s10 : List Int) (s11 : List (List Int)) (s12 : List Int) : Prop :=
 ∀ (I1 : Bool → Int → (List tBK) → Int → Int → (List tED) → Int → Int → tFU → (List Int) → (List (List Int)) → (List Int) → Prop),
 (∀ (s1 : Bool) (s2 : Int) (s3 : List tBK) (s4 : Int) (s5 : Int) (s6 : List tED) (s7 : Int) (s8 : Int) (s9 : tFU) (s10 : List Int) (s11 : List (List Int)) (s12 : List Int), (br (decide ((s8 : Int) < s7))
 (need False (at? s6 s8) fun y13 =>
 br (decide ((0 : Int) ≤ y13.1 ∧ (y13.1 : Int) < (↑(List.length s11))))
 (need False (s11)[(Int.toNat y13.1)]? fun y14 =>
 br (decide ((0 : Int) ≤ s2 ∧ (s2 : Int) < (↑(List.length s11))))
 (need False (s11)[(Int.toNat s2)]? fun y15 =>
 (c62 y14 y15
 (fun z16 => br (true && true)
 (br (eqT (.int .i64) y13.1 y13.1)
 ((c61 z16 y13.1
 (fun z17 => j39r26
 (fun z18 z19 z20 z21 z22 z23 z24 z25 z26 z27 z28 z29 => I1 z18 z19 z20 z21 z22 z23 z24 (IntKind.wrap .i64 (z25 + 1)) z26 z27 z28 z29)
 s1 s2 s3 s4 s5 s6 s7 s8 s9 s10 s11 s12 y13 z17)) ∧
 (br (true && true)
 (br (eqT (.int .i64) y13.1 y13.1)
 (c61 z16 y13.1
 (fun z30 => j39r26
 (fun z31 z32 z33 z34 z35 z36 z37 z38 z39 z40 z41 z42 => I1 z31 z32 z33 z34 z35 z36 z37 (IntKind.wrap .i64 (z38 + 1)) z39 z40 z41 z42)
 s1 s2 s3 s4 s5 s6 s7 s8 s9 s10 s11 s12 y13 z30))
 False)
 False))
 False)
 False)) ∧
 (br (true && true)
 (br (eqT (.int .i64) y13.1 y13.1)
 (br (decide ((0 : Int) ≤ y13.1 ∧ (y13.1 : Int) < (↑(List.length s11))))
 (br ((decide ((Int.toNat y13.1) = (Int.toNat y13.1))) && true)
 (need False (s11)[(Int.toNat y13.1)]? fun y43 =>
 br (eqT (.arr 2 (.int .u64)) y14 y43)
 (br (eqT (.int .i64) s2 s2)
 (br (decide ((0 : Int) ≤ s2 ∧ (s2 : Int) < (↑(List.length s11))))
 (br ((decide ((Int.toNat s2) = (Int.toNat s2))) && true)
 (need False (s11)[(Int.toNat s2)]? fun y44 =>
 br (eqT (.arr 2 (.int .u64)) y15 y44)
 (br (true && true)
 (br (eqT (.int .i64) y13.1 y13.1)
 (c62 y14 y15
 (fun z45 => br (true && true)
 (br (eqT (.int .i64) y13.1 y13.1)
 (c61 z45 y13.1
 (fun z46 => j39r26
 (fun z47 z48 z49 z50 z51 z52 z53 z54 z55 z56 z57 z58 => I1 z47 z48 z49 z50 z51 z52 z53 (IntKind.wrap .i64 (z54 + 1)) z55 z56 z57 z58)
 s1 s2 s3 s4 s5 s6 s7 s8 s9 s10 s11 s12 y13 z46))
 False)
 False))
 False)
 False)
 False)
 False)
 False)
 False)
 False)
 False)
 False)
 False)
 False))
 False)
 False)
 (k1 s1 s3 s4 s5 s9 s10 s11 s12)) → I1 s1 s2 s3 s4 s5 s6 s7 s8 s9 s10 s11 s12) →
 I1 s1 s2 s3 s4 s5 s6 s7 s8 s9 s10 s11 s12
structure l39r23 (k1 : Bool → (List tBK) → Int → Int → tFU → (List Int) → (List (List Int)) → (List Int) → Prop) (s1 : Bool) (s2 : Int) (s3 : List tBK) (s4 : Int) (s5 : Int) (s6 : List tED) (s7 : Int) (s8 : Int) (s9 : tFU) (s10 : List Int) (s11 : List (List Int)) (s12 : List Int) : Prop where
 of : tl39r23 k1 s1 s2 s3 s4 s5 s6 s7 s8 s9 s10 s11 s12
def tl39r19 (k1 : Bool → tFU → (List Int) → (List (List Int)) → (List Int) → Prop) (s1 : Bool) (s2 : List tBK) (s3 : Int) (s4 : Int) (s5 : tFU) (s6 : List Int) (s7 : List (List Int)) (s8 : List Int) : Prop :=
 ∀ (I1 : Bool → (List tBK) → Int → Int → tFU → (List Int) → (List (List Int)) → (List Int) → Prop),
 (∀ (s1 : Bool) (s2 : List tBK) (s3 : Int) (s4 : Int) (s5 : tFU) (s6 : List Int) (s7 : List (List Int)) (s8 : List Int), (br (decide ((s4 : Int) < s3))
 (need False (at? s2 s4) fun y9 =>
 c41 s8 s4
 (fun z10 => br (!z10)
 (I1 s1 s2 s3 (IntKind.wrap .i64 (s4 + 1)) s5 s6 s7 s8)
 (l39r23
 (fun z11 z12 z13 z14 z15 z16 z17 z18 => I1 z11 z12 z13 (IntKind.wrap .i64 (z14 + 1)) z15 z16 z17 z18)
 s1 s4 s2 s3 s4 y9.2.2.1.2.2.2.2.1 (↑(List.length y9.2.2.1.2.2.2.2.1)) 0 s5 s6 s7 s8)))
 (k1 s1 s5 s6 s7 s8)) → I1 s1 s2 s3 s4 s5 s6 s7 s8) →
 I1 s1 s2 s3 s4 s5 s6 s7 s8
structure l39r19 (k1 : Bool → tFU → (List Int) → (List (List Int)) → (List Int) → Prop) (s1 : Bool) (s2 : List tBK) (s3 : Int) (s4 : Int) (s5 : tFU) (s6 : List Int) (s7 : List (List Int)) (s8 : List Int) : Prop where
 of : tl39r19 k1 s1 s2 s3 s4 s5 s6 s7 s8
def tl39r16 (k1 : (List Int) → (List (List Int)) → (List Int) → Prop) (s1 : Bool) (s2 : tFU) (s3 : List Int) (s4 : List (List Int)) (s5 : List Int) : Prop :=
 ∀ (I1 : Bool → tFU → (List Int) → (List (List Int)) → (List Int) → Prop),
 (∀ (s1 : Bool) (s2 : tFU) (s3 : List Int) (s4 : List (List Int)) (s5 : List Int), (br (s1)
 (l39r19
 (fun z6 z7 z8 z9 z10 => I1 z6 z7 z8 z9 z10)
 false s2.2.1 (↑(List.length s2.2.1)) 0 s2 s3 s4 s5)
 (k1 s3 s4 s5)) → I1 s1 s2 s3 s4 s5) →
 I1 s1 s2 s3 s4 s5
structure l39r16 (k1 : (List Int) → (List (List Int)) → (List Int) → Prop) (s1 : Bool) (s2 : tFU) (s3 : List Int) (s4 : List (List Int)) (s5 : List Int) : Prop where
 of : tl39r16 k1 s1 s2 s3 s4 s5
def tc39 (x1 : tFU) (k1 : (List Int) → (List (List Int)) → Prop) : Prop :=
 l39r3
 (fun z2 z3 z4 => br (decide ((0 : Int) ≤ (↑(List.length z2.2.1)) ∧ ((↑(List.length z2.2.1)) : Int) ≤ (↑(List.length z2.2.1)) ∧ (((↑(List.length z2.2.1)) * 16) : Int) ≤ 140737488355328))
 (l39r9
 (fun z5 z6 z7 => c61 [0, 0] 0
 (fun z8 => br (decide ((0 : Int) ≤ 0 ∧ (0 : Int) < (↑(List.length z7))))
 (need False (z7)[0]? fun y9 =>
 c61 [0, 0] 0
 (fun z10 => l39r16
 (fun z11 z12 z13 => k1 z13 z12)
 true z5 z6 (List.set z7 0 z8) z10))
 False))
 (↑(List.length (List.replicate (Int.toNat (↑(List.length z2.2.1))) ([0, 0] : List (Int))))) 0 z2 z3 z4 (List.replicate (Int.toNat (↑(List.length z2.2.1))) ([0, 0] : List (Int))))
 False)
 (↑(List.length x1.2.1)) 0 x1 [0, 0] [0, 0]
structure c39 (x1 : tFU) (k1 : (List Int) → (List (List Int)) → Prop) : Prop where
 of : tc39 x1 k1
def tc40 (x1 : Int) (x2 : tFU) (x3 : List q0) (x4 : Int) (x5 : Int) (x6 : List (List Int)) (x7 : List Int) (k1 : Bool → tFU → (List q0) → Int → Int → (List (List Int)) → (List Int) → Prop) : Prop :=
 br (mhas x3 x1)
 (br (((mval (0, 0, ()) x3 x1).1 : Int) == x4)
 (br (decide (((mval (0, 0, ()) x3 x1).2.1 : Int) ≤ x5))
 (k1 true x2 x3 x4 x5 x6 x7)
 (br (((mval (0, 0, ()) x3 x1).1 : Int) != x4)
 (br (decide ((0 : Int) ≤ x4 ∧ (x4 : Int) < (↑(List.length x6))))
 (need False (x6)[(Int.toNat x4)]? fun y8 =>
 c41 y8 (mval (0, 0, ()) x3 x1).1
 (fun z9 => br (z9)
 (k1 true x2 x3 x4 x5 x6 x7)
 (c41 x7 x4
 (fun z10 => k1 (!z10) x2 x3 x4 x5 x6 x7))))
 False)
 (c41 x7 x4
 (fun z11 => k1 (!z11) x2 x3 x4 x5 x6 x7))))
 (br (((mval (0, 0, ()) x3 x1).1 : Int) != x4)
 (br (decide ((0 : Int) ≤ x4 ∧ (x4 : Int) < (↑(List.length x6))))
 (need False (x6)[(Int.toNat x4)]? fun y12 =>
 c41 y12 (mval (0, 0, ()) x3 x1).1
 (fun z13 => br (z13)
 (k1 true x2 x3 x4 x5 x6 x7)
 (c41 x7 x4
 (fun z14 => k1 (!z14) x2 x3 x4 x5 x6 x7))))
 False)
 (c41 x7 x4
 (fun z15 => k1 (!z15) x2 x3 x4 x5 x6 x7))))
 (k1 false x2 x3 x4 x5 x6 x7)
structure c40 (x1 : Int) (x2 : tFU) (x3 : List q0) (x4 : Int) (x5 : Int) (x6 : List (List Int)) (x7 : List Int) (k1 : Bool → tFU → (List q0) → Int → Int → (List (List Int)) → (List Int) → Prop) : Prop where
 of : tc40 x1 x2 x3 x4 x5 x6 x7 k1
def tl28r12 (k1 : Int → tFU → (List q0) → Prop) (k2 : (List tBK) → Int → Int → (List tIN) → Int → Int → tFU → (List q0) → (List (List Int)) → (List Int) → tBK → Int → Int → Prop) (s1 : List tBK) (s2 : Int) (s3 : Int) (s4 : List tIN) (s5 : Int) (s6 : Int) (s7 : List Int) (s8 : Int) (s9 : Int) (s10 : tFU) (s11 : List q0) (s12 : List (List Int)) (s13 : List Int) (s14 : tBK) (s15 : Int) (s16 : Int) : Prop :=
 ∀ (I1 : (List tBK) → Int → Int → (List tIN) → Int → Int → (List Int) → Int → Int → tFU → (List q0) → (List (List Int)) → (List Int) → tBK → Int → Int → Prop),
 (∀ (s1 : List tBK) (s2 : Int) (s3 : Int) (s4 : List tIN) (s5 : Int) (s6 : Int) (s7 : List Int) (s8 : Int) (s9 : Int) (s10 : tFU) (s11 : List q0) (s12 : List (List Int)) (s13 : List Int) (s14 : tBK) (s15 : Int) (s16 : Int), (br (decide ((s9 : Int) < s8))
 (need False (at? s7 s9) fun y17 =>
 c40 y17 s10 s11 s16 s15 s12 s13
 (fun z18 z19 z20 z21 z22 z23 z24 => br (!z18)
 (k1 6 z19 z20)
 (I1 s1 s2 s3 s4 s5 s6 s7 s8 (IntKind.wrap .i64 (s9 + 1)) z19 z20 z23 z24 s14 z22 z21)))
 (k2 s1 s2 s3 s4 s5 s6 s10 s11 s12 s13 s14 s15 s16)) → I1 s1 s2 s3 s4 s5 s6 s7 s8 s9 s10 s11 s12 s13 s14 s15 s16) →
 I1 s1 s2 s3 s4 s5 s6 s7 s8 s9 s10 s11 s12 s13 s14 s15 s16
structure l28r12 (k1 : Int → tFU → (List q0) → Prop) (k2 : (List tBK) → Int → Int → (List tIN) → Int → Int → tFU → (List q0) → (List (List Int)) → (List Int) → tBK → Int → Int → Prop) (s1 : List tBK) (s2 : Int) (s3 : Int) (s4 : List tIN) (s5 : Int) (s6 : Int) (s7 : List Int) (s8 : Int) (s9 : Int) (s10 : tFU) (s11 : List q0) (s12 : List (List Int)) (s13 : List Int) (s14 : tBK) (s15 : Int) (s16 : Int) : Prop where
 of : tl28r12 k1 k2 s1 s2 s3 s4 s5 s6 s7 s8 s9 s10 s11 s12 s13 s14 s15 s16
def tl28r8 (k1 : Int → tFU → (List q0) → Prop) (k2 : (List tBK) → Int → Int → tFU → (List q0) → (List (List Int)) → (List Int) → tBK → Int → Int → Prop) (s1 : List tBK) (s2 : Int) (s3 : Int) (s4 : List tIN) (s5 : Int) (s6 : Int) (s7 : tFU) (s8 : List q0) (s9 : List (List Int)) (s10 : List Int) (s11 : tBK) (s12 : Int) (s13 : Int) : Prop :=
 ∀ (I1 : (List tBK) → Int → Int → (List tIN) → Int → Int → tFU → (List q0) → (List (List Int)) → (List Int) → tBK → Int → Int → Prop),
 (∀ (s1 : List tBK) (s2 : Int) (s3 : Int) (s4 : List tIN) (s5 : Int) (s6 : Int) (s7 : tFU) (s8 : List q0) (s9 : List (List Int)) (s10 : List Int) (s11 : tBK) (s12 : Int) (s13 : Int), (br (decide ((s6 : Int) < s5))
 (need False (at? s4 s6) fun y14 =>
 l28r12
 (fun z15 z16 z17 => k1 z15 z16 z17)
 (fun z18 z19 z20 z21 z22 z23 z24 z25 z26 z27 z28 z29 z30 => I1 z18 z19 z20 z21 z22 (IntKind.wrap .i64 (z23 + 1)) z24 z25 z26 z27 z28 z29 z30)
 s1 s2 s3 s4 s5 s6 y14.2.2.2.1 (↑(List.length y14.2.2.2.1)) 0 s7 s8 s9 s10 s11 s6 s13)
 (k2 s1 s2 s3 s7 s8 s9 s10 s11 s12 s13)) → I1 s1 s2 s3 s4 s5 s6 s7 s8 s9 s10 s11 s12 s13) →
 I1 s1 s2 s3 s4 s5 s6 s7 s8 s9 s10 s11 s12 s13
structure l28r8 (k1 : Int → tFU → (List q0) → Prop) (k2 : (List tBK) → Int → Int → tFU → (List q0) → (List (List Int)) → (List Int) → tBK → Int → Int → Prop) (s1 : List tBK) (s2 : Int) (s3 : Int) (s4 : List tIN) (s5 : Int) (s6 : Int) (s7 : tFU) (s8 : List q0) (s9 : List (List Int)) (s10 : List Int) (s11 : tBK) (s12 : Int) (s13 : Int) : Prop where
 of : tl28r8 k1 k2 s1 s2 s3 s4 s5 s6 s7 s8 s9 s10 s11 s12 s13
def tl42r7 (k1 : Bool → tFU → (List q0) → Int → Int → (List (List Int)) → (List Int) → Prop) (k2 : (List tED) → Int → Int → tFU → (List q0) → Int → Int → (List (List Int)) → (List Int) → Prop) (s1 : List tED) (s2 : Int) (s3 : Int) (s4 : List Int) (s5 : Int) (s6 : Int) (s7 : tFU) (s8 : List q0) (s9 : Int) (s10 : Int) (s11 : List (List Int)) (s12 : List Int) : Prop :=
 ∀ (I1 : (List tED) → Int → Int → (List Int) → Int → Int → tFU → (List q0) → Int → Int → (List (List Int)) → (List Int) → Prop),
 (∀ (s1 : List tED) (s2 : Int) (s3 : Int) (s4 : List Int) (s5 : Int) (s6 : Int) (s7 : tFU) (s8 : List q0) (s9 : Int) (s10 : Int) (s11 : List (List Int)) (s12 : List Int), (br (decide ((s6 : Int) < s5))
 (need False (at? s4 s6) fun y13 =>
 c40 y13 s7 s8 s9 s10 s11 s12
 (fun z14 z15 z16 z17 z18 z19 z20 => br (!z14)
 (k1 false z15 z16 z17 z18 z19 z20)
 (I1 s1 s2 s3 s4 s5 (IntKind.wrap .i64 (s6 + 1)) z15 z16 z17 z18 z19 z20)))
 (k2 s1 s2 s3 s7 s8 s9 s10 s11 s12)) → I1 s1 s2 s3 s4 s5 s6 s7 s8 s9 s10 s11 s12) →
 I1 s1 s2 s3 s4 s5 s6 s7 s8 s9 s10 s11 s12
structure l42r7 (k1 : Bool → tFU → (List q0) → Int → Int → (List (List Int)) → (List Int) → Prop) (k2 : (List tED) → Int → Int → tFU → (List q0) → Int → Int → (List (List Int)) → (List Int) → Prop) (s1 : List tED) (s2 : Int) (s3 : Int) (s4 : List Int) (s5 : Int) (s6 : Int) (s7 : tFU) (s8 : List q0) (s9 : Int) (s10 : Int) (s11 : List (List Int)) (s12 : List Int) : Prop where
 of : tl42r7 k1 k2 s1 s2 s3 s4 s5 s6 s7 s8 s9 s10 s11 s12
def tl42r4 (k1 : Bool → tFU → (List q0) → Int → Int → (List (List Int)) → (List Int) → Prop) (k2 : tFU → (List q0) → Int → Int → (List (List Int)) → (List Int) → Prop) (s1 : List tED) (s2 : Int) (s3 : Int) (s4 : tFU) (s5 : List q0) (s6 : Int) (s7 : Int) (s8 : List (List Int)) (s9 : List Int) : Prop :=
 ∀ (I1 : (List tED) → Int → Int → tFU → (List q0) → Int → Int → (List (List Int)) → (List Int) → Prop),
 (∀ (s1 : List tED) (s2 : Int) (s3 : Int) (s4 : tFU) (s5 : List q0) (s6 : Int) (s7 : Int) (s8 : List (List Int)) (s9 : List Int), (br (decide ((s3 : Int) < s2))
 (need False (at? s1 s3) fun y10 =>
 l42r7
 (fun z11 z12 z13 z14 z15 z16 z17 => k1 z11 z12 z13 z14 z15 z16 z17)
 (fun z18 z19 z20 z21 z22 z23 z24 z25 z26 => I1 z18 z19 (IntKind.wrap .i64 (z20 + 1)) z21 z22 z23 z24 z25 z26)
 s1 s2 s3 y10.2.1 (↑(List.length y10.2.1)) 0 s4 s5 s6 s7 s8 s9)
 (k2 s4 s5 s6 s7 s8 s9)) → I1 s1 s2 s3 s4 s5 s6 s7 s8 s9) →
 I1 s1 s2 s3 s4 s5 s6 s7 s8 s9
structure l42r4 (k1 : Bool → tFU → (List q0) → Int → Int → (List (List Int)) → (List Int) → Prop) (k2 : tFU → (List q0) → Int → Int → (List (List Int)) → (List Int) → Prop) (s1 : List tED) (s2 : Int) (s3 : Int) (s4 : tFU) (s5 : List q0) (s6 : Int) (s7 : Int) (s8 : List (List Int)) (s9 : List Int) : Prop where
 of : tl42r4 k1 k2 s1 s2 s3 s4 s5 s6 s7 s8 s9
def tc42 (x1 : tTM) (x2 : tFU) (x3 : List q0) (x4 : Int) (x5 : Int) (x6 : List (List Int)) (x7 : List Int) (k1 : Bool → tFU → (List q0) → Int → Int → (List (List Int)) → (List Int) → Prop) : Prop :=
 br ((x1.1 : Int) != 1)
 (br ((x1.1 : Int) != 4)
 (c40 x1.2.1 x2 x3 x4 x5 x6 x7
 (fun z8 z9 z10 z11 z12 z13 z14 => br (!z8)
 (k1 false z9 z10 z11 z12 z13 z14)
 (l42r4
 (fun z15 z16 z17 z18 z19 z20 z21 => k1 z15 z16 z17 z18 z19 z20 z21)
 (fun z22 z23 z24 z25 z26 z27 => k1 true z22 z23 z24 z25 z26 z27)
 x1.2.2.2.2.1 (↑(List.length x1.2.2.2.2.1)) 0 z9 z10 z11 z12 z13 z14)))
 (l42r4
 (fun z28 z29 z30 z31 z32 z33 z34 => k1 z28 z29 z30 z31 z32 z33 z34)
 (fun z35 z36 z37 z38 z39 z40 => k1 true z35 z36 z37 z38 z39 z40)
 x1.2.2.2.2.1 (↑(List.length x1.2.2.2.2.1)) 0 x2 x3 x4 x5 x6 x7))
 (l42r4
 (fun z41 z42 z43 z44 z45 z46 z47 => k1 z41 z42 z43 z44 z45 z46 z47)
 (fun z48 z49 z50 z51 z52 z53 => k1 true z48 z49 z50 z51 z52 z53)
 x1.2.2.2.2.1 (↑(List.length x1.2.2.2.2.1)) 0 x2 x3 x4 x5 x6 x7)
structure c42 (x1 : tTM) (x2 : tFU) (x3 : List q0) (x4 : Int) (x5 : Int) (x6 : List (List Int)) (x7 : List Int) (k1 : Bool → tFU → (List q0) → Int → Int → (List (List Int)) → (List Int) → Prop) : Prop where
 of : tc42 x1 x2 x3 x4 x5 x6 x7 k1
def tl28r3 (k1 : Int → tFU → (List q0) → Prop) (k2 : tFU → (List q0) → Prop) (s1 : List tBK) (s2 : Int) (s3 : Int) (s4 : tFU) (s5 : List q0) (s6 : List (List Int)) (s7 : List Int) : Prop :=
 ∀ (I1 : (List tBK) → Int → Int → tFU → (List q0) → (List (List Int)) → (List Int) → Prop),
 (∀ (s1 : List tBK) (s2 : Int) (s3 : Int) (s4 : tFU) (s5 : List q0) (s6 : List (List Int)) (s7 : List Int), (br (decide ((s3 : Int) < s2))
 (need False (at? s1 s3) fun y8 =>
 l28r8
 (fun z9 z10 z11 => k1 z9 z10 z11)
 (fun z12 z13 z14 z15 z16 z17 z18 z19 z20 z21 => c42 z19.2.2.1 z15 z16 z21 (↑(List.length z19.2.1)) z17 z18
 (fun z22 z23 z24 z25 z26 z27 z28 => br (!z22)
 (k1 6 z23 z24)
 (I1 z12 z13 (IntKind.wrap .i64 (z14 + 1)) z23 z24 z27 z28)))
 s1 s2 s3 y8.2.1 (↑(List.length y8.2.1)) 0 s4 s5 s6 s7 y8 0 s3)
 (k2 s4 s5)) → I1 s1 s2 s3 s4 s5 s6 s7) →
 I1 s1 s2 s3 s4 s5 s6 s7
structure l28r3 (k1 : Int → tFU → (List q0) → Prop) (k2 : tFU → (List q0) → Prop) (s1 : List tBK) (s2 : Int) (s3 : Int) (s4 : tFU) (s5 : List q0) (s6 : List (List Int)) (s7 : List Int) : Prop where
 of : tl28r3 k1 k2 s1 s2 s3 s4 s5 s6 s7
def tc28 (x1 : tFU) (x2 : List q0) (k1 : Int → tFU → (List q0) → Prop) : Prop :=
 c39 x1
 (fun z3 z4 => l28r3
 (fun z5 z6 z7 => k1 z5 z6 z7)
 (fun z8 z9 => k1 0 z8 z9)
 x1.2.1 (↑(List.length x1.2.1)) 0 x1 x2 z4 z3)
structure c28 (x1 : tFU) (x2 : List q0) (k1 : Int → tFU → (List q0) → Prop) : Prop where
 of : tc28 x1 x2 k1
def tc16 (x1 : tFU) (k1 : Int → Prop) : Prop :=
 l16r3
 (fun z2 z3 => br (((↑(List.length z3.2.1)) : Int) == 0)
 (k1 3)
 (br (decide (((↑(List.length z3.2.1)) : Int) > 128))
 (k1 2)
 (br (decide ((z2 : Int) > 1024))
 (k1 2)
 (need False (at? z3.2.1 0) fun y4 =>
 br (decide (((↑(List.length y4.1)) : Int) > 6))
 (k1 2)
 (c26 z3.1 (-1) 1048575
 (fun z5 => br (!z5)
 (k1 4)
 (l16r15
 (fun z6 => k1 z6)
 (fun z7 z8 => c28 z7 z8
 (fun z9 z10 z11 => k1 z9))
 (↑(List.length z3.2.1)) 0 z3 [])))))))
 0 x1.2.1 (↑(List.length x1.2.1)) 0 x1
structure c16 (x1 : tFU) (k1 : Int → Prop) : Prop where
 of : tc16 x1 k1
def tc19 (x1 : Int) (x2 : List Int) (k1 : (List Int) → Prop) : Prop :=
 br (roomB ((List.length x2) + 1) 8)
 (k1 (x2 ++ [x1]))
 False
structure c19 (x1 : Int) (x2 : List Int) (k1 : (List Int) → Prop) : Prop where
 of : tc19 x1 x2 k1
def tl18r4 (k1 : (List Int) → Prop) (k2 : (List Int) → Prop) (s1 : List Int) (s2 : tFU) (s3 : List Bool) (s4 : List (Int × Int × Unit)) : Prop :=
 ∀ (I1 : (List Int) → tFU → (List Bool) → (List (Int × Int × Unit)) → Prop) (I2 : Nat → Nat → Nat → (List Int) → tFU → (List Bool) → (List (Int × Int × Unit)) → Prop) (I3 : (List Int) → tFU → (List Bool) → (List (Int × Int × Unit)) → Prop),
 (∀ (s1 : List Int) (s2 : tFU) (s3 : List Bool) (s4 : List (Int × Int × Unit)), (br (decide (((↑(List.length s4)) : Int) > 0))
 (br (decide ((0 : Int) ≤ (IntKind.wrap .i64 ((↑(List.length s4)) - 1)) ∧ ((IntKind.wrap .i64 ((↑(List.length s4)) - 1)) : Int) < (↑(List.length s4))))
 (need False (s4)[(Int.toNat (IntKind.wrap .i64 ((↑(List.length s4)) - 1)))]? fun y5 =>
 need False (at? s2.2.1 y5.1) fun y6 =>
 need False (s4)[(Int.toNat (IntKind.wrap .i64 ((↑(List.length s4)) - 1)))]? fun y7 =>
 br ((y7.2.1 : Int) == (↑(List.length y6.2.2.1.2.2.2.2.1)))
 (need False (s4)[(Int.toNat (IntKind.wrap .i64 ((↑(List.length s4)) - 1)))]? fun y8 =>
 c19 y8.1 s1
 (fun z9 => br (decide ((0 : Int) ≤ 0 ∧ (0 : Int) ≤ (IntKind.wrap .i64 ((↑(List.length s4)) - 1)) ∧ ((IntKind.wrap .i64 ((↑(List.length s4)) - 1)) : Int) ≤ (↑(List.length s4)) ∧ ((↑(List.length s4)) : Int) ≤ (↑(List.length s4))))
 (I2 0 (Int.toNat ((IntKind.wrap .i64 ((↑(List.length s4)) - 1)) - 0)) (Int.toNat ((↑(List.length s4)) - 0)) z9 s2 s3 s4)
 False))
 (need False (s4)[(Int.toNat (IntKind.wrap .i64 ((↑(List.length s4)) - 1)))]? fun y10 =>
 need False (at? y6.2.2.1.2.2.2.2.1 y10.2.1) fun y11 =>
 need False (s4)[(Int.toNat (IntKind.wrap .i64 ((↑(List.length s4)) - 1)))]? fun y12 =>
 need False (s4)[(Int.toNat (IntKind.wrap .i64 ((↑(List.length s4)) - 1)))]? fun y13 =>
 br (decide ((0 : Int) ≤ y11.1 ∧ (y11.1 : Int) < (↑(List.length s3))))
 (need False (s3)[(Int.toNat y11.1)]? fun y14 =>
 br (!y14)
 (br (decide ((0 : Int) ≤ y11.1 ∧ (y11.1 : Int) < (↑(List.length s3))))
 (need False (s3)[(Int.toNat y11.1)]? fun y15 =>
 br (roomB ((List.length (List.set s4 (Int.toNat (IntKind.wrap .i64 ((↑(List.length s4)) - 1))) (y13.1, (IntKind.wrap .i64 (y12.2.1 + 1)), y13.2.2))) + 1) 16)
 (I1 s1 s2 (List.set s3 (Int.toNat y11.1) true) ((List.set s4 (Int.toNat (IntKind.wrap .i64 ((↑(List.length s4)) - 1))) (y13.1, (IntKind.wrap .i64 (y12.2.1 + 1)), y13.2.2)) ++ [(y11.1, 0, ())]))
 False)
 False)
 (I1 s1 s2 s3 (List.set s4 (Int.toNat (IntKind.wrap .i64 ((↑(List.length s4)) - 1))) (y13.1, (IntKind.wrap .i64 (y12.2.1 + 1)), y13.2.2))))
 False))
 False)
 (k1 s1)) → I1 s1 s2 s3 s4) →
 (∀ (s16 : Nat) (s17 : Nat) (s18 : Nat) (s19 : List Int) (s20 : tFU) (s21 : List Bool) (s22 : List (Int × Int × Unit)), (br (decide ((((s17 : Nat) : Int) : Int) > 0))
 (br (decide ((0 : Int) ≤ (IntKind.wrap .i64 (((s17 : Nat) : Int) - 1)) ∧ ((IntKind.wrap .i64 (((s17 : Nat) : Int) - 1)) : Int) < ((s17 : Nat) : Int)))
 (need False (s22)[(s16 + (Int.toNat (IntKind.wrap .i64 (((s17 : Nat) : Int) - 1))))]? fun y23 =>
 need False (at? s20.2.1 y23.1) fun y24 =>
 need False (s22)[(s16 + (Int.toNat (IntKind.wrap .i64 (((s17 : Nat) : Int) - 1))))]? fun y25 =>
 br ((y25.2.1 : Int) == (↑(List.length y24.2.2.1.2.2.2.2.1)))
 (need False (s22)[(s16 + (Int.toNat (IntKind.wrap .i64 (((s17 : Nat) : Int) - 1))))]? fun y26 =>
 c19 y26.1 s19
 (fun z27 => br (decide ((0 : Int) ≤ 0 ∧ (0 : Int) ≤ (IntKind.wrap .i64 (((s17 : Nat) : Int) - 1)) ∧ ((IntKind.wrap .i64 (((s17 : Nat) : Int) - 1)) : Int) ≤ ((s18 : Nat) : Int) ∧ (((s18 : Nat) : Int) : Int) ≤ ((s18 : Nat) : Int)))
 (I2 (s16 + 0) (Int.toNat ((IntKind.wrap .i64 (((s17 : Nat) : Int) - 1)) - 0)) (Int.toNat (((s18 : Nat) : Int) - 0)) z27 s20 s21 s22)
 False))
 (need False (s22)[(s16 + (Int.toNat (IntKind.wrap .i64 (((s17 : Nat) : Int) - 1))))]? fun y28 =>
 need False (at? y24.2.2.1.2.2.2.2.1 y28.2.1) fun y29 =>
 need False (s22)[(s16 + (Int.toNat (IntKind.wrap .i64 (((s17 : Nat) : Int) - 1))))]? fun y30 =>
 need False (s22)[(s16 + (Int.toNat (IntKind.wrap .i64 (((s17 : Nat) : Int) - 1))))]? fun y31 =>
 br (decide ((0 : Int) ≤ y29.1 ∧ (y29.1 : Int) < (↑(List.length s21))))
 (need False (s21)[(Int.toNat y29.1)]? fun y32 =>
 br (!y32)
 (br (decide ((0 : Int) ≤ y29.1 ∧ (y29.1 : Int) < (↑(List.length s21))))
 (need False (s21)[(Int.toNat y29.1)]? fun y33 =>
 br (decide ((s17 + 1) ≤ s18))
 (I2 s16 (s17 + 1) s18 s19 s20 (List.set s21 (Int.toNat y29.1) true) (((List.take (s16 + s17) (List.set s22 (s16 + (Int.toNat (IntKind.wrap .i64 (((s17 : Nat) : Int) - 1)))) (y31.1, (IntKind.wrap .i64 (y30.2.1 + 1)), y31.2.2))) ++ [(y29.1, 0, ())]) ++ (List.drop ((s16 + s17) + 1) (List.set s22 (s16 + (Int.toNat (IntKind.wrap .i64 (((s17 : Nat) : Int) - 1)))) (y31.1, (IntKind.wrap .i64 (y30.2.1 + 1)), y31.2.2)))))
 (br (roomB (s17 + 1) 16)
 (br (decide (s16 = 0))
 (I3 s19 s20 (List.set s21 (Int.toNat y29.1) true) ((List.take s17 (List.set s22 (s16 + (Int.toNat (IntKind.wrap .i64 (((s17 : Nat) : Int) - 1)))) (y31.1, (IntKind.wrap .i64 (y30.2.1 + 1)), y31.2.2))) ++ [(y29.1, 0, ())]))
 ((I3 s19 s20 (List.set s21 (Int.toNat y29.1) true) ((List.take s17 (List.drop s16 (List.set s22 (s16 + (Int.toNat (IntKind.wrap .i64 (((s17 : Nat) : Int) - 1)))) (y31.1, (IntKind.wrap .i64 (y30.2.1 + 1)), y31.2.2)))) ++ [(y29.1, 0, ())])) ∧
 (I2 s16 (s17 + 1) (s17 + 1) s19 s20 (List.set s21 (Int.toNat y29.1) true) ((List.take (s16 + s17) (List.set s22 (s16 + (Int.toNat (IntKind.wrap .i64 (((s17 : Nat) : Int) - 1)))) (y31.1, (IntKind.wrap .i64 (y30.2.1 + 1)), y31.2.2))) ++ [(y29.1, 0, ())]))))
 False))
 False)
 (I2 s16 s17 s18 s19 s20 s21 (List.set s22 (s16 + (Int.toNat (IntKind.wrap .i64 (((s17 : Nat) : Int) - 1)))) (y31.1, (IntKind.wrap .i64 (y30.2.1 + 1)), y31.2.2))))
 False))
 False)
 (k2 s19)) → I2 s16 s17 s18 s19 s20 s21 s22) →
 (∀ (s34 : List Int) (s35 : tFU) (s36 : List Bool) (s37 : List (Int × Int × Unit)), (br (decide (((↑(List.length s37)) : Int) > 0))
 (br (decide ((0 : Int) ≤ (IntKind.wrap .i64 ((↑(List.length s37)) - 1)) ∧ ((IntKind.wrap .i64 ((↑(List.length s37)) - 1)) : Int) < (↑(List.length s37))))
 (need False (s37)[(Int.toNat (IntKind.wrap .i64 ((↑(List.length s37)) - 1)))]? fun y38 =>
 need False (at? s35.2.1 y38.1) fun y39 =>
 need False (s37)[(Int.toNat (IntKind.wrap .i64 ((↑(List.length s37)) - 1)))]? fun y40 =>
 br ((y40.2.1 : Int) == (↑(List.length y39.2.2.1.2.2.2.2.1)))
 (need False (s37)[(Int.toNat (IntKind.wrap .i64 ((↑(List.length s37)) - 1)))]? fun y41 =>
 c19 y41.1 s34
 (fun z42 => br (decide ((0 : Int) ≤ 0 ∧ (0 : Int) ≤ (IntKind.wrap .i64 ((↑(List.length s37)) - 1)) ∧ ((IntKind.wrap .i64 ((↑(List.length s37)) - 1)) : Int) ≤ (↑(List.length s37)) ∧ ((↑(List.length s37)) : Int) ≤ (↑(List.length s37))))
 (I2 0 (Int.toNat ((IntKind.wrap .i64 ((↑(List.length s37)) - 1)) - 0)) (Int.toNat ((↑(List.length s37)) - 0)) z42 s35 s36 s37)
 False))
 (need False (s37)[(Int.toNat (IntKind.wrap .i64 ((↑(List.length s37)) - 1)))]? fun y43 =>
 need False (at? y39.2.2.1.2.2.2.2.1 y43.2.1) fun y44 =>
 need False (s37)[(Int.toNat (IntKind.wrap .i64 ((↑(List.length s37)) - 1)))]? fun y45 =>
 need False (s37)[(Int.toNat (IntKind.wrap .i64 ((↑(List.length s37)) - 1)))]? fun y46 =>
 br (decide ((0 : Int) ≤ y44.1 ∧ (y44.1 : Int) < (↑(List.length s36))))
 (need False (s36)[(Int.toNat y44.1)]? fun y47 =>
 br (!y47)
 (br (decide ((0 : Int) ≤ y44.1 ∧ (y44.1 : Int) < (↑(List.length s36))))
 (need False (s36)[(Int.toNat y44.1)]? fun y48 =>
 br (roomB ((List.length (List.set s37 (Int.toNat (IntKind.wrap .i64 ((↑(List.length s37)) - 1))) (y46.1, (IntKind.wrap .i64 (y45.2.1 + 1)), y46.2.2))) + 1) 16)
 (I3 s34 s35 (List.set s36 (Int.toNat y44.1) true) ((List.set s37 (Int.toNat (IntKind.wrap .i64 ((↑(List.length s37)) - 1))) (y46.1, (IntKind.wrap .i64 (y45.2.1 + 1)), y46.2.2)) ++ [(y44.1, 0, ())]))
 False)
 False)
 (I3 s34 s35 s36 (List.set s37 (Int.toNat (IntKind.wrap .i64 ((↑(List.length s37)) - 1))) (y46.1, (IntKind.wrap .i64 (y45.2.1 + 1)), y46.2.2))))
 False))
 False)
 (k2 s34)) → I3 s34 s35 s36 s37) →
 I1 s1 s2 s3 s4
structure l18r4 (k1 : (List Int) → Prop) (k2 : (List Int) → Prop) (s1 : List Int) (s2 : tFU) (s3 : List Bool) (s4 : List (Int × Int × Unit)) : Prop where
 of : tl18r4 k1 k2 s1 s2 s3 s4
def tc18 (x1 : tFU) (x2 : List Int) (k1 : (List Int) → Prop) (k2 : (List Int) → Prop) : Prop :=
 br (decide ((0 : Int) ≤ (↑(List.length x1.2.1)) ∧ ((↑(List.length x1.2.1)) : Int) ≤ (↑(List.length x1.2.1)) ∧ (((↑(List.length x1.2.1)) * 1) : Int) ≤ 140737488355328))
 (br (decide ((0 : Int) ≤ 0 ∧ (0 : Int) < (↑(List.length (List.replicate (Int.toNat (↑(List.length x1.2.1))) (false : Bool))))))
 (need False ((List.replicate (Int.toNat (↑(List.length x1.2.1))) (false : Bool)))[0]? fun y3 =>
 l18r4
 (fun z4 => k1 z4)
 (fun z5 => k2 z5)
 x2 x1 (List.set (List.replicate (Int.toNat (↑(List.length x1.2.1))) (false : Bool)) 0 true) [(0, 0, ())])
 False)
 False
structure c18 (x1 : tFU) (x2 : List Int) (k1 : (List Int) → Prop) (k2 : (List Int) → Prop) : Prop where
 of : tc18 x1 x2 k1 k2
def tl20r1 (k1 : (List Int) → Prop) (s1 : Int) (s2 : Int) (s3 : List Int) : Prop :=
 ∀ (I1 : Int → Int → (List Int) → Prop),
 (∀ (s1 : Int) (s2 : Int) (s3 : List Int), (br (decide ((s1 : Int) < s2))
 (br (decide ((0 : Int) ≤ s2 ∧ (s2 : Int) < (↑(List.length s3))))
 (need False (s3)[(Int.toNat s2)]? fun y4 =>
 br (decide ((0 : Int) ≤ s1 ∧ (s1 : Int) < (↑(List.length s3))))
 (need False (s3)[(Int.toNat s1)]? fun y5 =>
 br (decide ((0 : Int) ≤ s1 ∧ (s1 : Int) < (↑(List.length s3))))
 (need False (s3)[(Int.toNat s1)]? fun y6 =>
 br (eqT (.int .i64) s2 s2)
 (br (decide ((0 : Int) ≤ s2 ∧ (s2 : Int) < (↑(List.length (List.set s3 (Int.toNat s1) y4)))))
 (need False ((List.set s3 (Int.toNat s1) y4))[(Int.toNat s2)]? fun y7 =>
 I1 (IntKind.wrap .i64 (s1 + 1)) (IntKind.wrap .i64 (s2 - 1)) (List.set (List.set s3 (Int.toNat s1) y4) (Int.toNat s2) y5))
 False)
 False)
 False)
 False)
 False)
 (k1 s3)) → I1 s1 s2 s3) →
 I1 s1 s2 s3
structure l20r1 (k1 : (List Int) → Prop) (s1 : Int) (s2 : Int) (s3 : List Int) : Prop where
 of : tl20r1 k1 s1 s2 s3
def tc20 (x1 : List Int) (k1 : (List Int) → Prop) : Prop :=
 l20r1
 (fun z2 => k1 z2)
 0 (IntKind.wrap .i64 ((↑(List.length x1)) - 1)) x1
structure c20 (x1 : List Int) (k1 : (List Int) → Prop) : Prop where
 of : tc20 x1 k1
def tc8 (x1 : tFU) (k1 : Int → (List Int) → Prop) : Prop :=
 c16 x1
 (fun z2 => br ((z2 : Int) != 0)
 (k1 z2 [])
 (c18 x1 []
 (fun z3 => c20 z3
 (fun z4 => k1 0 z4))
 (fun z5 => c20 z5
 (fun z6 => k1 0 z6))))
structure c8 (x1 : tFU) (k1 : Int → (List Int) → Prop) : Prop where
 of : tc8 x1 k1
def tl6r9 (k1 : (List tBK) → Int → Int → (List (List Int)) → Prop) (s1 : Int) (s2 : List tBK) (s3 : Int) (s4 : Int) (s5 : List tED) (s6 : Int) (s7 : Int) (s8 : List (List Int)) : Prop :=
 ∀ (I1 : Int → (List tBK) → Int → Int → (List tED) → Int → Int → (List (List Int)) → Prop),
 (∀ (s1 : Int) (s2 : List tBK) (s3 : Int) (s4 : Int) (s5 : List tED) (s6 : Int) (s7 : Int) (s8 : List (List Int)), (br (decide ((s7 : Int) < s6))
 (need False (at? s5 s7) fun y9 =>
 br (decide ((0 : Int) ≤ y9.1 ∧ (y9.1 : Int) < (↑(List.length s8))))
 ((need False (s8)[(Int.toNat y9.1)]? fun y10 =>
 need False (s8)[(Int.toNat y9.1)]? fun y11 =>
 br (true && true)
 (br (eqT (.int .i64) y9.1 y9.1)
 (br (eqT (.int .i64) s1 s1)
 (br (true && true)
 (br (eqT (.int .i64) y9.1 y9.1)
 (br (roomB ((List.length y11) + 1) 8)
 (br (true && true)
 (br (eqT (.int .i64) y9.1 y9.1)
 (br (decide ((0 : Int) ≤ y9.1 ∧ (y9.1 : Int) < (↑(List.length s8))))
 (need False (s8)[(Int.toNat y9.1)]? fun y12 =>
 br (decide ((Int.toNat y9.1) = (Int.toNat y9.1)))
 (I1 s1 s2 s3 s4 s5 s6 (IntKind.wrap .i64 (s7 + 1)) (List.set s8 (Int.toNat y9.1) (y11 ++ [s1])))
 False)
 False)
 False)
 False)
 False)
 False)
 False)
 False)
 False)
 False) ∧
 (br (true && true)
 (br (eqT (.int .i64) y9.1 y9.1)
 (br (true && true)
 (br (eqT (.int .i64) y9.1 y9.1)
 (br (decide ((0 : Int) ≤ y9.1 ∧ (y9.1 : Int) < (↑(List.length s8))))
 (br ((decide ((Int.toNat y9.1) = (Int.toNat y9.1))) && true)
 (need False (s8)[(Int.toNat y9.1)]? fun y13 =>
 need False (s8)[(Int.toNat y9.1)]? fun y14 =>
 br (true && true)
 (br (eqT (.int .i64) y9.1 y9.1)
 (br (roomB ((List.length y14) + 1) 8)
 (br (true && true)
 (br (eqT (.int .i64) y9.1 y9.1)
 (br (decide ((0 : Int) ≤ y9.1 ∧ (y9.1 : Int) < (↑(List.length s8))))
 (need False (s8)[(Int.toNat y9.1)]? fun y15 =>
 br (decide ((Int.toNat y9.1) = (Int.toNat y9.1)))
 (I1 s1 s2 s3 s4 s5 s6 (IntKind.wrap .i64 (s7 + 1)) (List.set s8 (Int.toNat y9.1) (y14 ++ [s1])))
 False)
 False)
 False)
 False)
 False)
 False)
 False)
 False)
 False)
 False)
 False)
 False)
 False))
 False)
 (k1 s2 s3 s4 s8)) → I1 s1 s2 s3 s4 s5 s6 s7 s8) →
 I1 s1 s2 s3 s4 s5 s6 s7 s8
structure l6r9 (k1 : (List tBK) → Int → Int → (List (List Int)) → Prop) (s1 : Int) (s2 : List tBK) (s3 : Int) (s4 : Int) (s5 : List tED) (s6 : Int) (s7 : Int) (s8 : List (List Int)) : Prop where
 of : tl6r9 k1 s1 s2 s3 s4 s5 s6 s7 s8
def tl6r6 (k1 : (List (List Int)) → Prop) (s1 : List tBK) (s2 : Int) (s3 : Int) (s4 : List (List Int)) : Prop :=
 ∀ (I1 : (List tBK) → Int → Int → (List (List Int)) → Prop),
 (∀ (s1 : List tBK) (s2 : Int) (s3 : Int) (s4 : List (List Int)), (br (decide ((s3 : Int) < s2))
 (need False (at? s1 s3) fun y5 =>
 l6r9
 (fun z6 z7 z8 z9 => I1 z6 z7 (IntKind.wrap .i64 (z8 + 1)) z9)
 s3 s1 s2 s3 y5.2.2.1.2.2.2.2.1 (↑(List.length y5.2.2.1.2.2.2.2.1)) 0 s4)
 (k1 s4)) → I1 s1 s2 s3 s4) →
 I1 s1 s2 s3 s4
structure l6r6 (k1 : (List (List Int)) → Prop) (s1 : List tBK) (s2 : Int) (s3 : Int) (s4 : List (List Int)) : Prop where
 of : tl6r6 k1 s1 s2 s3 s4
def tc6 (x1 : tFU) (k1 : Int → (List (List Int)) → Prop) : Prop :=
 c16 x1
 (fun z2 => br ((z2 : Int) != 0)
 (k1 z2 [])
 (br (decide ((((List.length x1.2.1) : Nat) : Int) = (((List.length x1.2.1) : Nat) : Int)))
 (br (decide ((0 : Int) ≤ (↑(List.length x1.2.1)) ∧ ((↑(List.length x1.2.1)) : Int) ≤ (↑(List.length x1.2.1)) ∧ (((↑(List.length x1.2.1)) * 24) : Int) ≤ 140737488355328))
 (l6r6
 (fun z3 => k1 0 z3)
 x1.2.1 (↑(List.length x1.2.1)) 0 (List.replicate (Int.toNat (↑(List.length x1.2.1))) ([] : List (Int))))
 False)
 False))
structure c6 (x1 : tFU) (k1 : Int → (List (List Int)) → Prop) : Prop where
 of : tc6 x1 k1
def tl11r4 (k1 : Bool → Prop) (k2 : Prop) (s1 : List Int) (s2 : List Int) (s3 : Int) (s4 : Int) : Prop :=
 ∀ (I1 : (List Int) → (List Int) → Int → Int → Prop),
 (∀ (s1 : List Int) (s2 : List Int) (s3 : Int) (s4 : Int), (br (decide ((s4 : Int) < s3))
 (need False (at? s2 s4) fun y5 =>
 need False (at? s1 s4) fun y6 =>
 br ((y6 : Int) != y5)
 (k1 false)
 (I1 s1 s2 s3 (IntKind.wrap .i64 (s4 + 1))))
 (k2)) → I1 s1 s2 s3 s4) →
 I1 s1 s2 s3 s4
structure l11r4 (k1 : Bool → Prop) (k2 : Prop) (s1 : List Int) (s2 : List Int) (s3 : Int) (s4 : Int) : Prop where
 of : tl11r4 k1 k2 s1 s2 s3 s4
def tc11 (x1 : List Int) (x2 : List Int) (k1 : Bool → Prop) : Prop :=
 br (((↑(List.length x1)) : Int) != (↑(List.length x2)))
 (k1 false)
 (l11r4
 (fun z3 => k1 z3)
 (k1 true)
 x2 x1 (↑(List.length x1)) 0)
structure c11 (x1 : List Int) (x2 : List Int) (k1 : Bool → Prop) : Prop where
 of : tc11 x1 x2 k1
def tc4 (k1 : Bool → Prop) : Prop :=
 c14 
 (fun z1 z2 => c8 (z1, z2, ())
 (fun z3 z4 => c14 
 (fun z5 z6 => c6 (z5, z6, ())
 (fun z7 z8 => c8 (0, [], ())
 (fun z9 z10 => br ((z3 : Int) == 0)
 (c11 z4 [0, 2, 1, 3]
 (fun z11 => br (z11)
 (br ((z7 : Int) == 0)
 (br (((↑(List.length z8)) : Int) == 4)
 (br (decide ((0 : Int) ≤ 3 ∧ (3 : Int) < (↑(List.length z8))))
 (need False (z8)[3]? fun y12 =>
 need False (z8)[3]? fun y13 =>
 c11 y13 [1, 2]
 (fun z14 => br (z14)
 (k1 ((z9 : Int) == 3))
 (k1 false)))
 False)
 (k1 false))
 (k1 false))
 (k1 false)))
 (k1 false))))))
structure c4 (k1 : Bool → Prop) : Prop where
 of : tc4 k1
def tl15r6 (k1 : Int → (List tBK) → Int → Int → tBK → Prop) (s1 : Int) (s2 : List tBK) (s3 : Int) (s4 : Int) (s5 : List Int) (s6 : Int) (s7 : Int) (s8 : tBK) : Prop :=
 ∀ (I1 : Int → (List tBK) → Int → Int → (List Int) → Int → Int → tBK → Prop),
 (∀ (s1 : Int) (s2 : List tBK) (s3 : Int) (s4 : Int) (s5 : List Int) (s6 : Int) (s7 : Int) (s8 : tBK), (br (decide ((s7 : Int) < s6))
 (need False (at? s5 s7) fun y9 =>
 I1 (maxI s1 (IntKind.wrap .i64 (y9 + 1))) s2 s3 s4 s5 s6 (IntKind.wrap .i64 (s7 + 1)) s8)
 (k1 s1 s2 s3 s4 s8)) → I1 s1 s2 s3 s4 s5 s6 s7 s8) →
 I1 s1 s2 s3 s4 s5 s6 s7 s8
structure l15r6 (k1 : Int → (List tBK) → Int → Int → tBK → Prop) (s1 : Int) (s2 : List tBK) (s3 : Int) (s4 : Int) (s5 : List Int) (s6 : Int) (s7 : Int) (s8 : tBK) : Prop where
 of : tl15r6 k1 s1 s2 s3 s4 s5 s6 s7 s8
def tl15r11 (k1 : Int → (List tBK) → Int → Int → Prop) (s1 : Int) (s2 : List tBK) (s3 : Int) (s4 : Int) (s5 : List tIN) (s6 : Int) (s7 : Int) : Prop :=
 ∀ (I1 : Int → (List tBK) → Int → Int → (List tIN) → Int → Int → Prop),
 (∀ (s1 : Int) (s2 : List tBK) (s3 : Int) (s4 : Int) (s5 : List tIN) (s6 : Int) (s7 : Int), (br (decide ((s7 : Int) < s6))
 (need False (at? s5 s7) fun y8 =>
 I1 (maxI s1 (IntKind.wrap .i64 (y8.1 + 1))) s2 s3 s4 s5 s6 (IntKind.wrap .i64 (s7 + 1)))
 (k1 s1 s2 s3 s4)) → I1 s1 s2 s3 s4 s5 s6 s7) →
 I1 s1 s2 s3 s4 s5 s6 s7
structure l15r11 (k1 : Int → (List tBK) → Int → Int → Prop) (s1 : Int) (s2 : List tBK) (s3 : Int) (s4 : Int) (s5 : List tIN) (s6 : Int) (s7 : Int) : Prop where
 of : tl15r11 k1 s1 s2 s3 s4 s5 s6 s7
def tl15r3 (k1 : Int → Prop) (s1 : Int) (s2 : List tBK) (s3 : Int) (s4 : Int) : Prop :=
 ∀ (I1 : Int → (List tBK) → Int → Int → Prop),
 (∀ (s1 : Int) (s2 : List tBK) (s3 : Int) (s4 : Int), (br (decide ((s4 : Int) < s3))
 (need False (at? s2 s4) fun y5 =>
 l15r6
 (fun z6 z7 z8 z9 z10 => l15r11
 (fun z11 z12 z13 z14 => I1 z11 z12 z13 (IntKind.wrap .i64 (z14 + 1)))
 z6 z7 z8 z9 z10.2.1 (↑(List.length z10.2.1)) 0)
 s1 s2 s3 s4 y5.1 (↑(List.length y5.1)) 0 y5)
 (k1 s1)) → I1 s1 s2 s3 s4) →
 I1 s1 s2 s3 s4
structure l15r3 (k1 : Int → Prop) (s1 : Int) (s2 : List tBK) (s3 : Int) (s4 : Int) : Prop where
 of : tl15r3 k1 s1 s2 s3 s4
def tc15 (x1 : tFU) (k1 : Int → Prop) : Prop :=
 l15r3
 (fun z2 => k1 z2)
 0 x1.2.1 (↑(List.length x1.2.1)) 0
structure c15 (x1 : tFU) (k1 : Int → Prop) : Prop where
 of : tc15 x1 k1
def tc5 (x1 : tFU) (k1 : Bool → Prop) : Prop :=
 br (decide (((↑(List.length x1.2.1)) : Int) ≤ 12))
 (c15 x1
 (fun z2 => k1 (decide ((z2 : Int) ≤ 200))))
 (k1 false)
structure c5 (x1 : tFU) (k1 : Bool → Prop) : Prop where
 of : tc5 x1 k1
def tc53 (x1 : Int) (k1 : Int → Prop) : Prop :=
 br (decide ((x1 : Int) ≥ 4294967296))
 (br (decide (((shrI .u64 x1 32) : Int) ≥ 65536))
 (br (decide (((shrI .u64 (shrI .u64 x1 32) 16) : Int) ≥ 256))
 (need False (at? tab8 (IntKind.wrap .u8 (shrI .u64 (shrI .u64 (shrI .u64 x1 32) 16) 8))) fun y2 =>
 k1 (IntKind.wrap .i64 (56 + (IntKind.wrap .i64 (UInt8.toNat y2 : Int)))))
 (need False (at? tab8 (IntKind.wrap .u8 (shrI .u64 (shrI .u64 x1 32) 16))) fun y3 =>
 k1 (IntKind.wrap .i64 (48 + (IntKind.wrap .i64 (UInt8.toNat y3 : Int))))))
 (br (decide (((shrI .u64 x1 32) : Int) ≥ 256))
 (need False (at? tab8 (IntKind.wrap .u8 (shrI .u64 (shrI .u64 x1 32) 8))) fun y4 =>
 k1 (IntKind.wrap .i64 (40 + (IntKind.wrap .i64 (UInt8.toNat y4 : Int)))))
 (need False (at? tab8 (IntKind.wrap .u8 (shrI .u64 x1 32))) fun y5 =>
 k1 (IntKind.wrap .i64 (32 + (IntKind.wrap .i64 (UInt8.toNat y5 : Int)))))))
 (br (decide ((x1 : Int) ≥ 65536))
 (br (decide (((shrI .u64 x1 16) : Int) ≥ 256))
 (need False (at? tab8 (IntKind.wrap .u8 (shrI .u64 (shrI .u64 x1 16) 8))) fun y6 =>
 k1 (IntKind.wrap .i64 (24 + (IntKind.wrap .i64 (UInt8.toNat y6 : Int)))))
 (need False (at? tab8 (IntKind.wrap .u8 (shrI .u64 x1 16))) fun y7 =>
 k1 (IntKind.wrap .i64 (16 + (IntKind.wrap .i64 (UInt8.toNat y7 : Int))))))
 (br (decide ((x1 : Int) ≥ 256))
 (need False (at? tab8 (IntKind.wrap .u8 (shrI .u64 x1 8))) fun y8 =>
 k1 (IntKind.wrap .i64 (8 + (IntKind.wrap .i64 (UInt8.toNat y8 : Int)))))
 (need False (at? tab8 (IntKind.wrap .u8 x1)) fun y9 =>
 k1 (IntKind.wrap .i64 (0 + (IntKind.wrap .i64 (UInt8.toNat y9 : Int)))))))
structure c53 (x1 : Int) (k1 : Int → Prop) : Prop where
 of : tc53 x1 k1
def tc30 (x1 : Int) (k1 : Int → Prop) : Prop :=
 c53 x1
 (fun z2 => k1 z2)
structure c30 (x1 : Int) (k1 : Int → Prop) : Prop where
 of : tc30 x1 k1
def tc68 (x1 : Int) (k1 : Bool → Prop) : Prop :=
 k1 ((x1 : Int) != x1)
structure c68 (x1 : Int) (k1 : Bool → Prop) : Prop where
 of : tc68 x1 k1
def tc49 (x1 : Int) (x2 : Int) (k1 : Bool → Prop) : Prop :=
 c68 x1
 (fun z3 => br (z3)
 (c68 x2
 (fun z4 => br (!z4)
 (k1 true)
 (k1 (decide ((x1 : Int) < x2)))))
 (k1 (decide ((x1 : Int) < x2))))
structure c49 (x1 : Int) (x2 : Int) (k1 : Bool → Prop) : Prop where
 of : tc49 x1 x2 k1
def tl43r4 (k1 : Int → Int → Int → (List Int) → Prop) (s1 : Int) (s2 : Int) (s3 : Int) (s4 : Int) (s5 : List Int) : Prop :=
 ∀ (I1 : Int → Int → Int → Int → (List Int) → Prop),
 (∀ (s1 : Int) (s2 : Int) (s3 : Int) (s4 : Int) (s5 : List Int), (br (decide ((s4 : Int) > s1))
 (br (decide ((0 : Int) ≤ s4 ∧ (s4 : Int) < (↑(List.length s5))))
 (need False (s5)[(Int.toNat s4)]? fun y6 =>
 br (decide ((0 : Int) ≤ (IntKind.wrap .i64 (s4 - 1)) ∧ ((IntKind.wrap .i64 (s4 - 1)) : Int) < (↑(List.length s5))))
 (need False (s5)[(Int.toNat (IntKind.wrap .i64 (s4 - 1)))]? fun y7 =>
 c49 y6 y7
 (fun z8 => br (z8)
 (br (decide ((0 : Int) ≤ (IntKind.wrap .i64 (s4 - 1)) ∧ ((IntKind.wrap .i64 (s4 - 1)) : Int) < (↑(List.length s5))))
 (need False (s5)[(Int.toNat (IntKind.wrap .i64 (s4 - 1)))]? fun y9 =>
 br (decide ((0 : Int) ≤ s4 ∧ (s4 : Int) < (↑(List.length s5))))
 (need False (s5)[(Int.toNat s4)]? fun y10 =>
 br (decide ((0 : Int) ≤ s4 ∧ (s4 : Int) < (↑(List.length s5))))
 (need False (s5)[(Int.toNat s4)]? fun y11 =>
 br (eqT (.int .i64) s4 s4)
 (br (eqT (.int .i64) (IntKind.wrap .i64 (s4 - 1)) (IntKind.wrap .i64 (s4 - 1)))
 (br (decide ((0 : Int) ≤ (IntKind.wrap .i64 (s4 - 1)) ∧ ((IntKind.wrap .i64 (s4 - 1)) : Int) < (↑(List.length (List.set s5 (Int.toNat s4) y9)))))
 (need False ((List.set s5 (Int.toNat s4) y9))[(Int.toNat (IntKind.wrap .i64 (s4 - 1)))]? fun y12 =>
 I1 s1 s2 s3 (IntKind.wrap .i64 (s4 - 1)) (List.set (List.set s5 (Int.toNat s4) y9) (Int.toNat (IntKind.wrap .i64 (s4 - 1))) y10))
 False)
 False)
 False)
 False)
 False)
 False)
 (k1 s1 s2 s3 s5)))
 False)
 False)
 (k1 s1 s2 s3 s5)) → I1 s1 s2 s3 s4 s5) →
 I1 s1 s2 s3 s4 s5
structure l43r4 (k1 : Int → Int → Int → (List Int) → Prop) (s1 : Int) (s2 : Int) (s3 : Int) (s4 : Int) (s5 : List Int) : Prop where
 of : tl43r4 k1 s1 s2 s3 s4 s5
def tl43r1 (k1 : (List Int) → Prop) (s1 : Int) (s2 : Int) (s3 : Int) (s4 : List Int) : Prop :=
 ∀ (I1 : Int → Int → Int → (List Int) → Prop),
 (∀ (s1 : Int) (s2 : Int) (s3 : Int) (s4 : List Int), (br (decide ((s3 : Int) < s2))
 (l43r4
 (fun z5 z6 z7 z8 => I1 z5 z6 (IntKind.wrap .i64 (z7 + 1)) z8)
 s1 s2 s3 s3 s4)
 (k1 s4)) → I1 s1 s2 s3 s4) →
 I1 s1 s2 s3 s4
structure l43r1 (k1 : (List Int) → Prop) (s1 : Int) (s2 : Int) (s3 : Int) (s4 : List Int) : Prop where
 of : tl43r1 k1 s1 s2 s3 s4
def tc43 (x1 : Int) (x2 : Int) (x3 : List Int) (k1 : (List Int) → Prop) : Prop :=
 l43r1
 (fun z4 => k1 z4)
 x1 x2 (IntKind.wrap .i64 (x1 + 1)) x3
structure c43 (x1 : Int) (x2 : Int) (x3 : List Int) (k1 : (List Int) → Prop) : Prop where
 of : tc43 x1 x2 x3 k1
def tj29r10 (s1 : Int) (s2 : Int) (s3 : Int) (s4 : Bool) (s5 : Bool) (s6 : Int) (s7 : List Int) : Prop :=
 False
structure j29r10 (s1 : Int) (s2 : Int) (s3 : Int) (s4 : Bool) (s5 : Bool) (s6 : Int) (s7 : List Int) : Prop where
 of : tj29r10 s1 s2 s3 s4 s5 s6 s7
def tl29r2 (k1 : (List Int) → Prop) (s1 : Int) (s2 : Int) (s3 : Int) (s4 : Bool) (s5 : Bool) (s6 : List Int) : Prop :=
 ∀ (I1 : Int → Int → Int → Bool → Bool → (List Int) → Prop),
 (∀ (s1 : Int) (s2 : Int) (s3 : Int) (s4 : Bool) (s5 : Bool) (s6 : List Int), (br (decide (((IntKind.wrap .i64 (s2 - s1)) : Int) ≤ 12))
 (c43 s1 s2 s6
 (fun z7 => k1 z7))
 (br ((s3 : Int) == 0)
 False
 (br (!s4)
 False
 (j29r10
 s1 s2 s3 s4 s5 (IntKind.wrap .i64 (s2 - s1)) s6)))) → I1 s1 s2 s3 s4 s5 s6) →
 I1 s1 s2 s3 s4 s5 s6
structure l29r2 (k1 : (List Int) → Prop) (s1 : Int) (s2 : Int) (s3 : Int) (s4 : Bool) (s5 : Bool) (s6 : List Int) : Prop where
 of : tl29r2 k1 s1 s2 s3 s4 s5 s6
def tc29 (x1 : Int) (x2 : Int) (x3 : Int) (x4 : List Int) (k1 : (List Int) → Prop) : Prop :=
 l29r2
 (fun z5 => k1 z5)
 x1 x2 x3 true true x4
structure c29 (x1 : Int) (x2 : Int) (x3 : Int) (x4 : List Int) (k1 : (List Int) → Prop) : Prop where
 of : tc29 x1 x2 x3 x4 k1
def tc17 (x1 : List Int) (k1 : (List Int) → Prop) : Prop :=
 c30 (IntKind.wrap .u64 (↑(List.length x1)))
 (fun z2 => c29 0 (↑(List.length x1)) z2 x1
 (fun z3 => k1 z3))
structure c17 (x1 : List Int) (k1 : (List Int) → Prop) : Prop where
 of : tc17 x1 k1
def tc7 (x1 : tFU) (k1 : Int → (List Int) → Prop) : Prop :=
 c8 x1
 (fun z2 z3 => c17 z3
 (fun z4 => k1 z2 z4))
structure c7 (x1 : tFU) (k1 : Int → (List Int) → Prop) : Prop where
 of : tc7 x1 k1
def tl9r3 (k1 : Int → tFU → Prop) (s1 : Int) (s2 : List tBK) (s3 : Int) (s4 : Int) (s5 : tFU) : Prop :=
 ∀ (I1 : Int → (List tBK) → Int → Int → tFU → Prop),
 (∀ (s1 : Int) (s2 : List tBK) (s3 : Int) (s4 : Int) (s5 : tFU), (br (decide ((s4 : Int) < s3))
 (need False (at? s2 s4) fun y6 =>
 I1 (IntKind.wrap .i64 (s1 + (↑(List.length y6.2.1)))) s2 s3 (IntKind.wrap .i64 (s4 + 1)) s5)
 (k1 s1 s5)) → I1 s1 s2 s3 s4 s5) →
 I1 s1 s2 s3 s4 s5
structure l9r3 (k1 : Int → tFU → Prop) (s1 : Int) (s2 : List tBK) (s3 : Int) (s4 : Int) (s5 : tFU) : Prop where
 of : tl9r3 k1 s1 s2 s3 s4 s5
def tc21 (x1 : Int) (x2 : Int) (x3 : Int) (k1 : Bool → Prop) : Prop :=
 br (decide ((x1 : Int) ≥ x2))
 (k1 (decide ((x1 : Int) ≤ x3)))
 (k1 false)
structure c21 (x1 : Int) (x2 : Int) (x3 : Int) (k1 : Bool → Prop) : Prop where
 of : tc21 x1 x2 x3 k1
def tl34r2 (k1 : Bool → Prop) (k2 : Prop) (s1 : Int) (s2 : List Int) (s3 : Int) (s4 : Int) : Prop :=
 ∀ (I1 : Int → (List Int) → Int → Int → Prop),
 (∀ (s1 : Int) (s2 : List Int) (s3 : Int) (s4 : Int), (br (decide ((s4 : Int) < s3))
 (need False (at? s2 s4) fun y5 =>
 br ((y5 : Int) == s1)
 (k1 true)
 (I1 s1 s2 s3 (IntKind.wrap .i64 (s4 + 1))))
 (k2)) → I1 s1 s2 s3 s4) →
 I1 s1 s2 s3 s4
structure l34r2 (k1 : Bool → Prop) (k2 : Prop) (s1 : Int) (s2 : List Int) (s3 : Int) (s4 : Int) : Prop where
 of : tl34r2 k1 k2 s1 s2 s3 s4
def tc34 (x1 : List Int) (x2 : Int) (k1 : Bool → Prop) : Prop :=
 l34r2
 (fun z3 => k1 z3)
 (k1 false)
 x2 x1 (↑(List.length x1)) 0
structure c34 (x1 : List Int) (x2 : Int) (k1 : Bool → Prop) : Prop where
 of : tc34 x1 x2 k1
def tc31 (x1 : Int) (x2 : List Int) (k1 : Int → Prop) : Prop :=
 c21 x1 0 4095
 (fun z3 => br (!z3)
 (k1 4)
 (c34 x2 x1
 (fun z4 => br (z4)
 (k1 7)
 (k1 0))))
structure c31 (x1 : Int) (x2 : List Int) (k1 : Int → Prop) : Prop where
 of : tc31 x1 x2 k1
def tl22r6 (k1 : Int → Prop) (k2 : (List tBK) → Int → Int → tFU → (List Int) → tBK → Prop) (s1 : List tBK) (s2 : Int) (s3 : Int) (s4 : List Int) (s5 : Int) (s6 : Int) (s7 : tFU) (s8 : List Int) (s9 : tBK) : Prop :=
 ∀ (I1 : (List tBK) → Int → Int → (List Int) → Int → Int → tFU → (List Int) → tBK → Prop),
 (∀ (s1 : List tBK) (s2 : Int) (s3 : Int) (s4 : List Int) (s5 : Int) (s6 : Int) (s7 : tFU) (s8 : List Int) (s9 : tBK), (br (decide ((s6 : Int) < s5))
 (need False (at? s4 s6) fun y10 =>
 c31 y10 s8
 (fun z11 => br ((z11 : Int) != 0)
 (k1 z11)
 (br (roomB ((List.length s8) + 1) 8)
 (I1 s1 s2 s3 s4 s5 (IntKind.wrap .i64 (s6 + 1)) s7 (s8 ++ [y10]) s9)
 False)))
 (k2 s1 s2 s3 s7 s8 s9)) → I1 s1 s2 s3 s4 s5 s6 s7 s8 s9) →
 I1 s1 s2 s3 s4 s5 s6 s7 s8 s9
structure l22r6 (k1 : Int → Prop) (k2 : (List tBK) → Int → Int → tFU → (List Int) → tBK → Prop) (s1 : List tBK) (s2 : Int) (s3 : Int) (s4 : List Int) (s5 : Int) (s6 : Int) (s7 : tFU) (s8 : List Int) (s9 : tBK) : Prop where
 of : tl22r6 k1 k2 s1 s2 s3 s4 s5 s6 s7 s8 s9
def tc54 (x1 : tIN) (k1 : Int → Prop) : Prop :=
 br ((x1.2.1 : Int) == 0)
 (k1 0)
 (br ((x1.2.1 : Int) == 10)
 (k1 1)
 (br ((x1.2.1 : Int) == 11)
 (k1 1)
 (br ((x1.2.1 : Int) == 12)
 (k1 1)
 (br ((x1.2.1 : Int) == 15)
 (k1 1)
 (br ((x1.2.1 : Int) == 17)
 (k1 1)
 (br ((x1.2.1 : Int) == 24)
 (k1 1)
 (br ((x1.2.1 : Int) == 1)
 (k1 2)
 (br ((x1.2.1 : Int) == 2)
 (k1 2)
 (br ((x1.2.1 : Int) == 3)
 (k1 2)
 (br ((x1.2.1 : Int) == 4)
 (k1 2)
 (br ((x1.2.1 : Int) == 5)
 (k1 2)
 (br ((x1.2.1 : Int) == 6)
 (k1 2)
 (br ((x1.2.1 : Int) == 7)
 (k1 2)
 (br ((x1.2.1 : Int) == 16)
 (k1 2)
 (br ((x1.2.1 : Int) == 18)
 (k1 2)
 (br ((x1.2.1 : Int) == 19)
 (k1 2)
 (br ((x1.2.1 : Int) == 21)
 (k1 2)
 (br ((x1.2.1 : Int) == 23)
 (k1 2)
 (br ((x1.2.1 : Int) == 20)
 (k1 3)
 (br ((x1.2.1 : Int) == 8)
 (k1 (-1))
 (br ((x1.2.1 : Int) == 9)
 (k1 (-1))
 (br ((x1.2.1 : Int) == 13)
 (k1 (-1))
 (br ((x1.2.1 : Int) == 14)
 (k1 (-1))
 (br ((x1.2.1 : Int) == 22)
 (br ((x1.2.2.1 : Int) == 2)
 (k1 x1.2.2.1)
 (br ((x1.2.2.1 : Int) == 4)
 (k1 x1.2.2.1)
 (k1 (-2))))
 (k1 (-2))))))))))))))))))))))))))
structure c54 (x1 : tIN) (k1 : Int → Prop) : Prop where
 of : tc54 x1 k1
def tj32s4 (k1 : Int → Prop) (k2 : tIN → Prop) (s1 : Bool) (s2 : tIN) : Prop :=
 br (s1)
 (k1 2)
 (k2 s2)
structure j32s4 (k1 : Int → Prop) (k2 : tIN → Prop) (s1 : Bool) (s2 : tIN) : Prop where
 of : tj32s4 k1 k2 s1 s2
def tc55 (x1 : Int) (k1 : Bool → Prop) : Prop :=
 c21 x1 (-1073741824) 1073741823
 (fun z2 => k1 z2)
structure c55 (x1 : Int) (k1 : Bool → Prop) : Prop where
 of : tc55 x1 k1
def tj32r6 (k1 : Int → Prop) (s1 : tIN) : Prop :=
 br ((s1.2.1 : Int) == 0)
 (c55 s1.2.2.1
 (fun z2 => br (!z2)
 (k1 4)
 (k1 0)))
 (br ((s1.2.1 : Int) == 8)
 (c21 s1.2.2.1 0 255
 (fun z3 => br (!z3)
 (k1 4)
 (k1 0)))
 (br ((s1.2.1 : Int) == 9)
 (c21 s1.2.2.1 0 255
 (fun z4 => br (!z4)
 (k1 4)
 (k1 0)))
 (br ((s1.2.1 : Int) == 13)
 (c21 s1.2.2.1 0 255
 (fun z5 => br (!z5)
 (k1 4)
 (k1 0)))
 (br ((s1.2.1 : Int) == 11)
 (c21 s1.2.2.1 0 15
 (fun z6 => br (!z6)
 (k1 4)
 (k1 0)))
 (br ((s1.2.1 : Int) == 23)
 (br ((s1.2.2.1 : Int) == 1)
 (k1 0)
 (br ((s1.2.2.1 : Int) == 2)
 (k1 0)
 (br (!((s1.2.2.1 : Int) == 3))
 (k1 4)
 (k1 0))))
 (br ((s1.2.1 : Int) == 24)
 (c21 s1.2.2.1 0 3
 (fun z7 => br (!z7)
 (k1 4)
 (k1 0)))
 (br ((s1.2.1 : Int) == 22)
 (k1 0)
 (br (!((s1.2.2.1 : Int) == 0))
 (k1 4)
 (k1 0)))))))))
structure j32r6 (k1 : Int → Prop) (s1 : tIN) : Prop where
 of : tj32r6 k1 s1
def tj32r4 (k1 : Int → Prop) (s1 : tIN) : Prop :=
 br ((s1.2.1 : Int) == 8)
 (br (decide (((↑(List.length s1.2.2.2.1)) : Int) > 16))
 (j32s4
 (fun z2 => k1 z2)
 (fun z3 => j32r6
 (fun z4 => k1 z4)
 z3)
 true s1)
 (br ((s1.2.1 : Int) == 13)
 (j32s4
 (fun z5 => k1 z5)
 (fun z6 => j32r6
 (fun z7 => k1 z7)
 z6)
 (decide (((↑(List.length s1.2.2.2.1)) : Int) > 6)) s1)
 (br ((s1.2.1 : Int) == 14)
 (j32s4
 (fun z8 => k1 z8)
 (fun z9 => j32r6
 (fun z10 => k1 z10)
 z9)
 (decide (((↑(List.length s1.2.2.2.1)) : Int) > 6)) s1)
 (j32s4
 (fun z11 => k1 z11)
 (fun z12 => j32r6
 (fun z13 => k1 z13)
 z12)
 false s1))))
 (br ((s1.2.1 : Int) == 9)
 (br (decide (((↑(List.length s1.2.2.2.1)) : Int) > 16))
 (j32s4
 (fun z14 => k1 z14)
 (fun z15 => j32r6
 (fun z16 => k1 z16)
 z15)
 true s1)
 (br ((s1.2.1 : Int) == 13)
 (j32s4
 (fun z17 => k1 z17)
 (fun z18 => j32r6
 (fun z19 => k1 z19)
 z18)
 (decide (((↑(List.length s1.2.2.2.1)) : Int) > 6)) s1)
 (br ((s1.2.1 : Int) == 14)
 (j32s4
 (fun z20 => k1 z20)
 (fun z21 => j32r6
 (fun z22 => k1 z22)
 z21)
 (decide (((↑(List.length s1.2.2.2.1)) : Int) > 6)) s1)
 (j32s4
 (fun z23 => k1 z23)
 (fun z24 => j32r6
 (fun z25 => k1 z25)
 z24)
 false s1))))
 (br ((s1.2.1 : Int) == 13)
 (j32s4
 (fun z26 => k1 z26)
 (fun z27 => j32r6
 (fun z28 => k1 z28)
 z27)
 (decide (((↑(List.length s1.2.2.2.1)) : Int) > 6)) s1)
 (br ((s1.2.1 : Int) == 14)
 (j32s4
 (fun z29 => k1 z29)
 (fun z30 => j32r6
 (fun z31 => k1 z31)
 z30)
 (decide (((↑(List.length s1.2.2.2.1)) : Int) > 6)) s1)
 (j32s4
 (fun z32 => k1 z32)
 (fun z33 => j32r6
 (fun z34 => k1 z34)
 z33)
 false s1))))
structure j32r4 (k1 : Int → Prop) (s1 : tIN) : Prop where
 of : tj32r4 k1 s1
def tc32 (x1 : tIN) (k1 : Int → Prop) : Prop :=
 c54 x1
 (fun z2 => br ((z2 : Int) == (-2))
 (k1 3)
 (br (decide ((z2 : Int) ≥ 0))
 (br ((z2 : Int) != (↑(List.length x1.2.2.2.1)))
 (k1 3)
 (br ((x1.2.1 : Int) == 14)
 (br (decide (((↑(List.length x1.2.2.2.1)) : Int) < 1))
 (k1 3)
 (j32r4
 (fun z3 => k1 z3)
 x1))
 (j32r4
 (fun z4 => k1 z4)
 x1)))
 (br ((x1.2.1 : Int) == 14)
 (br (decide (((↑(List.length x1.2.2.2.1)) : Int) < 1))
 (k1 3)
 (j32r4
 (fun z5 => k1 z5)
 x1))
 (j32r4
 (fun z6 => k1 z6)
 x1))))
structure c32 (x1 : tIN) (k1 : Int → Prop) : Prop where
 of : tc32 x1 k1
def tl22r14 (k1 : Int → Prop) (k2 : (List tBK) → Int → Int → tFU → (List Int) → tBK → Prop) (s1 : List tBK) (s2 : Int) (s3 : Int) (s4 : List tIN) (s5 : Int) (s6 : Int) (s7 : tFU) (s8 : List Int) (s9 : tBK) : Prop :=
 ∀ (I1 : (List tBK) → Int → Int → (List tIN) → Int → Int → tFU → (List Int) → tBK → Prop),
 (∀ (s1 : List tBK) (s2 : Int) (s3 : Int) (s4 : List tIN) (s5 : Int) (s6 : Int) (s7 : tFU) (s8 : List Int) (s9 : tBK), (br (decide ((s6 : Int) < s5))
 (need False (at? s4 s6) fun y10 =>
 c31 y10.1 s8
 (fun z11 => br ((z11 : Int) != 0)
 (k1 z11)
 (br (roomB ((List.length s8) + 1) 8)
 (c32 y10
 (fun z12 => br ((z12 : Int) != 0)
 (k1 z12)
 (I1 s1 s2 s3 s4 s5 (IntKind.wrap .i64 (s6 + 1)) s7 (s8 ++ [y10.1]) s9)))
 False)))
 (k2 s1 s2 s3 s7 s8 s9)) → I1 s1 s2 s3 s4 s5 s6 s7 s8 s9) →
 I1 s1 s2 s3 s4 s5 s6 s7 s8 s9
structure l22r14 (k1 : Int → Prop) (k2 : (List tBK) → Int → Int → tFU → (List Int) → tBK → Prop) (s1 : List tBK) (s2 : Int) (s3 : Int) (s4 : List tIN) (s5 : Int) (s6 : Int) (s7 : tFU) (s8 : List Int) (s9 : tBK) : Prop where
 of : tl22r14 k1 k2 s1 s2 s3 s4 s5 s6 s7 s8 s9
def tj33s4 (k1 : Int → Prop) (k2 : tFU → tTM → Prop) (s1 : Bool) (s2 : tFU) (s3 : tTM) : Prop :=
 br (s1)
 (k1 3)
 (k2 s2 s3)
structure j33s4 (k1 : Int → Prop) (k2 : tFU → tTM → Prop) (s1 : Bool) (s2 : tFU) (s3 : tTM) : Prop where
 of : tj33s4 k1 k2 s1 s2 s3
def tl33r11 (k1 : Int → Prop) (k2 : tFU → tTM → Prop) (s1 : List Int) (s2 : Int) (s3 : Int) (s4 : tFU) (s5 : tTM) : Prop :=
 ∀ (I1 : (List Int) → Int → Int → tFU → tTM → Prop),
 (∀ (s1 : List Int) (s2 : Int) (s3 : Int) (s4 : tFU) (s5 : tTM), (br (decide ((s3 : Int) < s2))
 (need False (at? s1 s3) fun y6 =>
 c55 y6
 (fun z7 => br (!z7)
 (k1 4)
 (br (decide ((0 : Int) ≤ 0 ∧ (0 : Int) ≤ s3 ∧ (s3 : Int) ≤ (↑(List.length s5.2.2.2.1))))
 (c34 (List.drop 0 (List.take (Int.toNat s3) s5.2.2.2.1)) y6
 (fun z8 => br (z8)
 (k1 7)
 (I1 s1 s2 (IntKind.wrap .i64 (s3 + 1)) s4 s5)))
 False)))
 (k2 s4 s5)) → I1 s1 s2 s3 s4 s5) →
 I1 s1 s2 s3 s4 s5
structure l33r11 (k1 : Int → Prop) (k2 : tFU → tTM → Prop) (s1 : List Int) (s2 : Int) (s3 : Int) (s4 : tFU) (s5 : tTM) : Prop where
 of : tl33r11 k1 k2 s1 s2 s3 s4 s5
def tl33r19 (k1 : Int → Prop) (k2 : Prop) (s1 : List tED) (s2 : Int) (s3 : Int) (s4 : tFU) : Prop :=
 ∀ (I1 : (List tED) → Int → Int → tFU → Prop),
 (∀ (s1 : List tED) (s2 : Int) (s3 : Int) (s4 : tFU), (br (decide ((s3 : Int) < s2))
 (need False (at? s1 s3) fun y5 =>
 c21 y5.1 1 (IntKind.wrap .i64 ((↑(List.length s4.2.1)) - 1))
 (fun z6 => br (!z6)
 (k1 4)
 (need False (at? s4.2.1 y5.1) fun y7 =>
 (br (true && true)
 (br (eqT (.sl (.pair (.sl (.int .i64)) (.pair (.sl (.pair (.int .i64) (.pair (.int .i64) (.pair (.int .i64) (.pair (.sl (.int .i64)) .unit))))) (.pair (.pair (.int .i64) (.pair (.int .i64) (.pair (.int .i64) (.pair (.sl (.int .i64)) (.pair (.sl (.pair (.int .i64) (.pair (.sl (.int .i64)) .unit))) .unit))))) .unit)))) s4.2.1 s4.2.1)
 (br (true && true)
 (br (eqT (.int .i64) y5.1 y5.1)
 (need False (at? s4.2.1 y5.1) fun y8 =>
 br (eqT (.pair (.sl (.int .i64)) (.pair (.sl (.pair (.int .i64) (.pair (.int .i64) (.pair (.int .i64) (.pair (.sl (.int .i64)) .unit))))) (.pair (.pair (.int .i64) (.pair (.int .i64) (.pair (.int .i64) (.pair (.sl (.int .i64)) (.pair (.sl (.pair (.int .i64) (.pair (.sl (.int .i64)) .unit))) .unit))))) .unit))) y7 y8)
 (br (eqT (.sl (.int .i64)) y7.1 y7.1)
 (br (eqT (.int .i64) (((List.length y5.2.1) : Nat) : Int) (((List.length y5.2.1) : Nat) : Int))
 (br (((↑(List.length y5.2.1)) : Int) != (↑(List.length y7.1)))
 (k1 3)
 (I1 s1 s2 (IntKind.wrap .i64 (s3 + 1)) s4))
 False)
 False)
 False)
 False)
 False)
 False)
 False) ∧
 (br (true && true)
 (br (eqT (.int .i64) (((List.length y7.1) : Nat) : Int) (((List.length y7.1) : Nat) : Int))
 (br (((↑(List.length y5.2.1)) : Int) != (↑(List.length y7.1)))
 (k1 3)
 (I1 s1 s2 (IntKind.wrap .i64 (s3 + 1)) s4))
 False)
 False))))
 (k2)) → I1 s1 s2 s3 s4) →
 I1 s1 s2 s3 s4
structure l33r19 (k1 : Int → Prop) (k2 : Prop) (s1 : List tED) (s2 : Int) (s3 : Int) (s4 : tFU) : Prop where
 of : tl33r19 k1 k2 s1 s2 s3 s4
def tj33r6 (k1 : Int → Prop) (s1 : tFU) (s2 : tTM) : Prop :=
 br (decide (((↑(List.length s2.2.2.2.1)) : Int) > 256))
 (k1 2)
 (br ((s2.1 : Int) == 4)
 (c21 s2.2.2.1 1 6
 (fun z3 => br (!z3)
 (k1 4)
 (l33r11
 (fun z4 => k1 z4)
 (fun z5 z6 => l33r19
 (fun z7 => k1 z7)
 (k1 0)
 z6.2.2.2.2.1 (↑(List.length z6.2.2.2.2.1)) 0 z5)
 s2.2.2.2.1 (↑(List.length s2.2.2.2.1)) 0 s1 s2)))
 (l33r11
 (fun z8 => k1 z8)
 (fun z9 z10 => l33r19
 (fun z11 => k1 z11)
 (k1 0)
 z10.2.2.2.2.1 (↑(List.length z10.2.2.2.2.1)) 0 z9)
 s2.2.2.2.1 (↑(List.length s2.2.2.2.1)) 0 s1 s2))
structure j33r6 (k1 : Int → Prop) (s1 : tFU) (s2 : tTM) : Prop where
 of : tj33r6 k1 s1 s2
def tc33 (x1 : tFU) (x2 : tTM) (k1 : Int → Prop) : Prop :=
 c21 x2.1 0 4
 (fun z3 => br (!z3)
 (k1 3)
 (br (decide ((0 : Int) ≤ x2.1 ∧ (x2.1 : Int) < ((5 : Nat) : Int)))
 (need False ([0, 1, 2, (IntKind.wrap .i64 ((↑(List.length x2.2.2.2.1)) + 1)), 0])[(Int.toNat x2.1)]? fun y4 =>
 br (((↑(List.length x2.2.2.2.2.1)) : Int) != y4)
 (k1 3)
 (br ((x2.1 : Int) != 3)
 (br (decide (((↑(List.length x2.2.2.2.1)) : Int) > 0))
 (j33s4
 (fun z5 => k1 z5)
 (fun z6 z7 => j33r6
 (fun z8 => k1 z8)
 z6 z7)
 true x1 x2)
 (br ((x2.1 : Int) != 4)
 (br ((x2.2.2.1 : Int) != 0)
 (j33s4
 (fun z9 => k1 z9)
 (fun z10 z11 => j33r6
 (fun z12 => k1 z12)
 z10 z11)
 true x1 x2)
 (br ((x2.1 : Int) == 1)
 (j33s4
 (fun z13 => k1 z13)
 (fun z14 z15 => j33r6
 (fun z16 => k1 z16)
 z14 z15)
 ((x2.2.1 : Int) != 0) x1 x2)
 (br ((x2.1 : Int) == 4)
 (j33s4
 (fun z17 => k1 z17)
 (fun z18 z19 => j33r6
 (fun z20 => k1 z20)
 z18 z19)
 ((x2.2.1 : Int) != 0) x1 x2)
 (j33s4
 (fun z21 => k1 z21)
 (fun z22 z23 => j33r6
 (fun z24 => k1 z24)
 z22 z23)
 false x1 x2))))
 (br ((x2.1 : Int) == 1)
 (j33s4
 (fun z25 => k1 z25)
 (fun z26 z27 => j33r6
 (fun z28 => k1 z28)
 z26 z27)
 ((x2.2.1 : Int) != 0) x1 x2)
 (br ((x2.1 : Int) == 4)
 (j33s4
 (fun z29 => k1 z29)
 (fun z30 z31 => j33r6
 (fun z32 => k1 z32)
 z30 z31)
 ((x2.2.1 : Int) != 0) x1 x2)
 (j33s4
 (fun z33 => k1 z33)
 (fun z34 z35 => j33r6
 (fun z36 => k1 z36)
 z34 z35)
 false x1 x2)))))
 (br ((x2.1 : Int) != 4)
 (br ((x2.2.2.1 : Int) != 0)
 (j33s4
 (fun z37 => k1 z37)
 (fun z38 z39 => j33r6
 (fun z40 => k1 z40)
 z38 z39)
 true x1 x2)
 (br ((x2.1 : Int) == 1)
 (j33s4
 (fun z41 => k1 z41)
 (fun z42 z43 => j33r6
 (fun z44 => k1 z44)
 z42 z43)
 ((x2.2.1 : Int) != 0) x1 x2)
 (br ((x2.1 : Int) == 4)
 (j33s4
 (fun z45 => k1 z45)
 (fun z46 z47 => j33r6
 (fun z48 => k1 z48)
 z46 z47)
 ((x2.2.1 : Int) != 0) x1 x2)
 (j33s4
 (fun z49 => k1 z49)
 (fun z50 z51 => j33r6
 (fun z52 => k1 z52)
 z50 z51)
 false x1 x2))))
 (br ((x2.1 : Int) == 1)
 (j33s4
 (fun z53 => k1 z53)
 (fun z54 z55 => j33r6
 (fun z56 => k1 z56)
 z54 z55)
 ((x2.2.1 : Int) != 0) x1 x2)
 (br ((x2.1 : Int) == 4)
 (j33s4
 (fun z57 => k1 z57)
 (fun z58 z59 => j33r6
 (fun z60 => k1 z60)
 z58 z59)
 ((x2.2.1 : Int) != 0) x1 x2)
 (j33s4
 (fun z61 => k1 z61)
 (fun z62 z63 => j33r6
 (fun z64 => k1 z64)
 z62 z63)
 false x1 x2))))))
 False))
structure c33 (x1 : tFU) (x2 : tTM) (k1 : Int → Prop) : Prop where
 of : tc33 x1 x2 k1
def tl22r3 (k1 : Int → Prop) (k2 : Prop) (s1 : List tBK) (s2 : Int) (s3 : Int) (s4 : tFU) (s5 : List Int) : Prop :=
 ∀ (I1 : (List tBK) → Int → Int → tFU → (List Int) → Prop),
 (∀ (s1 : List tBK) (s2 : Int) (s3 : Int) (s4 : tFU) (s5 : List Int), (br (decide ((s3 : Int) < s2))
 (need False (at? s1 s3) fun y6 =>
 l22r6
 (fun z7 => k1 z7)
 (fun z8 z9 z10 z11 z12 z13 => l22r14
 (fun z14 => k1 z14)
 (fun z15 z16 z17 z18 z19 z20 => c33 z18 z20.2.2.1
 (fun z21 => br ((z21 : Int) != 0)
 (k1 z21)
 (I1 z15 z16 (IntKind.wrap .i64 (z17 + 1)) z18 z19)))
 z8 z9 z10 z13.2.1 (↑(List.length z13.2.1)) 0 z11 z12 z13)
 s1 s2 s3 y6.1 (↑(List.length y6.1)) 0 s4 s5 y6)
 (k2)) → I1 s1 s2 s3 s4 s5) →
 I1 s1 s2 s3 s4 s5
structure l22r3 (k1 : Int → Prop) (k2 : Prop) (s1 : List tBK) (s2 : Int) (s3 : Int) (s4 : tFU) (s5 : List Int) : Prop where
 of : tl22r3 k1 k2 s1 s2 s3 s4 s5
def tc22 (x1 : tFU) (k1 : Int → Prop) : Prop :=
 l22r3
 (fun z2 => k1 z2)
 (k1 0)
 x1.2.1 (↑(List.length x1.2.1)) 0 x1 []
structure c22 (x1 : tFU) (k1 : Int → Prop) : Prop where
 of : tc22 x1 k1
def tl10r11 (k1 : Int → Int → Int → (List tBK) → Int → Int → tFU → (List Bool) → Prop) (s1 : Int) (s2 : Int) (s3 : Int) (s4 : Int) (s5 : List tBK) (s6 : Int) (s7 : Int) (s8 : List tED) (s9 : Int) (s10 : Int) (s11 : tFU) (s12 : List Bool) : Prop :=
 ∀ (I1 : Int → Int → Int → Int → (List tBK) → Int → Int → (List tED) → Int → Int → tFU → (List Bool) → Prop),
 (∀ (s1 : Int) (s2 : Int) (s3 : Int) (s4 : Int) (s5 : List tBK) (s6 : Int) (s7 : Int) (s8 : List tED) (s9 : Int) (s10 : Int) (s11 : tFU) (s12 : List Bool), (br (decide ((s10 : Int) < s9))
 (need False (at? s8 s10) fun y13 =>
 br (decide ((0 : Int) ≤ s2 ∧ (s2 : Int) < (↑(List.length s12))))
 (need False (s12)[(Int.toNat s2)]? fun y14 =>
 br (y14)
 (br ((y13.1 : Int) != s1)
 (c21 y13.1 0 (IntKind.wrap .i64 ((↑(List.length s11.2.1)) - 1))
 (fun z15 => br (z15)
 (br (decide ((0 : Int) ≤ y13.1 ∧ (y13.1 : Int) < (↑(List.length s12))))
 (need False (s12)[(Int.toNat y13.1)]? fun y16 =>
 I1 s1 s2 s3 s4 s5 s6 s7 s8 s9 (IntKind.wrap .i64 (s10 + 1)) s11 (List.set s12 (Int.toNat y13.1) true))
 False)
 (I1 s1 s2 s3 s4 s5 s6 s7 s8 s9 (IntKind.wrap .i64 (s10 + 1)) s11 s12)))
 (I1 s1 s2 s3 s4 s5 s6 s7 s8 s9 (IntKind.wrap .i64 (s10 + 1)) s11 s12))
 (I1 s1 s2 s3 s4 s5 s6 s7 s8 s9 (IntKind.wrap .i64 (s10 + 1)) s11 s12))
 False)
 (k1 s1 s3 s4 s5 s6 s7 s11 s12)) → I1 s1 s2 s3 s4 s5 s6 s7 s8 s9 s10 s11 s12) →
 I1 s1 s2 s3 s4 s5 s6 s7 s8 s9 s10 s11 s12
structure l10r11 (k1 : Int → Int → Int → (List tBK) → Int → Int → tFU → (List Bool) → Prop) (s1 : Int) (s2 : Int) (s3 : Int) (s4 : Int) (s5 : List tBK) (s6 : Int) (s7 : Int) (s8 : List tED) (s9 : Int) (s10 : Int) (s11 : tFU) (s12 : List Bool) : Prop where
 of : tl10r11 k1 s1 s2 s3 s4 s5 s6 s7 s8 s9 s10 s11 s12
def tl10r8 (k1 : Int → Int → Int → tFU → (List Bool) → Prop) (s1 : Int) (s2 : Int) (s3 : Int) (s4 : List tBK) (s5 : Int) (s6 : Int) (s7 : tFU) (s8 : List Bool) : Prop :=
 ∀ (I1 : Int → Int → Int → (List tBK) → Int → Int → tFU → (List Bool) → Prop),
 (∀ (s1 : Int) (s2 : Int) (s3 : Int) (s4 : List tBK) (s5 : Int) (s6 : Int) (s7 : tFU) (s8 : List Bool), (br (decide ((s6 : Int) < s5))
 (need False (at? s4 s6) fun y9 =>
 l10r11
 (fun z10 z11 z12 z13 z14 z15 z16 z17 => I1 z10 z11 z12 z13 z14 (IntKind.wrap .i64 (z15 + 1)) z16 z17)
 s1 s6 s2 s3 s4 s5 s6 y9.2.2.1.2.2.2.2.1 (↑(List.length y9.2.2.1.2.2.2.2.1)) 0 s7 s8)
 (k1 s1 s2 s3 s7 s8)) → I1 s1 s2 s3 s4 s5 s6 s7 s8) →
 I1 s1 s2 s3 s4 s5 s6 s7 s8
structure l10r8 (k1 : Int → Int → Int → tFU → (List Bool) → Prop) (s1 : Int) (s2 : Int) (s3 : Int) (s4 : List tBK) (s5 : Int) (s6 : Int) (s7 : tFU) (s8 : List Bool) : Prop where
 of : tl10r8 k1 s1 s2 s3 s4 s5 s6 s7 s8
def tl10r6 (k1 : (List Bool) → Prop) (s1 : Int) (s2 : Int) (s3 : Int) (s4 : tFU) (s5 : List Bool) : Prop :=
 ∀ (I1 : Int → Int → Int → tFU → (List Bool) → Prop),
 (∀ (s1 : Int) (s2 : Int) (s3 : Int) (s4 : tFU) (s5 : List Bool), (br (decide ((s3 : Int) < s2))
 (l10r8
 (fun z6 z7 z8 z9 z10 => I1 z6 z7 (IntKind.wrap .i64 (z8 + 1)) z9 z10)
 s1 s2 s3 s4.2.1 (↑(List.length s4.2.1)) 0 s4 s5)
 (k1 s5)) → I1 s1 s2 s3 s4 s5) →
 I1 s1 s2 s3 s4 s5
structure l10r6 (k1 : (List Bool) → Prop) (s1 : Int) (s2 : Int) (s3 : Int) (s4 : tFU) (s5 : List Bool) : Prop where
 of : tl10r6 k1 s1 s2 s3 s4 s5
def tc10 (x1 : tFU) (x2 : Int) (k1 : (List Bool) → Prop) : Prop :=
 br (decide ((0 : Int) ≤ (↑(List.length x1.2.1)) ∧ ((↑(List.length x1.2.1)) : Int) ≤ (↑(List.length x1.2.1)) ∧ (((↑(List.length x1.2.1)) * 1) : Int) ≤ 140737488355328))
 (br ((x2 : Int) == 0)
 (k1 (List.replicate (Int.toNat (↑(List.length x1.2.1))) (false : Bool)))
 (br (((↑(List.length x1.2.1)) : Int) == 0)
 (k1 (List.replicate (Int.toNat (↑(List.length x1.2.1))) (false : Bool)))
 (br (decide ((0 : Int) ≤ 0 ∧ (0 : Int) < (↑(List.length (List.replicate (Int.toNat (↑(List.length x1.2.1))) (false : Bool))))))
 (need False ((List.replicate (Int.toNat (↑(List.length x1.2.1))) (false : Bool)))[0]? fun y3 =>
 l10r6
 (fun z4 => k1 z4)
 x2 (↑(List.length x1.2.1)) 0 x1 (List.set (List.replicate (Int.toNat (↑(List.length x1.2.1))) (false : Bool)) 0 true))
 False)))
 False
structure c10 (x1 : tFU) (x2 : Int) (k1 : (List Bool) → Prop) : Prop where
 of : tc10 x1 x2 k1
def tl23r6 (k1 : Int → Int → Int → (List Bool) → Int → Bool → (List tBK) → Int → Int → tFU → Prop) (s1 : Int) (s2 : Int) (s3 : Int) (s4 : List Bool) (s5 : Int) (s6 : Bool) (s7 : List tBK) (s8 : Int) (s9 : Int) (s10 : List tIN) (s11 : Int) (s12 : Int) (s13 : tFU) : Prop :=
 ∀ (I1 : Int → Int → Int → (List Bool) → Int → Bool → (List tBK) → Int → Int → (List tIN) → Int → Int → tFU → Prop),
 (∀ (s1 : Int) (s2 : Int) (s3 : Int) (s4 : List Bool) (s5 : Int) (s6 : Bool) (s7 : List tBK) (s8 : Int) (s9 : Int) (s10 : List tIN) (s11 : Int) (s12 : Int) (s13 : tFU), (br (decide ((s12 : Int) < s11))
 (need False (at? s10 s12) fun y14 =>
 br (s6)
 (I1 s1 s2 s3 s4 s5 true s7 s8 s9 s10 s11 (IntKind.wrap .i64 (s12 + 1)) s13)
 (br ((y14.1 : Int) == s1)
 (br ((s5 : Int) != s2)
 (I1 s1 s2 s3 s4 s5 true s7 s8 s9 s10 s11 (IntKind.wrap .i64 (s12 + 1)) s13)
 (br (decide ((s12 : Int) < s3))
 (I1 s1 s2 s3 s4 s5 true s7 s8 s9 s10 s11 (IntKind.wrap .i64 (s12 + 1)) s13)
 (need False (at? s4 s2) fun y15 =>
 I1 s1 s2 s3 s4 s5 (!y15) s7 s8 s9 s10 s11 (IntKind.wrap .i64 (s12 + 1)) s13)))
 (I1 s1 s2 s3 s4 s5 false s7 s8 s9 s10 s11 (IntKind.wrap .i64 (s12 + 1)) s13)))
 (k1 s1 s2 s3 s4 s5 s6 s7 s8 s9 s13)) → I1 s1 s2 s3 s4 s5 s6 s7 s8 s9 s10 s11 s12 s13) →
 I1 s1 s2 s3 s4 s5 s6 s7 s8 s9 s10 s11 s12 s13
structure l23r6 (k1 : Int → Int → Int → (List Bool) → Int → Bool → (List tBK) → Int → Int → tFU → Prop) (s1 : Int) (s2 : Int) (s3 : Int) (s4 : List Bool) (s5 : Int) (s6 : Bool) (s7 : List tBK) (s8 : Int) (s9 : Int) (s10 : List tIN) (s11 : Int) (s12 : Int) (s13 : tFU) : Prop where
 of : tl23r6 k1 s1 s2 s3 s4 s5 s6 s7 s8 s9 s10 s11 s12 s13
def tc35 (x1 : tFU) (x2 : Int) (x3 : Int) (k1 : Bool → Prop) : Prop :=
 br ((x2 : Int) == x3)
 (k1 true)
 (c10 x1 x2
 (fun z4 => br (decide ((0 : Int) ≤ x3 ∧ (x3 : Int) < (↑(List.length z4))))
 (need False (z4)[(Int.toNat x3)]? fun y5 =>
 k1 (!y5))
 False))
structure c35 (x1 : tFU) (x2 : Int) (x3 : Int) (k1 : Bool → Prop) : Prop where
 of : tc35 x1 x2 x3 k1
def tl23r2 (k1 : Bool → Prop) (k2 : Prop) (s1 : Int) (s2 : Int) (s3 : Int) (s4 : List Bool) (s5 : List tBK) (s6 : Int) (s7 : Int) (s8 : tFU) : Prop :=
 ∀ (I1 : Int → Int → Int → (List Bool) → (List tBK) → Int → Int → tFU → Prop),
 (∀ (s1 : Int) (s2 : Int) (s3 : Int) (s4 : List Bool) (s5 : List tBK) (s6 : Int) (s7 : Int) (s8 : tFU), (br (decide ((s7 : Int) < s6))
 (need False (at? s5 s7) fun y9 =>
 c34 y9.1 s1
 (fun z10 => l23r6
 (fun z11 z12 z13 z14 z15 z16 z17 z18 z19 z20 => br (z16)
 (need False (at? z14 z12) fun y21 =>
 br (!y21)
 (k1 true)
 (c35 z20 z15 z12
 (fun z22 => k1 z22)))
 (I1 z11 z12 z13 z14 z17 z18 (IntKind.wrap .i64 (z19 + 1)) z20))
 s1 s2 s3 s4 s7 z10 s5 s6 s7 y9.2.1 (↑(List.length y9.2.1)) 0 s8))
 (k2)) → I1 s1 s2 s3 s4 s5 s6 s7 s8) →
 I1 s1 s2 s3 s4 s5 s6 s7 s8
structure l23r2 (k1 : Bool → Prop) (k2 : Prop) (s1 : Int) (s2 : Int) (s3 : Int) (s4 : List Bool) (s5 : List tBK) (s6 : Int) (s7 : Int) (s8 : tFU) : Prop where
 of : tl23r2 k1 k2 s1 s2 s3 s4 s5 s6 s7 s8
def tc23 (x1 : tFU) (x2 : Int) (x3 : Int) (x4 : Int) (x5 : List Bool) (k1 : Bool → Prop) : Prop :=
 l23r2
 (fun z6 => k1 z6)
 (k1 false)
 x2 x3 x4 x5 x1.2.1 (↑(List.length x1.2.1)) 0 x1
structure c23 (x1 : tFU) (x2 : Int) (x3 : Int) (x4 : Int) (x5 : List Bool) (k1 : Bool → Prop) : Prop where
 of : tc23 x1 x2 x3 x4 x5 k1
def tl9r24 (k1 : Int → Prop) (k2 : Int → (List tBK) → Int → Int → (List tIN) → Int → Int → tFU → (List Bool) → tBK → Prop) (s1 : Int) (s2 : Int) (s3 : List tBK) (s4 : Int) (s5 : Int) (s6 : List tIN) (s7 : Int) (s8 : Int) (s9 : List Int) (s10 : Int) (s11 : Int) (s12 : tFU) (s13 : List Bool) (s14 : tBK) : Prop :=
 ∀ (I1 : Int → Int → (List tBK) → Int → Int → (List tIN) → Int → Int → (List Int) → Int → Int → tFU → (List Bool) → tBK → Prop),
 (∀ (s1 : Int) (s2 : Int) (s3 : List tBK) (s4 : Int) (s5 : Int) (s6 : List tIN) (s7 : Int) (s8 : Int) (s9 : List Int) (s10 : Int) (s11 : Int) (s12 : tFU) (s13 : List Bool) (s14 : tBK), (br (decide ((s11 : Int) < s10))
 (need False (at? s9 s11) fun y15 =>
 c23 s12 y15 s1 s2 s13
 (fun z16 => br (!z16)
 (k1 6)
 (I1 s1 s2 s3 s4 s5 s6 s7 s8 s9 s10 (IntKind.wrap .i64 (s11 + 1)) s12 s13 s14)))
 (k2 s1 s3 s4 s5 s6 s7 s8 s12 s13 s14)) → I1 s1 s2 s3 s4 s5 s6 s7 s8 s9 s10 s11 s12 s13 s14) →
 I1 s1 s2 s3 s4 s5 s6 s7 s8 s9 s10 s11 s12 s13 s14
structure l9r24 (k1 : Int → Prop) (k2 : Int → (List tBK) → Int → Int → (List tIN) → Int → Int → tFU → (List Bool) → tBK → Prop) (s1 : Int) (s2 : Int) (s3 : List tBK) (s4 : Int) (s5 : Int) (s6 : List tIN) (s7 : Int) (s8 : Int) (s9 : List Int) (s10 : Int) (s11 : Int) (s12 : tFU) (s13 : List Bool) (s14 : tBK) : Prop where
 of : tl9r24 k1 k2 s1 s2 s3 s4 s5 s6 s7 s8 s9 s10 s11 s12 s13 s14
def tl9r21 (k1 : Int → Prop) (k2 : Int → (List tBK) → Int → Int → tFU → (List Bool) → tBK → Prop) (s1 : Int) (s2 : List tBK) (s3 : Int) (s4 : Int) (s5 : List tIN) (s6 : Int) (s7 : Int) (s8 : tFU) (s9 : List Bool) (s10 : tBK) : Prop :=
 ∀ (I1 : Int → (List tBK) → Int → Int → (List tIN) → Int → Int → tFU → (List Bool) → tBK → Prop),
 (∀ (s1 : Int) (s2 : List tBK) (s3 : Int) (s4 : Int) (s5 : List tIN) (s6 : Int) (s7 : Int) (s8 : tFU) (s9 : List Bool) (s10 : tBK), (br (decide ((s7 : Int) < s6))
 (need False (at? s5 s7) fun y11 =>
 l9r24
 (fun z12 => k1 z12)
 (fun z13 z14 z15 z16 z17 z18 z19 z20 z21 z22 => I1 z13 z14 z15 z16 z17 z18 (IntKind.wrap .i64 (z19 + 1)) z20 z21 z22)
 s1 s7 s2 s3 s4 s5 s6 s7 y11.2.2.2.1 (↑(List.length y11.2.2.2.1)) 0 s8 s9 s10)
 (k2 s1 s2 s3 s4 s8 s9 s10)) → I1 s1 s2 s3 s4 s5 s6 s7 s8 s9 s10) →
 I1 s1 s2 s3 s4 s5 s6 s7 s8 s9 s10
structure l9r21 (k1 : Int → Prop) (k2 : Int → (List tBK) → Int → Int → tFU → (List Bool) → tBK → Prop) (s1 : Int) (s2 : List tBK) (s3 : Int) (s4 : Int) (s5 : List tIN) (s6 : Int) (s7 : Int) (s8 : tFU) (s9 : List Bool) (s10 : tBK) : Prop where
 of : tl9r21 k1 k2 s1 s2 s3 s4 s5 s6 s7 s8 s9 s10
def tl24r5 (k1 : (List Int) → Prop) (s1 : List tED) (s2 : Int) (s3 : Int) (s4 : List Int) : Prop :=
 ∀ (I1 : (List tED) → Int → Int → (List Int) → Prop),
 (∀ (s1 : List tED) (s2 : Int) (s3 : Int) (s4 : List Int), (br (decide ((s3 : Int) < s2))
 (need False (at? s1 s3) fun y5 =>
 br (List.isEmpty y5.2.1)
 (I1 s1 s2 (IntKind.wrap .i64 (s3 + 1)) s4)
 (br (roomB ((List.length s4) + (List.length y5.2.1)) 8)
 (I1 s1 s2 (IntKind.wrap .i64 (s3 + 1)) (s4 ++ y5.2.1))
 False))
 (k1 s4)) → I1 s1 s2 s3 s4) →
 I1 s1 s2 s3 s4
structure l24r5 (k1 : (List Int) → Prop) (s1 : List tED) (s2 : Int) (s3 : Int) (s4 : List Int) : Prop where
 of : tl24r5 k1 s1 s2 s3 s4
def tc24 (x1 : tTM) (k1 : (List Int) → Prop) : Prop :=
 br ((x1.1 : Int) == 0)
 (br (true)
 (l24r5
 (fun z2 => k1 z2)
 x1.2.2.2.2.1 (↑(List.length x1.2.2.2.2.1)) 0 ([] ++ [x1.2.1]))
 False)
 (br ((x1.1 : Int) == 2)
 (br (true)
 (l24r5
 (fun z3 => k1 z3)
 x1.2.2.2.2.1 (↑(List.length x1.2.2.2.2.1)) 0 ([] ++ [x1.2.1]))
 False)
 (br ((x1.1 : Int) == 3)
 (br (true)
 (l24r5
 (fun z4 => k1 z4)
 x1.2.2.2.2.1 (↑(List.length x1.2.2.2.2.1)) 0 ([] ++ [x1.2.1]))
 False)
 (l24r5
 (fun z5 => k1 z5)
 x1.2.2.2.2.1 (↑(List.length x1.2.2.2.2.1)) 0 [])))
structure c24 (x1 : tTM) (k1 : (List Int) → Prop) : Prop where
 of : tc24 x1 k1
def tl9r31 (k1 : Int → Prop) (k2 : (List tBK) → Int → Int → tFU → (List Bool) → Prop) (s1 : Int) (s2 : List tBK) (s3 : Int) (s4 : Int) (s5 : Int) (s6 : Int) (s7 : tFU) (s8 : List Bool) (s9 : tBK) (s10 : List Int) : Prop :=
 ∀ (I1 : Int → (List tBK) → Int → Int → Int → Int → tFU → (List Bool) → tBK → (List Int) → Prop),
 (∀ (s1 : Int) (s2 : List tBK) (s3 : Int) (s4 : Int) (s5 : Int) (s6 : Int) (s7 : tFU) (s8 : List Bool) (s9 : tBK) (s10 : List Int), (br (decide ((s6 : Int) < s5))
 (br (decide ((0 : Int) ≤ s6 ∧ (s6 : Int) < (↑(List.length s10))))
 (need False (s10)[(Int.toNat s6)]? fun y11 =>
 c23 s7 y11 s1 (↑(List.length s9.2.1)) s8
 (fun z12 => br (!z12)
 (k1 6)
 (I1 s1 s2 s3 s4 s5 (IntKind.wrap .i64 (s6 + 1)) s7 s8 s9 s10)))
 False)
 (k2 s2 s3 s4 s7 s8)) → I1 s1 s2 s3 s4 s5 s6 s7 s8 s9 s10) →
 I1 s1 s2 s3 s4 s5 s6 s7 s8 s9 s10
structure l9r31 (k1 : Int → Prop) (k2 : (List tBK) → Int → Int → tFU → (List Bool) → Prop) (s1 : Int) (s2 : List tBK) (s3 : Int) (s4 : Int) (s5 : Int) (s6 : Int) (s7 : tFU) (s8 : List Bool) (s9 : tBK) (s10 : List Int) : Prop where
 of : tl9r31 k1 k2 s1 s2 s3 s4 s5 s6 s7 s8 s9 s10
def tl9r18 (k1 : Int → Prop) (k2 : Prop) (s1 : List tBK) (s2 : Int) (s3 : Int) (s4 : tFU) (s5 : List Bool) : Prop :=
 ∀ (I1 : (List tBK) → Int → Int → tFU → (List Bool) → Prop),
 (∀ (s1 : List tBK) (s2 : Int) (s3 : Int) (s4 : tFU) (s5 : List Bool), (br (decide ((s3 : Int) < s2))
 (need False (at? s1 s3) fun y6 =>
 l9r21
 (fun z7 => k1 z7)
 (fun z8 z9 z10 z11 z12 z13 z14 => c24 z14.2.2.1
 (fun z15 => l9r31
 (fun z16 => k1 z16)
 (fun z17 z18 z19 z20 z21 => I1 z17 z18 (IntKind.wrap .i64 (z19 + 1)) z20 z21)
 z8 z9 z10 z11 (↑(List.length z15)) 0 z12 z13 z14 z15))
 s3 s1 s2 s3 y6.2.1 (↑(List.length y6.2.1)) 0 s4 s5 y6)
 (k2)) → I1 s1 s2 s3 s4 s5) →
 I1 s1 s2 s3 s4 s5
structure l9r18 (k1 : Int → Prop) (k2 : Prop) (s1 : List tBK) (s2 : Int) (s3 : Int) (s4 : tFU) (s5 : List Bool) : Prop where
 of : tl9r18 k1 k2 s1 s2 s3 s4 s5
def tc9 (x1 : tFU) (k1 : Int → Prop) : Prop :=
 l9r3
 (fun z2 z3 => br (((↑(List.length z3.2.1)) : Int) == 0)
 (k1 3)
 (br (decide (((↑(List.length z3.2.1)) : Int) > 128))
 (k1 2)
 (br (decide ((z2 : Int) > 1024))
 (k1 2)
 (need False (at? z3.2.1 0) fun y4 =>
 br (decide (((↑(List.length y4.1)) : Int) > 6))
 (k1 2)
 (c21 z3.1 (-1) 1048575
 (fun z5 => br (!z5)
 (k1 4)
 (c22 z3
 (fun z6 => br ((z6 : Int) != 0)
 (k1 z6)
 (c10 z3 (-1)
 (fun z7 => l9r18
 (fun z8 => k1 z8)
 (k1 0)
 z3.2.1 (↑(List.length z3.2.1)) 0 z3 z7))))))))))
 0 x1.2.1 (↑(List.length x1.2.1)) 0 x1
structure c9 (x1 : tFU) (k1 : Int → Prop) : Prop where
 of : tc9 x1 k1
def tl12r6 (k1 : Int → (List tBK) → Int → Int → (List Int) → Prop) (s1 : Int) (s2 : Int) (s3 : List tBK) (s4 : Int) (s5 : Int) (s6 : List tED) (s7 : Int) (s8 : Int) (s9 : List Int) : Prop :=
 ∀ (I1 : Int → Int → (List tBK) → Int → Int → (List tED) → Int → Int → (List Int) → Prop),
 (∀ (s1 : Int) (s2 : Int) (s3 : List tBK) (s4 : Int) (s5 : Int) (s6 : List tED) (s7 : Int) (s8 : Int) (s9 : List Int), (br (decide ((s8 : Int) < s7))
 (need False (at? s6 s8) fun y10 =>
 br ((y10.1 : Int) == s1)
 (br (roomB ((List.length s9) + 1) 8)
 (I1 s1 s2 s3 s4 s5 s6 s7 (IntKind.wrap .i64 (s8 + 1)) (s9 ++ [s2]))
 False)
 (I1 s1 s2 s3 s4 s5 s6 s7 (IntKind.wrap .i64 (s8 + 1)) s9))
 (k1 s1 s3 s4 s5 s9)) → I1 s1 s2 s3 s4 s5 s6 s7 s8 s9) →
 I1 s1 s2 s3 s4 s5 s6 s7 s8 s9
structure l12r6 (k1 : Int → (List tBK) → Int → Int → (List Int) → Prop) (s1 : Int) (s2 : Int) (s3 : List tBK) (s4 : Int) (s5 : Int) (s6 : List tED) (s7 : Int) (s8 : Int) (s9 : List Int) : Prop where
 of : tl12r6 k1 s1 s2 s3 s4 s5 s6 s7 s8 s9
def tl12r3 (k1 : (List Int) → Prop) (s1 : Int) (s2 : List tBK) (s3 : Int) (s4 : Int) (s5 : List Int) : Prop :=
 ∀ (I1 : Int → (List tBK) → Int → Int → (List Int) → Prop),
 (∀ (s1 : Int) (s2 : List tBK) (s3 : Int) (s4 : Int) (s5 : List Int), (br (decide ((s4 : Int) < s3))
 (need False (at? s2 s4) fun y6 =>
 l12r6
 (fun z7 z8 z9 z10 z11 => I1 z7 z8 z9 (IntKind.wrap .i64 (z10 + 1)) z11)
 s1 s4 s2 s3 s4 y6.2.2.1.2.2.2.2.1 (↑(List.length y6.2.2.1.2.2.2.2.1)) 0 s5)
 (k1 s5)) → I1 s1 s2 s3 s4 s5) →
 I1 s1 s2 s3 s4 s5
structure l12r3 (k1 : (List Int) → Prop) (s1 : Int) (s2 : List tBK) (s3 : Int) (s4 : Int) (s5 : List Int) : Prop where
 of : tl12r3 k1 s1 s2 s3 s4 s5
def tc12 (x1 : tFU) (x2 : Int) (k1 : (List Int) → Prop) : Prop :=
 l12r3
 (fun z3 => k1 z3)
 x2 x1.2.1 (↑(List.length x1.2.1)) 0 []
structure c12 (x1 : tFU) (x2 : Int) (k1 : (List Int) → Prop) : Prop where
 of : tc12 x1 x2 k1
def tl3r15 (k1 : Bool → Prop) (k2 : tFU → (List Int) → (List Int) → (List Int) → Prop) (s1 : Int) (s2 : Int) (s3 : tFU) (s4 : List (List Int)) (s5 : List Int) (s6 : List Int) (s7 : List Int) (s8 : List Bool) : Prop :=
 ∀ (I1 : Int → Int → tFU → (List (List Int)) → (List Int) → (List Int) → (List Int) → (List Bool) → Prop),
 (∀ (s1 : Int) (s2 : Int) (s3 : tFU) (s4 : List (List Int)) (s5 : List Int) (s6 : List Int) (s7 : List Int) (s8 : List Bool), (br (decide ((s2 : Int) < s1))
 (br (decide ((0 : Int) ≤ s2 ∧ (s2 : Int) < (↑(List.length s8))))
 (need False (s8)[(Int.toNat s2)]? fun y9 =>
 br (decide ((0 : Int) ≤ s2 ∧ (s2 : Int) < (↑(List.length s4))))
 ((need False (s4)[(Int.toNat s2)]? fun y10 =>
 need False (s4)[(Int.toNat s2)]? fun y11 =>
 br (eqT (.pair (.int .i64) (.pair (.sl (.pair (.sl (.int .i64)) (.pair (.sl (.pair (.int .i64) (.pair (.int .i64) (.pair (.int .i64) (.pair (.sl (.int .i64)) .unit))))) (.pair (.pair (.int .i64) (.pair (.int .i64) (.pair (.int .i64) (.pair (.sl (.int .i64)) (.pair (.sl (.pair (.int .i64) (.pair (.sl (.int .i64)) .unit))) .unit))))) .unit)))) .unit)) s3 s3)
 (br (eqT (.int .i64) s2 s2)
 (c12 s3 s2
 (fun z12 => c11 y11 z12
 (fun z13 => br (!z13)
 (k1 false)
 (br (y9)
 (br (roomB ((List.length s7) + 1) 8)
 (I1 s1 (IntKind.wrap .i64 (s2 + 1)) s3 (List.set s4 (Int.toNat s2) y11) s5 s6 (s7 ++ [s2]) s8)
 False)
 (I1 s1 (IntKind.wrap .i64 (s2 + 1)) s3 (List.set s4 (Int.toNat s2) y11) s5 s6 s7 s8)))))
 False)
 False) ∧
 (c12 s3 s2
 (fun z14 => br (eqT (.int .i64) s2 s2)
 (br (decide ((0 : Int) ≤ s2 ∧ (s2 : Int) < (↑(List.length s4))))
 (br ((decide ((Int.toNat s2) = (Int.toNat s2))) && true)
 (need False (s4)[(Int.toNat s2)]? fun y15 =>
 need False (s4)[(Int.toNat s2)]? fun y16 =>
 c11 y16 z14
 (fun z17 => br (!z17)
 (k1 false)
 (br (y9)
 (br (roomB ((List.length s7) + 1) 8)
 (I1 s1 (IntKind.wrap .i64 (s2 + 1)) s3 (List.set s4 (Int.toNat s2) y16) s5 s6 (s7 ++ [s2]) s8)
 False)
 (I1 s1 (IntKind.wrap .i64 (s2 + 1)) s3 (List.set s4 (Int.toNat s2) y16) s5 s6 s7 s8))))
 False)
 False)
 False)))
 False)
 False)
 (k2 s3 s5 s6 s7)) → I1 s1 s2 s3 s4 s5 s6 s7 s8) →
 I1 s1 s2 s3 s4 s5 s6 s7 s8
structure l3r15 (k1 : Bool → Prop) (k2 : tFU → (List Int) → (List Int) → (List Int) → Prop) (s1 : Int) (s2 : Int) (s3 : tFU) (s4 : List (List Int)) (s5 : List Int) (s6 : List Int) (s7 : List Int) (s8 : List Bool) : Prop where
 of : tl3r15 k1 k2 s1 s2 s3 s4 s5 s6 s7 s8
def tl25r3 (R25 : tFU → (Int) → (List Bool) → (List Int) → ((List Bool) → (List Int) → Prop) → Prop) (k1 : Int → (List Bool) → (List Int) → Prop) (k2 : Int → (List Bool) → (List Int) → Prop) (s1 : Int) (s2 : List tED) (s3 : Int) (s4 : Int) (s5 : List Bool) (s6 : List Int) (s7 : tFU) : Prop :=
 ∀ (I1 : Int → (List tED) → Int → Int → (List Bool) → (List Int) → tFU → Prop) (I2 : Int → (List tED) → Int → Int → (List Bool) → (List Int) → tFU → Prop),
 (∀ (s1 : Int) (s2 : List tED) (s3 : Int) (s4 : Int) (s5 : List Bool) (s6 : List Int) (s7 : tFU), (br (decide ((s4 : Int) < s3))
 (need False (at? s2 s4) fun y8 =>
 br (decide ((0 : Int) ≤ y8.1 ∧ (y8.1 : Int) < (↑(List.length s5))))
 (need False (s5)[(Int.toNat y8.1)]? fun y9 =>
 br (!y9)
 (R25 s7 y8.1 s5 s6
 (fun z10 z11 => I2 s1 s2 s3 (IntKind.wrap .i64 (s4 + 1)) z10 z11 s7))
 (I1 s1 s2 s3 (IntKind.wrap .i64 (s4 + 1)) s5 s6 s7))
 False)
 (k1 s1 s5 s6)) → I1 s1 s2 s3 s4 s5 s6 s7) →
 (∀ (s12 : Int) (s13 : List tED) (s14 : Int) (s15 : Int) (s16 : List Bool) (s17 : List Int) (s18 : tFU), (br (decide ((s15 : Int) < s14))
 (need False (at? s13 s15) fun y19 =>
 br (decide ((0 : Int) ≤ y19.1 ∧ (y19.1 : Int) < (↑(List.length s16))))
 (need False (s16)[(Int.toNat y19.1)]? fun y20 =>
 br (!y20)
 (R25 s18 y19.1 s16 s17
 (fun z21 z22 => I2 s12 s13 s14 (IntKind.wrap .i64 (s15 + 1)) z21 z22 s18))
 (I2 s12 s13 s14 (IntKind.wrap .i64 (s15 + 1)) s16 s17 s18))
 False)
 (k2 s12 s16 s17)) → I2 s12 s13 s14 s15 s16 s17 s18) →
 I1 s1 s2 s3 s4 s5 s6 s7
structure l25r3 (R25 : tFU → (Int) → (List Bool) → (List Int) → ((List Bool) → (List Int) → Prop) → Prop) (k1 : Int → (List Bool) → (List Int) → Prop) (k2 : Int → (List Bool) → (List Int) → Prop) (s1 : Int) (s2 : List tED) (s3 : Int) (s4 : Int) (s5 : List Bool) (s6 : List Int) (s7 : tFU) : Prop where
 of : tl25r3 R25 k1 k2 s1 s2 s3 s4 s5 s6 s7
def tc25 (x1 : tFU) (x2 : Int) (x3 : List Bool) (x4 : List Int) (k1 : (List Bool) → (List Int) → Prop) : Prop :=
 ∀ (R25 : tFU → (Int) → (List Bool) → (List Int) → ((List Bool) → (List Int) → Prop) → Prop), (∀ (x1 : tFU) (x2 : Int) (x3 : List Bool) (x4 : List Int) (k1 : (List Bool) → (List Int) → Prop), (br (decide ((0 : Int) ≤ x2 ∧ (x2 : Int) < (↑(List.length x3))))
 (need False (x3)[(Int.toNat x2)]? fun y5 =>
 need False (at? x1.2.1 x2) fun y6 =>
 l25r3 R25
 (fun z7 z8 z9 => br (roomB ((List.length z9) + 1) 8)
 (k1 z8 (z9 ++ [z7]))
 False)
 (fun z10 z11 z12 => br (roomB ((List.length z12) + 1) 8)
 (k1 z11 (z12 ++ [z10]))
 False)
 x2 y6.2.2.1.2.2.2.2.1 (↑(List.length y6.2.2.1.2.2.2.2.1)) 0 (List.set x3 (Int.toNat x2) true) x4 x1)
 False) → R25 x1 x2 x3 x4 k1) → R25 x1 x2 x3 x4 k1
structure c25 (x1 : tFU) (x2 : Int) (x3 : List Bool) (x4 : List Int) (k1 : (List Bool) → (List Int) → Prop) : Prop where
 of : tc25 x1 x2 x3 x4 k1
def tc13 (x1 : tFU) (k1 : (List Int) → Prop) : Prop :=
 br (decide ((0 : Int) ≤ (↑(List.length x1.2.1)) ∧ ((↑(List.length x1.2.1)) : Int) ≤ (↑(List.length x1.2.1)) ∧ (((↑(List.length x1.2.1)) * 1) : Int) ≤ 140737488355328))
 (c25 x1 0 (List.replicate (Int.toNat (↑(List.length x1.2.1))) (false : Bool)) []
 (fun z2 z3 => k1 z3))
 False
structure c13 (x1 : tFU) (k1 : (List Int) → Prop) : Prop where
 of : tc13 x1 k1
def tl3r24 (k1 : (List Int) → (List Int) → (List Int) → (List Int) → Prop) (s1 : Int) (s2 : Int) (s3 : List Int) (s4 : List Int) (s5 : List Int) (s6 : List Int) : Prop :=
 ∀ (I1 : Int → Int → (List Int) → (List Int) → (List Int) → (List Int) → Prop),
 (∀ (s1 : Int) (s2 : Int) (s3 : List Int) (s4 : List Int) (s5 : List Int) (s6 : List Int), (br (decide ((s2 : Int) < s1))
 (br (decide ((0 : Int) ≤ (IntKind.wrap .i64 ((IntKind.wrap .i64 ((↑(List.length s6)) - 1)) - s2)) ∧ ((IntKind.wrap .i64 ((IntKind.wrap .i64 ((↑(List.length s6)) - 1)) - s2)) : Int) < (↑(List.length s6))))
 (need False (s6)[(Int.toNat (IntKind.wrap .i64 ((IntKind.wrap .i64 ((↑(List.length s6)) - 1)) - s2)))]? fun y7 =>
 br (decide ((0 : Int) ≤ s2 ∧ (s2 : Int) < (↑(List.length s6))))
 (need False (s6)[(Int.toNat s2)]? fun y8 =>
 br (decide ((0 : Int) ≤ s2 ∧ (s2 : Int) < (↑(List.length s6))))
 (need False (s6)[(Int.toNat s2)]? fun y9 =>
 br (eqT (.int .i64) (((List.length s6) : Nat) : Int) (((List.length (List.set s6 (Int.toNat s2) y7)) : Nat) : Int))
 (br (eqT (.int .i64) (IntKind.wrap .i64 ((((List.length s6) : Nat) : Int) - 1)) (IntKind.wrap .i64 ((((List.length s6) : Nat) : Int) - 1)))
 (br (eqT (.int .i64) s2 s2)
 (br (eqT (.int .i64) (IntKind.wrap .i64 ((IntKind.wrap .i64 ((((List.length s6) : Nat) : Int) - 1)) - s2)) (IntKind.wrap .i64 ((IntKind.wrap .i64 ((((List.length s6) : Nat) : Int) - 1)) - s2)))
 (br (decide ((0 : Int) ≤ (IntKind.wrap .i64 ((IntKind.wrap .i64 ((↑(List.length s6)) - 1)) - s2)) ∧ ((IntKind.wrap .i64 ((IntKind.wrap .i64 ((↑(List.length s6)) - 1)) - s2)) : Int) < (↑(List.length (List.set s6 (Int.toNat s2) y7)))))
 (need False ((List.set s6 (Int.toNat s2) y7))[(Int.toNat (IntKind.wrap .i64 ((IntKind.wrap .i64 ((↑(List.length s6)) - 1)) - s2)))]? fun y10 =>
 I1 s1 (IntKind.wrap .i64 (s2 + 1)) s3 s4 s5 (List.set (List.set s6 (Int.toNat s2) y7) (Int.toNat (IntKind.wrap .i64 ((IntKind.wrap .i64 ((↑(List.length s6)) - 1)) - s2))) y8))
 False)
 False)
 False)
 False)
 False)
 False)
 False)
 False)
 (k1 s3 s4 s5 s6)) → I1 s1 s2 s3 s4 s5 s6) →
 I1 s1 s2 s3 s4 s5 s6
structure l3r24 (k1 : (List Int) → (List Int) → (List Int) → (List Int) → Prop) (s1 : Int) (s2 : Int) (s3 : List Int) (s4 : List Int) (s5 : List Int) (s6 : List Int) : Prop where
 of : tl3r24 k1 s1 s2 s3 s4 s5 s6
def tc3 (x1 : tFU) (k1 : Bool → Prop) : Prop :=
 c4 
 (fun z2 => br (!z2)
 (k1 false)
 (c5 x1
 (fun z3 => br (!z3)
 (k1 true)
 (c6 x1
 (fun z4 z5 => c7 x1
 (fun z6 z7 => c8 x1
 (fun z8 z9 => c9 x1
 (fun z10 => br ((z10 : Int) != 0)
 (br ((z4 : Int) == z10)
 (br ((z6 : Int) == z10)
 (br ((z8 : Int) == z10)
 (k1 (((IntKind.wrap .i64 ((IntKind.wrap .i64 ((↑(List.length z5)) + (↑(List.length z7)))) + (↑(List.length z9)))) : Int) == 0))
 (k1 false))
 (k1 false))
 (k1 false))
 (br ((z4 : Int) != 0)
 (k1 false)
 (br ((z6 : Int) != 0)
 (k1 false)
 (br ((z8 : Int) != 0)
 (k1 false)
 (br (((↑(List.length z5)) : Int) != (↑(List.length x1.2.1)))
 (k1 false)
 (c10 x1 (-1)
 (fun z11 => l3r15
 (fun z12 => k1 z12)
 (fun z13 z14 z15 z16 => c13 z13
 (fun z17 => l3r24
 (fun z18 z19 z20 z21 => c11 z18 z20
 (fun z22 => br (z22)
 (c11 z19 z21
 (fun z23 => k1 z23))
 (k1 false)))
 (IntKind.wrap .i64 (Int.tdiv (↑(List.length z17)) 2)) 0 z14 z15 z16 z17))
 (↑(List.length z11)) 0 x1 z5 z7 z9 [] z11))))))))))))))
structure c3 (x1 : tFU) (k1 : Bool → Prop) : Prop where
 of : tc3 x1 k1
end Go.Proofs.Yteeigkbjjoedoaa
