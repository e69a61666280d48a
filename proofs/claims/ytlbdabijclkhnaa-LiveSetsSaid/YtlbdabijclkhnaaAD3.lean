/- What the functions compute, as plain Lean (printed by a program). -/
import Derived.Test.YtlbdabijclkhnaaATypT
namespace Go.Proofs.Ytlbdabijclkhnaa
open Go.Abs
abbrev tFU := Int × (List ((List Int) × (List (Int × Int × Int × (List Int) × Unit)) × (Int × Int × Int × (List Int) × (List (Int × (List Int) × Unit)) × Unit) × Unit)) × Unit
abbrev tBK := (List Int) × (List (Int × Int × Int × (List Int) × Unit)) × (Int × Int × Int × (List Int) × (List (Int × (List Int) × Unit)) × Unit) × Unit
abbrev tTM := Int × Int × Int × (List Int) × (List (Int × (List Int) × Unit)) × Unit
abbrev tIN := Int × Int × Int × (List Int) × Unit
abbrev tED := Int × (List Int) × Unit
abbrev q0 := (List (Int × Int × Int × Int × Unit))
abbrev q1 := (Int × (Int × Int × Unit))
abbrev q2 := (List (List Bool))
set_option linter.unusedVariables false
structure l28r3 (k1 : Int → tFU → Prop) (s1 : Int) (s2 : List tBK) (s3 s4 : Int) (s5 : tFU) : Prop where
of :
 ∀ (I1 : Int → (List tBK) → Int → Int → tFU → Prop),
 (∀ (s1 : Int) (s2 : List tBK) (s3 s4 : Int) (s5 : tFU), (br (decide (s4 < s3))
 (need False (at? s2 s4) fun y6 =>
 I1 (IntKind.wrap .i64 (s1 + (↑(List.length y6.2.1)))) s2 s3 (IntKind.wrap .i64 (s4 + 1)) s5)
 (k1 s1 s5)) → I1 s1 s2 s3 s4 s5) →
 I1 s1 s2 s3 s4 s5
structure c43 (x1 x2 x3 : Int) (k1 : Bool → Prop) : Prop where
of :
 br (decide (x1 ≥ x2))
 (k1 (decide ((x1 : Int) ≤ x3)))
 (k1 false)
structure c53 (x1 : Int) (x2 : Int × Int × Unit) (x3 : tFU) (x4 : List q1) (k1 : Int → tFU → (List q1) → Prop) : Prop where
of :
 c43 x1 0 4095
 (fun z5 => br (!z5)
 (k1 4 x3 x4)
 (br (mhas x4 x1)
 (k1 7 x3 x4)
 (k1 0 x3 (mput x4 x1 x2))))
structure l44r3 (k1 : Int → tFU → (List q1) → Prop) (k2 : Int → tFU → (List q1) → tBK → Prop) (s1 : Int) (s2 : List Int) (s3 s4 : Int) (s5 : tFU) (s6 : List q1) (s7 : tBK) : Prop where
of :
 ∀ (I1 : Int → (List Int) → Int → Int → tFU → (List q1) → tBK → Prop),
 (∀ (s1 : Int) (s2 : List Int) (s3 s4 : Int) (s5 : tFU) (s6 : List q1) (s7 : tBK), (br (decide (s4 < s3))
 (need False (at? s2 s4) fun y8 =>
 c53 y8 (s1, 0, ()) s5 s6
 (fun z9 z10 z11 => br (z9 != 0)
 (k1 z9 z10 z11)
 (I1 s1 s2 s3 (IntKind.wrap .i64 (s4 + 1)) z10 z11 s7)))
 (k2 s1 s5 s6 s7)) → I1 s1 s2 s3 s4 s5 s6 s7) →
 I1 s1 s2 s3 s4 s5 s6 s7
structure c60 (x1 : tIN) (k1 : Int → Bool → Prop) : Prop where
of :
 br ((x1.2.1 : Int) == 0)
 (k1 0 true)
 (br ((x1.2.1 : Int) == 1)
 (k1 2 true)
 (br ((x1.2.1 : Int) == 2)
 (k1 2 true)
 (br ((x1.2.1 : Int) == 3)
 (k1 2 true)
 (br ((x1.2.1 : Int) == 4)
 (k1 2 true)
 (br ((x1.2.1 : Int) == 5)
 (k1 2 true)
 (br ((x1.2.1 : Int) == 6)
 (k1 2 true)
 (br ((x1.2.1 : Int) == 7)
 (k1 2 true)
 (br ((x1.2.1 : Int) == 16)
 (k1 2 true)
 (br ((x1.2.1 : Int) == 18)
 (k1 2 true)
 (br ((x1.2.1 : Int) == 19)
 (k1 2 true)
 (br ((x1.2.1 : Int) == 21)
 (k1 2 true)
 (br ((x1.2.1 : Int) == 23)
 (k1 2 true)
 (br ((x1.2.1 : Int) == 20)
 (k1 3 true)
 (br ((x1.2.1 : Int) == 10)
 (k1 1 true)
 (br ((x1.2.1 : Int) == 11)
 (k1 1 true)
 (br ((x1.2.1 : Int) == 12)
 (k1 1 true)
 (br ((x1.2.1 : Int) == 15)
 (k1 1 true)
 (br ((x1.2.1 : Int) == 17)
 (k1 1 true)
 (br ((x1.2.1 : Int) == 24)
 (k1 1 true)
 (br ((x1.2.1 : Int) == 8)
 (k1 (-1) true)
 (br ((x1.2.1 : Int) == 9)
 (k1 (-1) true)
 (br ((x1.2.1 : Int) == 13)
 (k1 (-1) true)
 (br ((x1.2.1 : Int) == 14)
 (k1 (-1) true)
 (br ((x1.2.1 : Int) == 22)
 (br ((x1.2.2.1 : Int) == 2)
 (k1 x1.2.2.1 true)
 (k1 x1.2.2.1 ((x1.2.2.1 : Int) == 4)))
 (k1 0 false)))))))))))))))))))))))))
structure c63 (x1 : Int) (k1 : Bool → Prop) : Prop where
of :
 c43 x1 (-1073741824) 1073741823
 (fun z2 => k1 z2)
structure c61 (x1 : tIN) (k1 : Bool → Prop) : Prop where
of :
 br ((x1.2.1 : Int) == 0)
 (c63 x1.2.2.1
 (fun z2 => k1 z2))
 (br ((x1.2.1 : Int) == 8)
 (c43 x1.2.2.1 0 255
 (fun z3 => k1 z3))
 (br ((x1.2.1 : Int) == 11)
 (c43 x1.2.2.1 0 15
 (fun z4 => k1 z4))
 (br ((x1.2.1 : Int) == 9)
 (c43 x1.2.2.1 0 255
 (fun z5 => k1 z5))
 (br ((x1.2.1 : Int) == 13)
 (c43 x1.2.2.1 0 255
 (fun z6 => k1 z6))
 (br ((x1.2.1 : Int) == 23)
 (br ((x1.2.2.1 : Int) == 1)
 (k1 true)
 (br ((x1.2.2.1 : Int) == 2)
 (k1 true)
 (k1 ((x1.2.2.1 : Int) == 3))))
 (br ((x1.2.1 : Int) == 24)
 (c43 x1.2.2.1 0 3
 (fun z7 => k1 z7))
 (br ((x1.2.1 : Int) == 22)
 (k1 true)
 (k1 ((x1.2.2.1 : Int) == 0)))))))))
structure j54s5 (k1 : Int → Prop) (k2 : Prop) (s1 : Bool) (s2 : tIN) : Prop where
of :
 br (s1)
 (k1 2)
 (c61 s2
 (fun z3 => br (!z3)
 (k1 4)
 (k2)))
structure j54s2 (k1 : Int → Prop) (k2 : Prop) (s1 : Bool) (s2 : tIN) : Prop where
of :
 br (s1)
 (k1 3)
 (br ((s2.2.1 : Int) == 8)
 (br (decide (((↑(List.length s2.2.2.2.1)) : Int) > 16))
 (j54s5
 (fun z3 => k1 z3)
 (k2)
 true s2)
 (br ((s2.2.1 : Int) == 13)
 (j54s5
 (fun z4 => k1 z4)
 (k2)
 (decide (((↑(List.length s2.2.2.2.1)) : Int) > 6)) s2)
 (br ((s2.2.1 : Int) == 14)
 (j54s5
 (fun z5 => k1 z5)
 (k2)
 (decide (((↑(List.length s2.2.2.2.1)) : Int) > 6)) s2)
 (j54s5
 (fun z6 => k1 z6)
 (k2)
 false s2))))
 (br ((s2.2.1 : Int) == 9)
 (br (decide (((↑(List.length s2.2.2.2.1)) : Int) > 16))
 (j54s5
 (fun z7 => k1 z7)
 (k2)
 true s2)
 (br ((s2.2.1 : Int) == 13)
 (j54s5
 (fun z8 => k1 z8)
 (k2)
 (decide (((↑(List.length s2.2.2.2.1)) : Int) > 6)) s2)
 (br ((s2.2.1 : Int) == 14)
 (j54s5
 (fun z9 => k1 z9)
 (k2)
 (decide (((↑(List.length s2.2.2.2.1)) : Int) > 6)) s2)
 (j54s5
 (fun z10 => k1 z10)
 (k2)
 false s2))))
 (br ((s2.2.1 : Int) == 13)
 (j54s5
 (fun z11 => k1 z11)
 (k2)
 (decide (((↑(List.length s2.2.2.2.1)) : Int) > 6)) s2)
 (br ((s2.2.1 : Int) == 14)
 (j54s5
 (fun z12 => k1 z12)
 (k2)
 (decide (((↑(List.length s2.2.2.2.1)) : Int) > 6)) s2)
 (j54s5
 (fun z13 => k1 z13)
 (k2)
 false s2)))))
structure j54r9 (k1 : Int → Prop) : Prop where
of :
 k1 0
structure c54 (x1 : tIN) (k1 : Int → Prop) : Prop where
of :
 c60 x1
 (fun z2 z3 => br (!z3)
 (j54s2
 (fun z4 => k1 z4)
 (j54r9
 (fun z5 => k1 z5)
 )
 true x1)
 (br (decide (z2 ≥ 0))
 (br (((↑(List.length x1.2.2.2.1)) : Int) != z2)
 (j54s2
 (fun z6 => k1 z6)
 (j54r9
 (fun z7 => k1 z7)
 )
 true x1)
 (br ((x1.2.1 : Int) == 14)
 (j54s2
 (fun z8 => k1 z8)
 (j54r9
 (fun z9 => k1 z9)
 )
 (((↑(List.length x1.2.2.2.1)) : Int) == 0) x1)
 (j54s2
 (fun z10 => k1 z10)
 (j54r9
 (fun z11 => k1 z11)
 )
 false x1)))
 (br ((x1.2.1 : Int) == 14)
 (j54s2
 (fun z12 => k1 z12)
 (j54r9
 (fun z13 => k1 z13)
 )
 (((↑(List.length x1.2.2.2.1)) : Int) == 0) x1)
 (j54s2
 (fun z14 => k1 z14)
 (j54r9
 (fun z15 => k1 z15)
 )
 false x1))))
structure l44r10 (k1 : Int → tFU → (List q1) → Prop) (k2 : tFU → (List q1) → tBK → Prop) (s1 : Int) (s2 : List tIN) (s3 s4 : Int) (s5 : tFU) (s6 : List q1) (s7 : tBK) : Prop where
of :
 ∀ (I1 : Int → (List tIN) → Int → Int → tFU → (List q1) → tBK → Prop),
 (∀ (s1 : Int) (s2 : List tIN) (s3 s4 : Int) (s5 : tFU) (s6 : List q1) (s7 : tBK), (br (decide (s4 < s3))
 (need False (at? s2 s4) fun y8 =>
 c53 y8.1 (s1, (IntKind.wrap .i64 (s4 + 1)), ()) s5 s6
 (fun z9 z10 z11 => br (z9 != 0)
 (k1 z9 z10 z11)
 (c54 y8
 (fun z12 => br (z12 != 0)
 (k1 z12 z10 z11)
 (I1 s1 s2 s3 (IntKind.wrap .i64 (s4 + 1)) z10 z11 s7)))))
 (k2 s5 s6 s7)) → I1 s1 s2 s3 s4 s5 s6 s7) →
 I1 s1 s2 s3 s4 s5 s6 s7
structure j62r14 (k1 : Bool → Prop) (s1 : Int) (s2 s3 s4 : Bool) (s5 : tTM) : Prop where
of :
 br (((↑(List.length s5.2.2.2.2.1)) : Int) == s1)
 (br (s2)
 (br (s3)
 (br (s4)
 (k1 true)
 (k1 (((↑(List.length s5.2.2.2.1)) : Int) == 0)))
 (br ((s5.2.2.1 : Int) == 0)
 (br (s4)
 (k1 true)
 (k1 (((↑(List.length s5.2.2.2.1)) : Int) == 0)))
 (k1 false)))
 (br ((s5.2.1 : Int) == 0)
 (br (s3)
 (br (s4)
 (k1 true)
 (k1 (((↑(List.length s5.2.2.2.1)) : Int) == 0)))
 (br ((s5.2.2.1 : Int) == 0)
 (br (s4)
 (k1 true)
 (k1 (((↑(List.length s5.2.2.2.1)) : Int) == 0)))
 (k1 false)))
 (k1 false)))
 (k1 false)
structure c62 (x1 : tTM) (k1 : Bool → Prop) : Prop where
of :
 br ((x1.1 : Int) == 0)
 (j62r14
 (fun z2 => k1 z2)
 0 true false false x1)
 (br ((x1.1 : Int) == 1)
 (j62r14
 (fun z3 => k1 z3)
 1 false false false x1)
 (br ((x1.1 : Int) == 2)
 (j62r14
 (fun z4 => k1 z4)
 2 true false false x1)
 (br ((x1.1 : Int) == 3)
 (j62r14
 (fun z5 => k1 z5)
 (IntKind.wrap .i64 ((↑(List.length x1.2.2.2.1)) + 1)) true false true x1)
 (br ((x1.1 : Int) == 4)
 (j62r14
 (fun z6 => k1 z6)
 0 false true false x1)
 (k1 false)))))
structure l49r2 (k1 : Int → Prop) (k2 : Prop) (s1 : List Int) (s2 s3 s4 : Int) : Prop where
of :
 ∀ (I1 : (List Int) → Int → Int → Int → Prop),
 (∀ (s1 : List Int) (s2 s3 s4 : Int), (br (decide (s4 < s3))
 (need False (at? s1 s4) fun y5 =>
 br (s2 == y5)
 (k1 s4)
 (I1 s1 s2 s3 (IntKind.wrap .i64 (s4 + 1))))
 (k2)) → I1 s1 s2 s3 s4) →
 I1 s1 s2 s3 s4
structure c49 (x1 : List Int) (x2 : Int) (k1 : Int → Prop) : Prop where
of :
 l49r2
 (fun z3 => k1 z3)
 (k1 (-1))
 x1 x2 (↑(List.length x1)) 0
structure c34 (x1 : List Int) (x2 : Int) (k1 : Bool → Prop) : Prop where
of :
 c49 x1 x2
 (fun z3 => k1 (decide ((z3 : Int) ≥ 0)))
structure l55r8 (k1 : Int → Prop) (k2 : tFU → tTM → Prop) (s1 : List Int) (s2 s3 : Int) (s4 : tFU) (s5 : tTM) : Prop where
of :
 ∀ (I1 : (List Int) → Int → Int → tFU → tTM → Prop),
 (∀ (s1 : List Int) (s2 s3 : Int) (s4 : tFU) (s5 : tTM), (br (decide (s3 < s2))
 (need False (at? s1 s3) fun y6 =>
 c63 y6
 (fun z7 => br (!z7)
 (k1 4)
 (br (decide ((0 : Int) ≤ 0 ∧ (0 : Int) ≤ s3 ∧ (s3 : Int) ≤ (↑(List.length s5.2.2.2.1))))
 (c34 (List.drop 0 (List.take (Int.toNat s3) s5.2.2.2.1)) y6
 (fun z8 => br (z8)
 (k1 7)
 (I1 s1 s2 (IntKind.wrap .i64 (s3 + 1)) s4 s5)))
 False)))
 (k2 s4 s5)) → I1 s1 s2 s3 s4 s5) →
 I1 s1 s2 s3 s4 s5
structure l55r16 (k1 : Int → Prop) (k2 : Prop) (s1 : List tED) (s2 s3 : Int) (s4 : tFU) : Prop where
of :
 ∀ (I1 : (List tED) → Int → Int → tFU → Prop),
 (∀ (s1 : List tED) (s2 s3 : Int) (s4 : tFU), (br (decide (s3 < s2))
 (need False (at? s1 s3) fun y5 =>
 c43 y5.1 1 (IntKind.wrap .i64 ((↑(List.length s4.2.1)) - 1))
 (fun z6 => br (!z6)
 (k1 4)
 (need False (at? s4.2.1 y5.1) fun y7 =>
 (br (true && true)
 (br (eqT (.sl (.pair (.sl (.int .i64)) (.pair (.sl (.pair (.int .i64) (.pair (.int .i64) (.pair (.int .i64) (.pair (.sl (.int .i64)) .unit))))) (.pair (.pair (.int .i64) (.pair (.int .i64) (.pair (.int .i64) (.pair (.sl (.int .i64)) (.pair (.sl (.pair (.int .i64) (.pair (.sl (.int .i64)) .unit))) .unit))))) .unit)))) s4.2.1 s4.2.1)
 (br (true && true)
 (br (eqT (.int .i64) y5.1 y5.1)
 (need False (at? s4.2.1 y5.1) fun y8 =>
 br (eqT (.pair (.sl (.int .i64)) (.pair (.sl (.pair (.int .i64) (.pair (.int .i64) (.pair (.int .i64) (.pair (.sl (.int .i64)) .unit))))) (.pair (.pair (.int .i64) (.pair (.int .i64) (.pair (.int .i64) (.pair (.sl (.int .i64)) (.pair (.sl (.pair (.int .i64) (.pair (.sl (.int .i64)) .unit))) .unit))))) .unit))) y7 y8)
 (br (eqT (.sl (.int .i64)) y7.1 y7.1)
 (br (eqT (.int .i64) (((List.length y5.2.1) : Nat) : Int) (((List.length y5.2.1) : Nat) : Int))
 (br (((↑(List.length y5.2.1)) : Int) != (↑(List.length y7.1)))
 (k1 3)
 (I1 s1 s2 (IntKind.wrap .i64 (s3 + 1)) s4))
 False)
 False)
 False)
 False)
 False)
 False)
 False) ∧
 (br (true && true)
 (br (eqT (.int .i64) (((List.length y7.1) : Nat) : Int) (((List.length y7.1) : Nat) : Int))
 (br (((↑(List.length y5.2.1)) : Int) != (↑(List.length y7.1)))
 (k1 3)
 (I1 s1 s2 (IntKind.wrap .i64 (s3 + 1)) s4))
 False)
 False))))
 (k2)) → I1 s1 s2 s3 s4) →
 I1 s1 s2 s3 s4
structure c55 (x1 : tFU) (x2 : tTM) (k1 : Int → Prop) : Prop where
of :
 c62 x2
 (fun z3 => br (!z3)
 (k1 3)
 (br (decide (((↑(List.length x2.2.2.2.1)) : Int) > 256))
 (k1 2)
 (br ((x2.1 : Int) == 4)
 (c43 x2.2.2.1 1 6
 (fun z4 => br (!z4)
 (k1 4)
 (l55r8
 (fun z5 => k1 z5)
 (fun z6 z7 => l55r16
 (fun z8 => k1 z8)
 (k1 0)
 z7.2.2.2.2.1 (↑(List.length z7.2.2.2.2.1)) 0 z6)
 x2.2.2.2.1 (↑(List.length x2.2.2.2.1)) 0 x1 x2)))
 (l55r8
 (fun z9 => k1 z9)
 (fun z10 z11 => l55r16
 (fun z12 => k1 z12)
 (k1 0)
 z11.2.2.2.2.1 (↑(List.length z11.2.2.2.2.1)) 0 z10)
 x2.2.2.2.1 (↑(List.length x2.2.2.2.1)) 0 x1 x2))))
structure c44 (x1 : Int) (x2 : tFU) (x3 : List q1) (k1 : Int → tFU → (List q1) → Prop) : Prop where
of :
 need False (at? x2.2.1 x1) fun y4 =>
 l44r3
 (fun z5 z6 z7 => k1 z5 z6 z7)
 (fun z8 z9 z10 z11 => l44r10
 (fun z12 z13 z14 => k1 z12 z13 z14)
 (fun z15 z16 z17 => c55 z15 z17.2.2.1
 (fun z18 => k1 z18 z15 z16))
 z8 z11.2.1 (↑(List.length z11.2.1)) 0 z9 z10 z11)
 x1 y4.1 (↑(List.length y4.1)) 0 x2 x3 y4
structure l28r15 (k1 : Int → Prop) (k2 : tFU → (List q1) → Prop) (s1 s2 : Int) (s3 : tFU) (s4 : List q1) : Prop where
of :
 ∀ (I1 : Int → Int → tFU → (List q1) → Prop),
 (∀ (s1 s2 : Int) (s3 : tFU) (s4 : List q1), (br (decide (s2 < s1))
 (c44 s2 s3 s4
 (fun z5 z6 z7 => br (z5 != 0)
 (k1 z5)
 (I1 s1 (IntKind.wrap .i64 (s2 + 1)) z6 z7)))
 (k2 s3 s4)) → I1 s1 s2 s3 s4) →
 I1 s1 s2 s3 s4
structure c64 (x1 : List Int) (x2 : Int) (k1 : (List Int) → Prop) : Prop where
of :
 br (decide ((0 : Int) ≤ (IntKind.wrap .i64 (Int.tdiv x2 64)) ∧ ((IntKind.wrap .i64 (Int.tdiv x2 64)) : Int) < 2))
 (need False (x1)[(Int.toNat (IntKind.wrap .i64 (Int.tdiv x2 64)))]? fun y3 =>
 br (decide (((Int.tmod x2 64) : Int) < 0))
 False
 (br (decide ((0 : Int) ≤ (IntKind.wrap .i64 (Int.tdiv x2 64)) ∧ ((IntKind.wrap .i64 (Int.tdiv x2 64)) : Int) < 2))
 (need False (x1)[(Int.toNat (IntKind.wrap .i64 (Int.tdiv x2 64)))]? fun y4 =>
 k1 (List.set x1 (Int.toNat (IntKind.wrap .i64 (Int.tdiv x2 64))) (bitop .or .u64 y3 (shlI .u64 1 (Int.tmod x2 64)))))
 False))
 False
structure l56r3 (k1 : tFU → (List Int) → (List Int) → Prop) (s1 s2 : Int) (s3 : tFU) (s4 s5 : List Int) : Prop where
of :
 ∀ (I1 : Int → Int → tFU → (List Int) → (List Int) → Prop),
 (∀ (s1 s2 : Int) (s3 : tFU) (s4 s5 : List Int), (br (decide (s2 < s1))
 (c64 s5 s2
 (fun z6 => I1 s1 (IntKind.wrap .i64 (s2 + 1)) s3 s4 z6))
 (k1 s3 s4 s5)) → I1 s1 s2 s3 s4 s5) →
 I1 s1 s2 s3 s4 s5
structure l56r9 (k1 : tFU → (List Int) → (List (List Int)) → Prop) (s1 s2 : Int) (s3 : tFU) (s4 s5 : List Int) (s6 : List (List Int)) : Prop where
of :
 ∀ (I1 : Int → Int → tFU → (List Int) → (List Int) → (List (List Int)) → Prop),
 (∀ (s1 s2 : Int) (s3 : tFU) (s4 s5 : List Int) (s6 : List (List Int)), (br (decide (s2 < s1))
 (br (decide (0 ≤ s2 ∧ s2 < (↑(List.length s6))))
 (need False (s6)[(Int.toNat s2)]? fun y7 =>
 I1 s1 (IntKind.wrap .i64 (s2 + 1)) s3 s4 s5 (List.set s6 (Int.toNat s2) s5))
 False)
 (k1 s3 s4 s6)) → I1 s1 s2 s3 s4 s5 s6) →
 I1 s1 s2 s3 s4 s5 s6
structure c58 (x1 : List Int) (x2 : Int) (k1 : Bool → Prop) : Prop where
of :
 br (decide ((0 : Int) ≤ (IntKind.wrap .i64 (Int.tdiv x2 64)) ∧ ((IntKind.wrap .i64 (Int.tdiv x2 64)) : Int) < 2))
 (need False (x1)[(Int.toNat (IntKind.wrap .i64 (Int.tdiv x2 64)))]? fun y3 =>
 br (decide (((Int.tmod x2 64) : Int) < 0))
 False
 (k1 (((bitop .and .u64 (shrI .u64 y3 (Int.tmod x2 64)) 1) : Int) == 1)))
 False
structure c65 (x1 x2 : List Int) (k1 : (List Int) → Prop) : Prop where
of :
 need False (x1)[0]? fun y3 =>
 need False (x2)[0]? fun y4 =>
 need False (x1)[1]? fun y5 =>
 need False (x2)[1]? fun y6 =>
 k1 [(bitop .and .u64 y3 y4), (bitop .and .u64 y5 y6)]
structure j56r26 (k1 : Bool → Int → (List tBK) → Int → Int → (List tED) → Int → Int → tFU → (List Int) → (List (List Int)) → (List Int) → Prop) (s1 : Bool) (s2 : Int) (s3 : List tBK) (s4 s5 : Int) (s6 : List tED) (s7 s8 : Int) (s9 : tFU) (s10 : List Int) (s11 : List (List Int)) (s12 : List Int) (s13 : tED) (s14 : List Int) : Prop where
of :
 br (decide ((0 : Int) ≤ s13.1 ∧ (s13.1 : Int) < (↑(List.length s11))))
 (need False (s11)[(Int.toNat s13.1)]? fun y15 =>
 br (!(eqT (.arr 2 (.int .u64)) s14 y15))
 (c64 s12 s13.1
 (fun z16 => br (true && true)
 (br (eqT (.int .i64) s13.1 s13.1)
 (br (eqT (.arr 2 (.int .u64)) s14 s14)
 (br (decide ((0 : Int) ≤ s13.1 ∧ (s13.1 : Int) < (↑(List.length s11))))
 (need False (s11)[(Int.toNat s13.1)]? fun y17 =>
 k1 true s2 s3 s4 s5 s6 s7 s8 s9 s10 (List.set s11 (Int.toNat s13.1) s14) z16)
 False)
 False)
 False)
 False))
 (c58 s12 s13.1
 (fun z18 => br (!z18)
 (c64 s12 s13.1
 (fun z19 => br (true && true)
 (br (eqT (.int .i64) s13.1 s13.1)
 (br (eqT (.arr 2 (.int .u64)) s14 s14)
 (br (decide ((0 : Int) ≤ s13.1 ∧ (s13.1 : Int) < (↑(List.length s11))))
 (need False (s11)[(Int.toNat s13.1)]? fun y20 =>
 k1 true s2 s3 s4 s5 s6 s7 s8 s9 s10 (List.set s11 (Int.toNat s13.1) s14) z19)
 False)
 False)
 False)
 False))
 (k1 s1 s2 s3 s4 s5 s6 s7 s8 s9 s10 s11 s12))))
 False
structure l56r23 (k1 : Bool → (List tBK) → Int → Int → tFU → (List Int) → (List (List Int)) → (List Int) → Prop) (s1 : Bool) (s2 : Int) (s3 : List tBK) (s4 s5 : Int) (s6 : List tED) (s7 s8 : Int) (s9 : tFU) (s10 : List Int) (s11 : List (List Int)) (s12 : List Int) : Prop where
of :
 ∀ (I1 : Bool → Int → (List tBK) → Int → Int → (List tED) → Int → Int → tFU → (List Int) → (List (List Int)) → (List Int) → Prop),
 (∀ (s1 : Bool) (s2 : Int) (s3 : List tBK) (s4 s5 : Int) (s6 : List tED) (s7 s8 : Int) (s9 : tFU) (s10 : List Int) (s11 : List (List Int)) (s12 : List Int), (br (decide (s8 < s7))
 (need False (at? s6 s8) fun y13 =>
 br (decide ((0 : Int) ≤ y13.1 ∧ (y13.1 : Int) < (↑(List.length s11))))
 (need False (s11)[(Int.toNat y13.1)]? fun y14 =>
 br (decide (0 ≤ s2 ∧ s2 < (↑(List.length s11))))
 (need False (s11)[(Int.toNat s2)]? fun y15 =>
 (c65 y14 y15
 (fun z16 => br (true && true)
 (br (eqT (.int .i64) y13.1 y13.1)
 ((c64 z16 y13.1
 (fun z17 => j56r26
 (fun z18 z19 z20 z21 z22 z23 z24 z25 z26 z27 z28 z29 => I1 z18 z19 z20 z21 z22 z23 z24 (IntKind.wrap .i64 (z25 + 1)) z26 z27 z28 z29)
 s1 s2 s3 s4 s5 s6 s7 s8 s9 s10 s11 s12 y13 z17)) ∧
 (br (true && true)
 (br (eqT (.int .i64) y13.1 y13.1)
 (c64 z16 y13.1
 (fun z30 => j56r26
 (fun z31 z32 z33 z34 z35 z36 z37 z38 z39 z40 z41 z42 => I1 z31 z32 z33 z34 z35 z36 z37 (IntKind.wrap .i64 (z38 + 1)) z39 z40 z41 z42)
 s1 s2 s3 s4 s5 s6 s7 s8 s9 s10 s11 s12 y13 z30))
 False)
 False))
 False)
 False)) ∧
 (br (true && true)
 (br (eqT (.int .i64) y13.1 y13.1)
 (br (decide ((0 : Int) ≤ y13.1 ∧ (y13.1 : Int) < (↑(List.length s11))))
 (br ((decide ((Int.toNat y13.1) = (Int.toNat y13.1))) && true)
 (need False (s11)[(Int.toNat y13.1)]? fun y43 =>
 br (eqT (.arr 2 (.int .u64)) y14 y43)
 (br (eqT (.int .i64) s2 s2)
 (br (decide (0 ≤ s2 ∧ s2 < (↑(List.length s11))))
 (br ((decide ((Int.toNat s2) = (Int.toNat s2))) && true)
 (need False (s11)[(Int.toNat s2)]? fun y44 =>
 br (eqT (.arr 2 (.int .u64)) y15 y44)
 (br (true && true)
 (br (eqT (.int .i64) y13.1 y13.1)
 (c65 y14 y15
 (fun z45 => br (true && true)
 (br (eqT (.int .i64) y13.1 y13.1)
 (c64 z45 y13.1
 (fun z46 => j56r26
 (fun z47 z48 z49 z50 z51 z52 z53 z54 z55 z56 z57 z58 => I1 z47 z48 z49 z50 z51 z52 z53 (IntKind.wrap .i64 (z54 + 1)) z55 z56 z57 z58)
 s1 s2 s3 s4 s5 s6 s7 s8 s9 s10 s11 s12 y13 z46))
 False)
 False))
 False)
 False)
 False)
 False)
 False)
 False)
 False)
 False)
 False)
 False)
 False))
 False)
 False)
 (k1 s1 s3 s4 s5 s9 s10 s11 s12)) → I1 s1 s2 s3 s4 s5 s6 s7 s8 s9 s10 s11 s12) →
 I1 s1 s2 s3 s4 s5 s6 s7 s8 s9 s10 s11 s12
structure l56r19 (k1 : Bool → tFU → (List Int) → (List (List Int)) → (List Int) → Prop) (s1 : Bool) (s2 : List tBK) (s3 s4 : Int) (s5 : tFU) (s6 : List Int) (s7 : List (List Int)) (s8 : List Int) : Prop where
of :
 ∀ (I1 : Bool → (List tBK) → Int → Int → tFU → (List Int) → (List (List Int)) → (List Int) → Prop),
 (∀ (s1 : Bool) (s2 : List tBK) (s3 s4 : Int) (s5 : tFU) (s6 : List Int) (s7 : List (List Int)) (s8 : List Int), (br (decide (s4 < s3))
 (need False (at? s2 s4) fun y9 =>
 c58 s8 s4
 (fun z10 => br (!z10)
 (I1 s1 s2 s3 (IntKind.wrap .i64 (s4 + 1)) s5 s6 s7 s8)
 (l56r23
 (fun z11 z12 z13 z14 z15 z16 z17 z18 => I1 z11 z12 z13 (IntKind.wrap .i64 (z14 + 1)) z15 z16 z17 z18)
 s1 s4 s2 s3 s4 y9.2.2.1.2.2.2.2.1 (↑(List.length y9.2.2.1.2.2.2.2.1)) 0 s5 s6 s7 s8)))
 (k1 s1 s5 s6 s7 s8)) → I1 s1 s2 s3 s4 s5 s6 s7 s8) →
 I1 s1 s2 s3 s4 s5 s6 s7 s8
structure l56r16 (k1 : (List Int) → (List (List Int)) → (List Int) → Prop) (s1 : Bool) (s2 : tFU) (s3 : List Int) (s4 : List (List Int)) (s5 : List Int) : Prop where
of :
 ∀ (I1 : Bool → tFU → (List Int) → (List (List Int)) → (List Int) → Prop),
 (∀ (s1 : Bool) (s2 : tFU) (s3 : List Int) (s4 : List (List Int)) (s5 : List Int), (br (s1)
 (l56r19
 (fun z6 z7 z8 z9 z10 => I1 z6 z7 z8 z9 z10)
 false s2.2.1 (↑(List.length s2.2.1)) 0 s2 s3 s4 s5)
 (k1 s3 s4 s5)) → I1 s1 s2 s3 s4 s5) →
 I1 s1 s2 s3 s4 s5
structure c56 (x1 : tFU) (k1 : (List Int) → (List (List Int)) → Prop) : Prop where
of :
 l56r3
 (fun z2 z3 z4 => br (decide ((0 : Int) ≤ (↑(List.length z2.2.1)) ∧ ((↑(List.length z2.2.1)) : Int) ≤ (↑(List.length z2.2.1)) ∧ (((↑(List.length z2.2.1)) * 16) : Int) ≤ 140737488355328))
 (l56r9
 (fun z5 z6 z7 => c64 [0, 0] 0
 (fun z8 => br (decide ((0 : Int) ≤ 0 ∧ (0 : Int) < (↑(List.length z7))))
 (need False (z7)[0]? fun y9 =>
 c64 [0, 0] 0
 (fun z10 => l56r16
 (fun z11 z12 z13 => k1 z13 z12)
 true z5 z6 (List.set z7 0 z8) z10))
 False))
 (↑(List.length (List.replicate (Int.toNat (↑(List.length z2.2.1))) ([0, 0] : List (Int))))) 0 z2 z3 z4 (List.replicate (Int.toNat (↑(List.length z2.2.1))) ([0, 0] : List (Int))))
 False)
 (↑(List.length x1.2.1)) 0 x1 [0, 0] [0, 0]
structure c57 (x1 : Int) (x2 : tFU) (x3 : List q1) (x4 x5 : Int) (x6 : List (List Int)) (x7 : List Int) (k1 : Bool → tFU → (List q1) → Int → Int → (List (List Int)) → (List Int) → Prop) : Prop where
of :
 br (mhas x3 x1)
 (br (((mval (0, 0, ()) x3 x1).1 : Int) == x4)
 (br (decide (((mval (0, 0, ()) x3 x1).2.1 : Int) ≤ x5))
 (k1 true x2 x3 x4 x5 x6 x7)
 (br (((mval (0, 0, ()) x3 x1).1 : Int) != x4)
 (br (decide (0 ≤ x4 ∧ x4 < (↑(List.length x6))))
 (need False (x6)[(Int.toNat x4)]? fun y8 =>
 c58 y8 (mval (0, 0, ()) x3 x1).1
 (fun z9 => br (z9)
 (k1 true x2 x3 x4 x5 x6 x7)
 (c58 x7 x4
 (fun z10 => k1 (!z10) x2 x3 x4 x5 x6 x7))))
 False)
 (c58 x7 x4
 (fun z11 => k1 (!z11) x2 x3 x4 x5 x6 x7))))
 (br (((mval (0, 0, ()) x3 x1).1 : Int) != x4)
 (br (decide (0 ≤ x4 ∧ x4 < (↑(List.length x6))))
 (need False (x6)[(Int.toNat x4)]? fun y12 =>
 c58 y12 (mval (0, 0, ()) x3 x1).1
 (fun z13 => br (z13)
 (k1 true x2 x3 x4 x5 x6 x7)
 (c58 x7 x4
 (fun z14 => k1 (!z14) x2 x3 x4 x5 x6 x7))))
 False)
 (c58 x7 x4
 (fun z15 => k1 (!z15) x2 x3 x4 x5 x6 x7))))
 (k1 false x2 x3 x4 x5 x6 x7)
structure l45r12 (k1 : Int → tFU → (List q1) → Prop) (k2 : (List tBK) → Int → Int → (List tIN) → Int → Int → tFU → (List q1) → (List (List Int)) → (List Int) → tBK → Int → Int → Prop) (s1 : List tBK) (s2 s3 : Int) (s4 : List tIN) (s5 s6 : Int) (s7 : List Int) (s8 s9 : Int) (s10 : tFU) (s11 : List q1) (s12 : List (List Int)) (s13 : List Int) (s14 : tBK) (s15 s16 : Int) : Prop where
of :
 ∀ (I1 : (List tBK) → Int → Int → (List tIN) → Int → Int → (List Int) → Int → Int → tFU → (List q1) → (List (List Int)) → (List Int) → tBK → Int → Int → Prop),
 (∀ (s1 : List tBK) (s2 s3 : Int) (s4 : List tIN) (s5 s6 : Int) (s7 : List Int) (s8 s9 : Int) (s10 : tFU) (s11 : List q1) (s12 : List (List Int)) (s13 : List Int) (s14 : tBK) (s15 s16 : Int), (br (decide (s9 < s8))
 (need False (at? s7 s9) fun y17 =>
 c57 y17 s10 s11 s16 s15 s12 s13
 (fun z18 z19 z20 z21 z22 z23 z24 => br (!z18)
 (k1 6 z19 z20)
 (I1 s1 s2 s3 s4 s5 s6 s7 s8 (IntKind.wrap .i64 (s9 + 1)) z19 z20 z23 z24 s14 z22 z21)))
 (k2 s1 s2 s3 s4 s5 s6 s10 s11 s12 s13 s14 s15 s16)) → I1 s1 s2 s3 s4 s5 s6 s7 s8 s9 s10 s11 s12 s13 s14 s15 s16) →
 I1 s1 s2 s3 s4 s5 s6 s7 s8 s9 s10 s11 s12 s13 s14 s15 s16
structure l45r8 (k1 : Int → tFU → (List q1) → Prop) (k2 : (List tBK) → Int → Int → tFU → (List q1) → (List (List Int)) → (List Int) → tBK → Int → Int → Prop) (s1 : List tBK) (s2 s3 : Int) (s4 : List tIN) (s5 s6 : Int) (s7 : tFU) (s8 : List q1) (s9 : List (List Int)) (s10 : List Int) (s11 : tBK) (s12 s13 : Int) : Prop where
of :
 ∀ (I1 : (List tBK) → Int → Int → (List tIN) → Int → Int → tFU → (List q1) → (List (List Int)) → (List Int) → tBK → Int → Int → Prop),
 (∀ (s1 : List tBK) (s2 s3 : Int) (s4 : List tIN) (s5 s6 : Int) (s7 : tFU) (s8 : List q1) (s9 : List (List Int)) (s10 : List Int) (s11 : tBK) (s12 s13 : Int), (br (decide (s6 < s5))
 (need False (at? s4 s6) fun y14 =>
 l45r12
 (fun z15 z16 z17 => k1 z15 z16 z17)
 (fun z18 z19 z20 z21 z22 z23 z24 z25 z26 z27 z28 z29 z30 => I1 z18 z19 z20 z21 z22 (IntKind.wrap .i64 (z23 + 1)) z24 z25 z26 z27 z28 z29 z30)
 s1 s2 s3 s4 s5 s6 y14.2.2.2.1 (↑(List.length y14.2.2.2.1)) 0 s7 s8 s9 s10 s11 s6 s13)
 (k2 s1 s2 s3 s7 s8 s9 s10 s11 s12 s13)) → I1 s1 s2 s3 s4 s5 s6 s7 s8 s9 s10 s11 s12 s13) →
 I1 s1 s2 s3 s4 s5 s6 s7 s8 s9 s10 s11 s12 s13
structure l59r7 (k1 : Bool → tFU → (List q1) → Int → Int → (List (List Int)) → (List Int) → Prop) (k2 : (List tED) → Int → Int → tFU → (List q1) → Int → Int → (List (List Int)) → (List Int) → Prop) (s1 : List tED) (s2 s3 : Int) (s4 : List Int) (s5 s6 : Int) (s7 : tFU) (s8 : List q1) (s9 s10 : Int) (s11 : List (List Int)) (s12 : List Int) : Prop where
of :
 ∀ (I1 : (List tED) → Int → Int → (List Int) → Int → Int → tFU → (List q1) → Int → Int → (List (List Int)) → (List Int) → Prop),
 (∀ (s1 : List tED) (s2 s3 : Int) (s4 : List Int) (s5 s6 : Int) (s7 : tFU) (s8 : List q1) (s9 s10 : Int) (s11 : List (List Int)) (s12 : List Int), (br (decide (s6 < s5))
 (need False (at? s4 s6) fun y13 =>
 c57 y13 s7 s8 s9 s10 s11 s12
 (fun z14 z15 z16 z17 z18 z19 z20 => br (!z14)
 (k1 false z15 z16 z17 z18 z19 z20)
 (I1 s1 s2 s3 s4 s5 (IntKind.wrap .i64 (s6 + 1)) z15 z16 z17 z18 z19 z20)))
 (k2 s1 s2 s3 s7 s8 s9 s10 s11 s12)) → I1 s1 s2 s3 s4 s5 s6 s7 s8 s9 s10 s11 s12) →
 I1 s1 s2 s3 s4 s5 s6 s7 s8 s9 s10 s11 s12
structure l59r4 (k1 : Bool → tFU → (List q1) → Int → Int → (List (List Int)) → (List Int) → Prop) (k2 : tFU → (List q1) → Int → Int → (List (List Int)) → (List Int) → Prop) (s1 : List tED) (s2 s3 : Int) (s4 : tFU) (s5 : List q1) (s6 s7 : Int) (s8 : List (List Int)) (s9 : List Int) : Prop where
of :
 ∀ (I1 : (List tED) → Int → Int → tFU → (List q1) → Int → Int → (List (List Int)) → (List Int) → Prop),
 (∀ (s1 : List tED) (s2 s3 : Int) (s4 : tFU) (s5 : List q1) (s6 s7 : Int) (s8 : List (List Int)) (s9 : List Int), (br (decide (s3 < s2))
 (need False (at? s1 s3) fun y10 =>
 l59r7
 (fun z11 z12 z13 z14 z15 z16 z17 => k1 z11 z12 z13 z14 z15 z16 z17)
 (fun z18 z19 z20 z21 z22 z23 z24 z25 z26 => I1 z18 z19 (IntKind.wrap .i64 (z20 + 1)) z21 z22 z23 z24 z25 z26)
 s1 s2 s3 y10.2.1 (↑(List.length y10.2.1)) 0 s4 s5 s6 s7 s8 s9)
 (k2 s4 s5 s6 s7 s8 s9)) → I1 s1 s2 s3 s4 s5 s6 s7 s8 s9) →
 I1 s1 s2 s3 s4 s5 s6 s7 s8 s9
structure c59 (x1 : tTM) (x2 : tFU) (x3 : List q1) (x4 x5 : Int) (x6 : List (List Int)) (x7 : List Int) (k1 : Bool → tFU → (List q1) → Int → Int → (List (List Int)) → (List Int) → Prop) : Prop where
of :
 br ((x1.1 : Int) != 1)
 (br ((x1.1 : Int) != 4)
 (c57 x1.2.1 x2 x3 x4 x5 x6 x7
 (fun z8 z9 z10 z11 z12 z13 z14 => br (!z8)
 (k1 false z9 z10 z11 z12 z13 z14)
 (l59r4
 (fun z15 z16 z17 z18 z19 z20 z21 => k1 z15 z16 z17 z18 z19 z20 z21)
 (fun z22 z23 z24 z25 z26 z27 => k1 true z22 z23 z24 z25 z26 z27)
 x1.2.2.2.2.1 (↑(List.length x1.2.2.2.2.1)) 0 z9 z10 z11 z12 z13 z14)))
 (l59r4
 (fun z28 z29 z30 z31 z32 z33 z34 => k1 z28 z29 z30 z31 z32 z33 z34)
 (fun z35 z36 z37 z38 z39 z40 => k1 true z35 z36 z37 z38 z39 z40)
 x1.2.2.2.2.1 (↑(List.length x1.2.2.2.2.1)) 0 x2 x3 x4 x5 x6 x7))
 (l59r4
 (fun z41 z42 z43 z44 z45 z46 z47 => k1 z41 z42 z43 z44 z45 z46 z47)
 (fun z48 z49 z50 z51 z52 z53 => k1 true z48 z49 z50 z51 z52 z53)
 x1.2.2.2.2.1 (↑(List.length x1.2.2.2.2.1)) 0 x2 x3 x4 x5 x6 x7)
structure l45r3 (k1 : Int → tFU → (List q1) → Prop) (k2 : tFU → (List q1) → Prop) (s1 : List tBK) (s2 s3 : Int) (s4 : tFU) (s5 : List q1) (s6 : List (List Int)) (s7 : List Int) : Prop where
of :
 ∀ (I1 : (List tBK) → Int → Int → tFU → (List q1) → (List (List Int)) → (List Int) → Prop),
 (∀ (s1 : List tBK) (s2 s3 : Int) (s4 : tFU) (s5 : List q1) (s6 : List (List Int)) (s7 : List Int), (br (decide (s3 < s2))
 (need False (at? s1 s3) fun y8 =>
 l45r8
 (fun z9 z10 z11 => k1 z9 z10 z11)
 (fun z12 z13 z14 z15 z16 z17 z18 z19 z20 z21 => c59 z19.2.2.1 z15 z16 z21 (↑(List.length z19.2.1)) z17 z18
 (fun z22 z23 z24 z25 z26 z27 z28 => br (!z22)
 (k1 6 z23 z24)
 (I1 z12 z13 (IntKind.wrap .i64 (z14 + 1)) z23 z24 z27 z28)))
 s1 s2 s3 y8.2.1 (↑(List.length y8.2.1)) 0 s4 s5 s6 s7 y8 0 s3)
 (k2 s4 s5)) → I1 s1 s2 s3 s4 s5 s6 s7) →
 I1 s1 s2 s3 s4 s5 s6 s7
structure c45 (x1 : tFU) (x2 : List q1) (k1 : Int → tFU → (List q1) → Prop) : Prop where
of :
 c56 x1
 (fun z3 z4 => l45r3
 (fun z5 z6 z7 => k1 z5 z6 z7)
 (fun z8 z9 => k1 0 z8 z9)
 x1.2.1 (↑(List.length x1.2.1)) 0 x1 x2 z4 z3)
structure c28 (x1 : tFU) (k1 : Int → Prop) : Prop where
of :
 l28r3
 (fun z2 z3 => br (((↑(List.length z3.2.1)) : Int) == 0)
 (k1 3)
 (br (decide (((↑(List.length z3.2.1)) : Int) > 128))
 (k1 2)
 (br (decide (z2 > 1024))
 (k1 2)
 (need False (at? z3.2.1 0) fun y4 =>
 br (decide (((↑(List.length y4.1)) : Int) > 6))
 (k1 2)
 (c43 z3.1 (-1) 1048575
 (fun z5 => br (!z5)
 (k1 4)
 (l28r15
 (fun z6 => k1 z6)
 (fun z7 z8 => c45 z7 z8
 (fun z9 z10 z11 => k1 z9))
 (↑(List.length z3.2.1)) 0 z3 [])))))))
 0 x1.2.1 (↑(List.length x1.2.1)) 0 x1
structure c47 (x1 x2 : Int) (k1 : Int → Prop) : Prop where
of :
 k1 (maxI x2 (IntKind.wrap .i64 (x1 + 1)))
structure l46r5 (k1 : (List tBK) → Int → Int → Int → tBK → Prop) (s1 : List tBK) (s2 s3 : Int) (s4 : List Int) (s5 s6 s7 : Int) (s8 : tBK) : Prop where
of :
 ∀ (I1 : (List tBK) → Int → Int → (List Int) → Int → Int → Int → tBK → Prop),
 (∀ (s1 : List tBK) (s2 s3 : Int) (s4 : List Int) (s5 s6 s7 : Int) (s8 : tBK), (br (decide (s6 < s5))
 (need False (at? s4 s6) fun y9 =>
 c47 y9 s7
 (fun z10 => I1 s1 s2 s3 s4 s5 (IntKind.wrap .i64 (s6 + 1)) z10 s8))
 (k1 s1 s2 s3 s7 s8)) → I1 s1 s2 s3 s4 s5 s6 s7 s8) →
 I1 s1 s2 s3 s4 s5 s6 s7 s8
structure l46r10 (k1 : (List tBK) → Int → Int → Int → Prop) (s1 : List tBK) (s2 s3 : Int) (s4 : List tIN) (s5 s6 s7 : Int) : Prop where
of :
 ∀ (I1 : (List tBK) → Int → Int → (List tIN) → Int → Int → Int → Prop),
 (∀ (s1 : List tBK) (s2 s3 : Int) (s4 : List tIN) (s5 s6 s7 : Int), (br (decide (s6 < s5))
 (need False (at? s4 s6) fun y8 =>
 c47 y8.1 s7
 (fun z9 => I1 s1 s2 s3 s4 s5 (IntKind.wrap .i64 (s6 + 1)) z9))
 (k1 s1 s2 s3 s7)) → I1 s1 s2 s3 s4 s5 s6 s7) →
 I1 s1 s2 s3 s4 s5 s6 s7
structure l46r2 (k1 : Int → Prop) (s1 : List tBK) (s2 s3 s4 : Int) : Prop where
of :
 ∀ (I1 : (List tBK) → Int → Int → Int → Prop),
 (∀ (s1 : List tBK) (s2 s3 s4 : Int), (br (decide (s3 < s2))
 (need False (at? s1 s3) fun y5 =>
 l46r5
 (fun z6 z7 z8 z9 z10 => l46r10
 (fun z11 z12 z13 z14 => I1 z11 z12 (IntKind.wrap .i64 (z13 + 1)) z14)
 z6 z7 z8 z10.2.1 (↑(List.length z10.2.1)) 0 z9)
 s1 s2 s3 y5.1 (↑(List.length y5.1)) 0 s4 y5)
 (k1 s4)) → I1 s1 s2 s3 s4) →
 I1 s1 s2 s3 s4
structure c46 (x1 : tFU) (x2 : Int) (k1 : Int → Prop) : Prop where
of :
 l46r2
 (fun z3 => k1 z3)
 x1.2.1 (↑(List.length x1.2.1)) 0 x2
structure c29 (x1 : tFU) (k1 : Int → Prop) : Prop where
of :
 c46 x1 0
 (fun z2 => k1 z2)
structure l30r7 (k1 : (List tED) → Int → Int → Int → Int → (List tBK) → q2 → q2 → tTM → (List Bool) → Prop) (s1 : List tED) (s2 s3 s4 s5 s6 s7 : Int) (s8 : List tBK) (s9 s10 : List (List Bool)) (s11 : Nat) (s12 : List Bool) (s13 : tTM) (s14 : List Bool) (s15 : tED) : Prop where
of :
 ∀ (I1 : (List tED) → Int → Int → Int → Int → Int → Int → (List tBK) → q2 → q2 → Nat → (List Bool) → tTM → (List Bool) → tED → Prop),
 (∀ (s1 : List tED) (s2 s3 s4 s5 s6 s7 : Int) (s8 : List tBK) (s9 s10 : List (List Bool)) (s11 : Nat) (s12 : List Bool) (s13 : tTM) (s14 : List Bool) (s15 : tED), (br (decide (s5 < s4))
 (br (decide (0 ≤ s5 ∧ s5 < (↑(List.length s12))))
 (need False (s12)[(Int.toNat s5)]? fun y16 =>
 br (y16)
 (br (decide ((0 : Int) ≤ s15.1 ∧ (s15.1 : Int) < (↑(List.length s8))))
 (need False (s8)[(Int.toNat s15.1)]? fun y17 =>
 br (eqT (.int .i64) s5 s5)
 (c34 y17.1 s5
 (fun z18 => br (!z18)
 (br (decide (0 ≤ s5 ∧ s5 < (↑(List.length s14))))
 (need False (s14)[(Int.toNat s5)]? fun y19 =>
 I1 s1 s2 s3 s4 (IntKind.wrap .i64 (s5 + 1)) s6 s7 s8 s9 s10 s11 s12 s13 (List.set s14 (Int.toNat s5) true) s15)
 False)
 (I1 s1 s2 s3 s4 (IntKind.wrap .i64 (s5 + 1)) s6 s7 s8 s9 s10 s11 s12 s13 s14 s15)))
 False)
 False)
 (I1 s1 s2 s3 s4 (IntKind.wrap .i64 (s5 + 1)) s6 s7 s8 s9 s10 s11 s12 s13 s14 s15))
 False)
 (k1 s1 s2 s3 s6 s7 s8 s9 (List.set s10 s11 s12) s13 s14)) → I1 s1 s2 s3 s4 s5 s6 s7 s8 s9 s10 s11 s12 s13 s14 s15) →
 I1 s1 s2 s3 s4 s5 s6 s7 s8 s9 s10 s11 s12 s13 s14 s15
structure l30r4 (k1 : Int → Int → (List tBK) → q2 → q2 → tTM → (List Bool) → Prop) (s1 : List tED) (s2 s3 s4 s5 : Int) (s6 : List tBK) (s7 s8 : List (List Bool)) (s9 : tTM) (s10 : List Bool) : Prop where
of :
 ∀ (I1 : (List tED) → Int → Int → Int → Int → (List tBK) → q2 → q2 → tTM → (List Bool) → Prop),
 (∀ (s1 : List tED) (s2 s3 s4 s5 : Int) (s6 : List tBK) (s7 s8 : List (List Bool)) (s9 : tTM) (s10 : List Bool), (br (decide (s3 < s2))
 (need False (at? s1 s3) fun y11 =>
 br (decide ((0 : Int) ≤ y11.1 ∧ (y11.1 : Int) < (↑(List.length s8))))
 (need False (s8)[(Int.toNat y11.1)]? fun y12 =>
 need False (s8)[(Int.toNat y11.1)]? fun y13 =>
 l30r7
 (fun z14 z15 z16 z17 z18 z19 z20 z21 z22 z23 => I1 z14 z15 (IntKind.wrap .i64 (z16 + 1)) z17 z18 z19 z20 z21 z22 z23)
 s1 s2 s3 (↑(List.length y13)) 0 s4 s5 s6 s7 s8 (Int.toNat y11.1) y13 s9 s10 y11)
 False)
 (k1 s4 s5 s6 s7 s8 s9 s10)) → I1 s1 s2 s3 s4 s5 s6 s7 s8 s9 s10) →
 I1 s1 s2 s3 s4 s5 s6 s7 s8 s9 s10
structure l30r19 (k1 : (List tED) → Int → Int → Int → Int → (List tBK) → q2 → q2 → (List Bool) → Prop) (s1 : List tED) (s2 s3 : Int) (s4 : List Int) (s5 s6 s7 s8 : Int) (s9 : List tBK) (s10 s11 : List (List Bool)) (s12 : List Bool) : Prop where
of :
 ∀ (I1 : (List tED) → Int → Int → (List Int) → Int → Int → Int → Int → (List tBK) → q2 → q2 → (List Bool) → Prop),
 (∀ (s1 : List tED) (s2 s3 : Int) (s4 : List Int) (s5 s6 s7 s8 : Int) (s9 : List tBK) (s10 s11 : List (List Bool)) (s12 : List Bool), (br (decide (s6 < s5))
 (need False (at? s4 s6) fun y13 =>
 br (decide (0 ≤ y13 ∧ y13 < (↑(List.length s12))))
 (need False (s12)[(Int.toNat y13)]? fun y14 =>
 I1 s1 s2 s3 s4 s5 (IntKind.wrap .i64 (s6 + 1)) s7 s8 s9 s10 s11 (List.set s12 (Int.toNat y13) true))
 False)
 (k1 s1 s2 s3 s7 s8 s9 s10 s11 s12)) → I1 s1 s2 s3 s4 s5 s6 s7 s8 s9 s10 s11 s12) →
 I1 s1 s2 s3 s4 s5 s6 s7 s8 s9 s10 s11 s12
structure l30r16 (k1 : Int → Int → (List tBK) → q2 → q2 → (List Bool) → Prop) (s1 : List tED) (s2 s3 s4 s5 : Int) (s6 : List tBK) (s7 s8 : List (List Bool)) (s9 : List Bool) : Prop where
of :
 ∀ (I1 : (List tED) → Int → Int → Int → Int → (List tBK) → q2 → q2 → (List Bool) → Prop),
 (∀ (s1 : List tED) (s2 s3 s4 s5 : Int) (s6 : List tBK) (s7 s8 : List (List Bool)) (s9 : List Bool), (br (decide (s3 < s2))
 (need False (at? s1 s3) fun y10 =>
 l30r19
 (fun z11 z12 z13 z14 z15 z16 z17 z18 z19 => I1 z11 z12 (IntKind.wrap .i64 (z13 + 1)) z14 z15 z16 z17 z18 z19)
 s1 s2 s3 y10.2.1 (↑(List.length y10.2.1)) 0 s4 s5 s6 s7 s8 s9)
 (k1 s4 s5 s6 s7 s8 s9)) → I1 s1 s2 s3 s4 s5 s6 s7 s8 s9) →
 I1 s1 s2 s3 s4 s5 s6 s7 s8 s9
structure c30 (x1 x2 x3 : Int) (x4 : List tBK) (x5 x6 : List (List Bool)) (k1 : Int → Int → (List tBK) → q2 → q2 → (List Bool) → Prop) : Prop where
of :
 br (decide (0 ≤ x1 ∧ x1 < (↑(List.length x4))))
 (need False (x4)[(Int.toNat x1)]? fun y7 =>
 br (decide ((0 : Int) ≤ x3 ∧ (x3 : Int) ≤ x3 ∧ ((x3 * 1) : Int) ≤ 140737488355328))
 (l30r4
 (fun z8 z9 z10 z11 z12 z13 z14 => br ((z13.1 : Int) != 1)
 (br ((z13.1 : Int) != 4)
 (br (decide ((0 : Int) ≤ z13.2.1 ∧ (z13.2.1 : Int) < (↑(List.length z14))))
 (need False (z14)[(Int.toNat z13.2.1)]? fun y15 =>
 l30r16
 (fun z16 z17 z18 z19 z20 z21 => k1 z16 z17 z18 z19 z20 z21)
 z13.2.2.2.2.1 (↑(List.length z13.2.2.2.2.1)) 0 z8 z9 z10 z11 z12 (List.set z14 (Int.toNat z13.2.1) true))
 False)
 (l30r16
 (fun z22 z23 z24 z25 z26 z27 => k1 z22 z23 z24 z25 z26 z27)
 z13.2.2.2.2.1 (↑(List.length z13.2.2.2.2.1)) 0 z8 z9 z10 z11 z12 z14))
 (l30r16
 (fun z28 z29 z30 z31 z32 z33 => k1 z28 z29 z30 z31 z32 z33)
 z13.2.2.2.2.1 (↑(List.length z13.2.2.2.2.1)) 0 z8 z9 z10 z11 z12 z14))
 y7.2.2.1.2.2.2.2.1 (↑(List.length y7.2.2.1.2.2.2.2.1)) 0 x2 x3 x4 x5 x6 y7.2.2.1 (List.replicate (Int.toNat x3) (false : Bool)))
 False)
 False
structure c37 (x1 : List Bool) (k1 : (List Bool) → Prop) : Prop where
of :
 br (List.isEmpty x1)
 ((k1 []) ∧
 (br (List.isEmpty x1)
 (k1 [])
 (br (roomB (0 + (List.length x1)) 1)
 (k1 ([] ++ x1))
 False)))
 (br (List.isEmpty x1)
 (k1 [])
 (br (roomB (0 + (List.length x1)) 1)
 (k1 ([] ++ x1))
 False))
structure l18r12 (k1 : Unit → Int → Int → Int → (List tBK) → q2 → tBK → (List Bool) → Prop) (s1 : Unit) (s2 : Int) (s3 : List Int) (s4 s5 s6 s7 : Int) (s8 : List tBK) (s9 : List (List Bool)) (s10 : tBK) (s11 : List Bool) : Prop where
of :
 ∀ (I1 : Unit → Int → (List Int) → Int → Int → Int → Int → (List tBK) → q2 → tBK → (List Bool) → Prop),
 (∀ (s1 : Unit) (s2 : Int) (s3 : List Int) (s4 s5 s6 s7 : Int) (s8 : List tBK) (s9 : List (List Bool)) (s10 : tBK) (s11 : List Bool), (br (decide (s5 < s4))
 (need False (at? s3 s5) fun y12 =>
 br (decide (0 ≤ y12 ∧ y12 < (↑(List.length s11))))
 (need False (s11)[(Int.toNat y12)]? fun y13 =>
 I1 s1 s2 s3 s4 (IntKind.wrap .i64 (s5 + 1)) s6 s7 s8 s9 s10 (List.set s11 (Int.toNat y12) true))
 False)
 (k1 s1 s2 s6 s7 s8 s9 s10 s11)) → I1 s1 s2 s3 s4 s5 s6 s7 s8 s9 s10 s11) →
 I1 s1 s2 s3 s4 s5 s6 s7 s8 s9 s10 s11
structure l18r5 (k1 : Int → Int → (List tBK) → q2 → (List Bool) → Prop) (s1 : Unit) (s2 s3 s4 : Int) (s5 : List tBK) (s6 : List (List Bool)) (s7 : tBK) (s8 : List Bool) : Prop where
of :
 ∀ (I1 : Unit → Int → Int → Int → (List tBK) → q2 → tBK → (List Bool) → Prop),
 (∀ (s1 : Unit) (s2 s3 s4 : Int) (s5 : List tBK) (s6 : List (List Bool)) (s7 : tBK) (s8 : List Bool), (br (s2 == 0)
 (k1 s3 s4 s5 s6 s8)
 (need False (at? s7.2.1 (IntKind.wrap .i64 (s2 - 1))) fun y9 =>
 br (decide ((0 : Int) ≤ y9.1 ∧ (y9.1 : Int) < (↑(List.length s8))))
 (need False (s8)[(Int.toNat y9.1)]? fun y10 =>
 l18r12
 (fun z11 z12 z13 z14 z15 z16 z17 z18 => I1 z11 (IntKind.wrap .i64 (z12 - 1)) z13 z14 z15 z16 z17 z18)
 s1 s2 y9.2.2.2.1 (↑(List.length y9.2.2.2.1)) 0 s3 s4 s5 s6 s7 (List.set s8 (Int.toNat y9.1) false))
 False)) → I1 s1 s2 s3 s4 s5 s6 s7 s8) →
 I1 s1 s2 s3 s4 s5 s6 s7 s8
structure c18 (x1 : Int) (x2 : Unit) (x3 x4 : Int) (x5 : List tBK) (x6 : List (List Bool)) (k1 : Int → Int → (List tBK) → q2 → (List Bool) → Prop) : Prop where
of :
 br (decide (0 ≤ x1 ∧ x1 < (↑(List.length x5))))
 (need False (x5)[(Int.toNat x1)]? fun y7 =>
 br (decide (0 ≤ x1 ∧ x1 < (↑(List.length x6))))
 (need False (x6)[(Int.toNat x1)]? fun y8 =>
 need False (x6)[(Int.toNat x1)]? fun y9 =>
 c37 y9
 (fun z10 => l18r5
 (fun z11 z12 z13 z14 z15 => k1 z11 z12 z13 z14 z15)
 x2 (↑(List.length y7.2.1)) x3 x4 x5 (List.set x6 (Int.toNat x1) y9) y7 z10))
 False)
 False
structure l31r4 (k1 : Bool → Prop) (k2 : Prop) (s1 s2 : List Bool) (s3 s4 : Int) : Prop where
of :
 ∀ (I1 : (List Bool) → (List Bool) → Int → Int → Prop),
 (∀ (s1 s2 : List Bool) (s3 s4 : Int), (br (decide (s4 < s3))
 (need False (at? s1 s4) fun y5 =>
 need False (at? s2 s4) fun y6 =>
 br (!((y5 : Bool) == y6))
 (k1 false)
 (I1 s1 s2 s3 (IntKind.wrap .i64 (s4 + 1))))
 (k2)) → I1 s1 s2 s3 s4) →
 I1 s1 s2 s3 s4
structure c31 (x1 x2 : List Bool) (k1 : Bool → Prop) : Prop where
of :
 br (((↑(List.length x1)) : Int) != (↑(List.length x2)))
 (k1 false)
 (l31r4
 (fun z3 => k1 z3)
 (k1 true)
 x1 x2 (↑(List.length x1)) 0)
structure l15r10 (k1 : Bool → (List tBK) → Int → Int → Int → q2 → q2 → Prop) (s1 : Bool) (s2 : Int) (s3 : List tBK) (s4 s5 s6 : Int) (s7 s8 : List (List Bool)) : Prop where
of :
 ∀ (I1 : Bool → Int → (List tBK) → Int → Int → Int → q2 → q2 → Prop),
 (∀ (s1 : Bool) (s2 : Int) (s3 : List tBK) (s4 s5 s6 : Int) (s7 s8 : List (List Bool)), (br (decide (s2 ≥ 0))
 (c30 s2 s5 s6 s3 s7 s8
 (fun z9 z10 z11 z12 z13 z14 => br (decide (0 ≤ s2 ∧ s2 < (↑(List.length z12))))
 (need False (z12)[(Int.toNat s2)]? fun y15 =>
 need False (z12)[(Int.toNat s2)]? fun y16 =>
 br (List.isEmpty y16)
 ((br (decide (0 ≤ s2 ∧ s2 < (↑(List.length (List.set z12 (Int.toNat s2) y16)))))
 (need False ((List.set z12 (Int.toNat s2) y16))[(Int.toNat s2)]? fun y17 =>
 c18 s2 () z9 z10 z11 (List.set (List.set z12 (Int.toNat s2) y16) (Int.toNat s2) z14)
 (fun z18 z19 z20 z21 z22 => br (decide (0 ≤ s2 ∧ s2 < (↑(List.length z13))))
 (need False (z13)[(Int.toNat s2)]? fun y23 =>
 I1 true (IntKind.wrap .i64 (s2 - 1)) z20 s4 z18 z19 z21 (List.set z13 (Int.toNat s2) z22))
 False))
 False) ∧
 (br (decide (0 ≤ s2 ∧ s2 < (↑(List.length z12))))
 (need False (z12)[(Int.toNat s2)]? fun y24 =>
 br (decide ((Int.toNat s2) = (Int.toNat s2)))
 (c31 z14 y16
 (fun z25 => br (z25)
 (I1 s1 (IntKind.wrap .i64 (s2 - 1)) z11 s4 z9 z10 (List.set z12 (Int.toNat s2) y16) z13)
 (br (decide (0 ≤ s2 ∧ s2 < (↑(List.length (List.set z12 (Int.toNat s2) y16)))))
 (need False ((List.set z12 (Int.toNat s2) y16))[(Int.toNat s2)]? fun y26 =>
 c18 s2 () z9 z10 z11 (List.set (List.set z12 (Int.toNat s2) y16) (Int.toNat s2) z14)
 (fun z27 z28 z29 z30 z31 => br (decide (0 ≤ s2 ∧ s2 < (↑(List.length z13))))
 (need False (z13)[(Int.toNat s2)]? fun y32 =>
 I1 true (IntKind.wrap .i64 (s2 - 1)) z29 s4 z27 z28 z30 (List.set z13 (Int.toNat s2) z31))
 False))
 False)))
 (need False (z12)[(Int.toNat s2)]? fun y33 =>
 c31 z14 y33
 (fun z34 => br (z34)
 (I1 s1 (IntKind.wrap .i64 (s2 - 1)) z11 s4 z9 z10 (List.set (List.set z12 (Int.toNat s2) y33) (Int.toNat s2) y16) z13)
 (br (decide (0 ≤ s2 ∧ s2 < (↑(List.length (List.set (List.set z12 (Int.toNat s2) y33) (Int.toNat s2) y16)))))
 (need False ((List.set (List.set z12 (Int.toNat s2) y33) (Int.toNat s2) y16))[(Int.toNat s2)]? fun y35 =>
 c18 s2 () z9 z10 z11 (List.set (List.set (List.set z12 (Int.toNat s2) y33) (Int.toNat s2) y16) (Int.toNat s2) z14)
 (fun z36 z37 z38 z39 z40 => br (decide (0 ≤ s2 ∧ s2 < (↑(List.length z13))))
 (need False (z13)[(Int.toNat s2)]? fun y41 =>
 I1 true (IntKind.wrap .i64 (s2 - 1)) z38 s4 z36 z37 z39 (List.set z13 (Int.toNat s2) z40))
 False))
 False))))
 False))
 (br (decide (0 ≤ s2 ∧ s2 < (↑(List.length z12))))
 (need False (z12)[(Int.toNat s2)]? fun y42 =>
 br (decide ((Int.toNat s2) = (Int.toNat s2)))
 (c31 z14 y16
 (fun z43 => br (z43)
 (I1 s1 (IntKind.wrap .i64 (s2 - 1)) z11 s4 z9 z10 (List.set z12 (Int.toNat s2) y16) z13)
 (br (decide (0 ≤ s2 ∧ s2 < (↑(List.length (List.set z12 (Int.toNat s2) y16)))))
 (need False ((List.set z12 (Int.toNat s2) y16))[(Int.toNat s2)]? fun y44 =>
 c18 s2 () z9 z10 z11 (List.set (List.set z12 (Int.toNat s2) y16) (Int.toNat s2) z14)
 (fun z45 z46 z47 z48 z49 => br (decide (0 ≤ s2 ∧ s2 < (↑(List.length z13))))
 (need False (z13)[(Int.toNat s2)]? fun y50 =>
 I1 true (IntKind.wrap .i64 (s2 - 1)) z47 s4 z45 z46 z48 (List.set z13 (Int.toNat s2) z49))
 False))
 False)))
 (need False (z12)[(Int.toNat s2)]? fun y51 =>
 c31 z14 y51
 (fun z52 => br (z52)
 (I1 s1 (IntKind.wrap .i64 (s2 - 1)) z11 s4 z9 z10 (List.set (List.set z12 (Int.toNat s2) y51) (Int.toNat s2) y16) z13)
 (br (decide (0 ≤ s2 ∧ s2 < (↑(List.length (List.set (List.set z12 (Int.toNat s2) y51) (Int.toNat s2) y16)))))
 (need False ((List.set (List.set z12 (Int.toNat s2) y51) (Int.toNat s2) y16))[(Int.toNat s2)]? fun y53 =>
 c18 s2 () z9 z10 z11 (List.set (List.set (List.set z12 (Int.toNat s2) y51) (Int.toNat s2) y16) (Int.toNat s2) z14)
 (fun z54 z55 z56 z57 z58 => br (decide (0 ≤ s2 ∧ s2 < (↑(List.length z13))))
 (need False (z13)[(Int.toNat s2)]? fun y59 =>
 I1 true (IntKind.wrap .i64 (s2 - 1)) z56 s4 z54 z55 z57 (List.set z13 (Int.toNat s2) z58))
 False))
 False))))
 False))
 False))
 (k1 s1 s3 s4 s5 s6 s7 s8)) → I1 s1 s2 s3 s4 s5 s6 s7 s8) →
 I1 s1 s2 s3 s4 s5 s6 s7 s8
structure l15r7 (k1 : (List tBK) → Int → Int → q2 → q2 → Prop) (s1 : Bool) (s2 : List tBK) (s3 s4 s5 : Int) (s6 s7 : List (List Bool)) : Prop where
of :
 ∀ (I1 : Bool → (List tBK) → Int → Int → Int → q2 → q2 → Prop),
 (∀ (s1 : Bool) (s2 : List tBK) (s3 s4 s5 : Int) (s6 s7 : List (List Bool)), (br (s1)
 (l15r10
 (fun z8 z9 z10 z11 z12 z13 z14 => I1 z8 z9 z10 z11 z12 z13 z14)
 false (IntKind.wrap .i64 ((↑(List.length s2)) - 1)) s2 s3 s4 s5 s6 s7)
 (k1 s2 s4 s5 s6 s7)) → I1 s1 s2 s3 s4 s5 s6 s7) →
 I1 s1 s2 s3 s4 s5 s6 s7
structure c15 (x1 : Int) (x2 : List tBK) (k1 : Unit → Int → (List tBK) → q2 → Prop) (k2 : Int → (List tBK) → Int → Int → q2 → q2 → Prop) : Prop where
of :
 c28 (x1, x2, ())
 (fun z3 => br (z3 != 0)
 (k1 () z3 x2 [])
 ((c29 (x1, x2, ())
 (fun z4 => br ((eqT (.int .i64) x1 x1) && true)
 (br (true && true)
 (br (eqT (.int .i64) (((List.length x2) : Nat) : Int) (((List.length x2) : Nat) : Int))
 (br (decide ((((List.length x2) : Nat) : Int) = (((List.length x2) : Nat) : Int)))
 (br (decide ((0 : Int) ≤ (↑(List.length x2)) ∧ ((↑(List.length x2)) : Int) ≤ (↑(List.length x2)) ∧ (((↑(List.length x2)) * 24) : Int) ≤ 140737488355328))
 (br ((eqT (.int .i64) x1 x1) && true)
 (br (eqT (.int .i64) (IntKind.wrap .i64 (z4 + 1)) (IntKind.wrap .i64 (z4 + 1)))
 (br (decide ((((List.length x2) : Nat) : Int) = (((List.length x2) : Nat) : Int)))
 (br (decide ((0 : Int) ≤ (↑(List.length x2)) ∧ ((↑(List.length x2)) : Int) ≤ (↑(List.length x2)) ∧ (((↑(List.length x2)) * 24) : Int) ≤ 140737488355328))
 (l15r7
 (fun z5 z6 z7 z8 z9 => k2 0 z5 z6 z7 z8 z9)
 true x2 x1 x1 (IntKind.wrap .i64 (z4 + 1)) (List.replicate (Int.toNat (↑(List.length x2))) ([] : List (Bool))) (List.replicate (Int.toNat (↑(List.length x2))) ([] : List (Bool))))
 False)
 False)
 False)
 False)
 False)
 False)
 False)
 False)
 False)) ∧
 (br (decide ((((List.length x2) : Nat) : Int) = (((List.length x2) : Nat) : Int)))
 (br (decide ((0 : Int) ≤ (↑(List.length x2)) ∧ ((↑(List.length x2)) : Int) ≤ (↑(List.length x2)) ∧ (((↑(List.length x2)) * 24) : Int) ≤ 140737488355328))
 (br ((eqT (.int .i64) x1 x1) && true)
 (br ((eqT (.int .i64) x1 x1) && true)
 (c29 (x1, x2, ())
 (fun z10 => br ((eqT (.int .i64) x1 x1) && true)
 (br (decide ((((List.length x2) : Nat) : Int) = (((List.length x2) : Nat) : Int)))
 (br (decide ((0 : Int) ≤ (↑(List.length x2)) ∧ ((↑(List.length x2)) : Int) ≤ (↑(List.length x2)) ∧ (((↑(List.length x2)) * 24) : Int) ≤ 140737488355328))
 (l15r7
 (fun z11 z12 z13 z14 z15 => k2 0 z11 z12 z13 z14 z15)
 true x2 x1 x1 (IntKind.wrap .i64 (z10 + 1)) (List.replicate (Int.toNat (↑(List.length x2))) ([] : List (Bool))) (List.replicate (Int.toNat (↑(List.length x2))) ([] : List (Bool))))
 False)
 False)
 False))
 False)
 False)
 False)
 False)))
structure l7r6 (k1 : (List tBK) → (List (List Int)) → (List (List Int)) → Prop) (s1 : Unit) (s2 s3 : Int) (s4 : List tBK) (s5 : List (List Bool)) (s6 s7 : List (List Int)) : Prop where
of :
 ∀ (I1 : Unit → Int → Int → (List tBK) → q2 → (List (List Int)) → (List (List Int)) → Prop),
 (∀ (s1 : Unit) (s2 s3 : Int) (s4 : List tBK) (s5 : List (List Bool)) (s6 s7 : List (List Int)), (br (decide (s3 < s2))
 (br (decide (0 ≤ s3 ∧ s3 < (↑(List.length s5))))
 False
 False)
 (k1 s4 s6 s7)) → I1 s1 s2 s3 s4 s5 s6 s7) →
 I1 s1 s2 s3 s4 s5 s6 s7
structure l16r3 (k1 : (List Int) → Prop) (s1 : List Bool) (s2 s3 : Int) (s4 : List Int) : Prop where
of :
 ∀ (I1 : (List Bool) → Int → Int → (List Int) → Prop),
 (∀ (s1 : List Bool) (s2 s3 : Int) (s4 : List Int), (br (decide (s3 < s2))
 (need False (at? s1 s3) fun y5 =>
 br (y5)
 (br (roomB ((List.length s4) + 1) 8)
 (I1 s1 s2 (IntKind.wrap .i64 (s3 + 1)) (s4 ++ [s3]))
 False)
 (I1 s1 s2 (IntKind.wrap .i64 (s3 + 1)) s4))
 (k1 s4)) → I1 s1 s2 s3 s4) →
 I1 s1 s2 s3 s4
structure c16 (x1 : List Bool) (k1 : (List Int) → Prop) : Prop where
of :
 l16r3
 (fun z2 => k1 z2)
 x1 (↑(List.length x1)) 0 []
structure l7r6v2 (k1 : (List tBK) → (List (List Int)) → (List (List Int)) → Prop) (s1 s2 : Int) (s3 : List tBK) (s4 s5 : Int) (s6 s7 : List (List Bool)) (s8 s9 : List (List Int)) : Prop where
of :
 ∀ (I1 : Int → Int → (List tBK) → Int → Int → q2 → q2 → (List (List Int)) → (List (List Int)) → Prop),
 (∀ (s1 s2 : Int) (s3 : List tBK) (s4 s5 : Int) (s6 s7 : List (List Bool)) (s8 s9 : List (List Int)), (br (decide (s2 < s1))
 (br (decide (0 ≤ s2 ∧ s2 < (↑(List.length s7))))
 (br (decide (0 ≤ s2 ∧ s2 < (↑(List.length s6))))
 ((need False (s7)[(Int.toNat s2)]? fun y10 =>
 need False (s7)[(Int.toNat s2)]? fun y11 =>
 br (true)
 (br (true)
 (br (true && true)
 (br (eqT (.int .i64) s2 s2)
 (br (decide (0 ≤ s2 ∧ s2 < (↑(List.length s6))))
 (br ((decide ((Int.toNat s2) = (Int.toNat s2))) && true)
 ((c16 y11
 (fun z12 => br (true)
 (br (true)
 (br (true && true)
 (br (eqT (.int .i64) s2 s2)
 (br (decide (0 ≤ s2 ∧ s2 < (↑(List.length s6))))
 (br ((decide ((Int.toNat s2) = (Int.toNat s2))) && true)
 ((br (true)
 (br (true)
 (br (true && true)
 (br (eqT (.int .i64) s2 s2)
 (br (decide (0 ≤ s2 ∧ s2 < (↑(List.length s6))))
 (br ((decide ((Int.toNat s2) = (Int.toNat s2))) && true)
 ((br (roomB ((List.length s8) + 1) 24)
 (br (true)
 (br (true)
 (br (true && true)
 (br (eqT (.int .i64) s2 s2)
 (br (decide (0 ≤ s2 ∧ s2 < (↑(List.length s6))))
 (br ((decide ((Int.toNat s2) = (Int.toNat s2))) && true)
 (need False (s6)[(Int.toNat s2)]? fun y13 =>
 need False (s6)[(Int.toNat s2)]? fun y14 =>
 c16 y14
 (fun z15 => br (roomB ((List.length s9) + 1) 24)
 (I1 s1 (IntKind.wrap .i64 (s2 + 1)) s3 s4 s5 (List.set s6 (Int.toNat s2) y14) (List.set s7 (Int.toNat s2) y11) (List.set (s8 ++ (List.replicate 1 ([] : List (Int)))) ((List.length s8) + 0) z12) (List.set (s9 ++ (List.replicate 1 ([] : List (Int)))) ((List.length s9) + 0) z15))
 False))
 False)
 False)
 False)
 False)
 False)
 False)
 False) ∧
 (need False (s6)[(Int.toNat s2)]? fun y16 =>
 need False (s6)[(Int.toNat s2)]? fun y17 =>
 br (roomB ((List.length s8) + 1) 24)
 (c16 y17
 (fun z18 => br (roomB ((List.length s9) + 1) 24)
 (I1 s1 (IntKind.wrap .i64 (s2 + 1)) s3 s4 s5 (List.set s6 (Int.toNat s2) y17) (List.set s7 (Int.toNat s2) y11) (List.set (s8 ++ (List.replicate 1 ([] : List (Int)))) ((List.length s8) + 0) z12) (List.set (s9 ++ (List.replicate 1 ([] : List (Int)))) ((List.length s9) + 0) z18))
 False))
 False))
 False)
 False)
 False)
 False)
 False)
 False) ∧
 (need False (s6)[(Int.toNat s2)]? fun y19 =>
 need False (s6)[(Int.toNat s2)]? fun y20 =>
 br (roomB ((List.length s8) + 1) 24)
 (c16 y20
 (fun z21 => br (roomB ((List.length s9) + 1) 24)
 (I1 s1 (IntKind.wrap .i64 (s2 + 1)) s3 s4 s5 (List.set s6 (Int.toNat s2) y20) (List.set s7 (Int.toNat s2) y11) (List.set (s8 ++ (List.replicate 1 ([] : List (Int)))) ((List.length s8) + 0) z12) (List.set (s9 ++ (List.replicate 1 ([] : List (Int)))) ((List.length s9) + 0) z21))
 False))
 False))
 False)
 False)
 False)
 False)
 False)
 False)) ∧
 (need False (s6)[(Int.toNat s2)]? fun y22 =>
 need False (s6)[(Int.toNat s2)]? fun y23 =>
 c16 y11
 (fun z24 => br (roomB ((List.length s8) + 1) 24)
 (c16 y23
 (fun z25 => br (roomB ((List.length s9) + 1) 24)
 (I1 s1 (IntKind.wrap .i64 (s2 + 1)) s3 s4 s5 (List.set s6 (Int.toNat s2) y23) (List.set s7 (Int.toNat s2) y11) (List.set (s8 ++ (List.replicate 1 ([] : List (Int)))) ((List.length s8) + 0) z24) (List.set (s9 ++ (List.replicate 1 ([] : List (Int)))) ((List.length s9) + 0) z25))
 False))
 False)))
 False)
 False)
 False)
 False)
 False)
 False) ∧
 (need False (s6)[(Int.toNat s2)]? fun y26 =>
 need False (s6)[(Int.toNat s2)]? fun y27 =>
 br (eqT (.int .i64) s2 s2)
 (br (decide (0 ≤ s2 ∧ s2 < (↑(List.length s7))))
 (br ((decide ((Int.toNat s2) = (Int.toNat s2))) && true)
 (need False (s7)[(Int.toNat s2)]? fun y28 =>
 need False (s7)[(Int.toNat s2)]? fun y29 =>
 c16 y29
 (fun z30 => br (roomB ((List.length s8) + 1) 24)
 (c16 y27
 (fun z31 => br (roomB ((List.length s9) + 1) 24)
 (I1 s1 (IntKind.wrap .i64 (s2 + 1)) s3 s4 s5 (List.set s6 (Int.toNat s2) y27) (List.set s7 (Int.toNat s2) y29) (List.set (s8 ++ (List.replicate 1 ([] : List (Int)))) ((List.length s8) + 0) z30) (List.set (s9 ++ (List.replicate 1 ([] : List (Int)))) ((List.length s9) + 0) z31))
 False))
 False))
 False)
 False)
 False))
 False)
 False)
 (k1 s3 s8 s9)) → I1 s1 s2 s3 s4 s5 s6 s7 s8 s9) →
 I1 s1 s2 s3 s4 s5 s6 s7 s8 s9
structure c7 (x1 : Int) (x2 : List tBK) (k1 : Int → (List tBK) → (List (List Int)) → (List (List Int)) → Prop) : Prop where
of :
 c15 x1 x2
 (fun z3 z4 z5 z6 => br (z4 != 0)
 (k1 z4 z5 [] [])
 (l7r6
 (fun z7 z8 z9 => k1 0 z7 z8 z9)
 z3 (↑(List.length z5)) 0 z5 z6 [] []))
 (fun z10 z11 z12 z13 z14 z15 => br (z10 != 0)
 (k1 z10 z11 [] [])
 (l7r6v2
 (fun z16 z17 z18 => k1 0 z16 z17 z18)
 (↑(List.length z11)) 0 z11 z12 z13 z14 z15 [] []))
structure l26r1 (k1 : (List q0) → Int → Prop) (s1 s2 s3 : Int) (s4 : List q0) (s5 : Int) (s6 : List Int) : Prop where
of :
 ∀ (I1 : Int → Int → Int → (List q0) → Int → (List Int) → Prop),
 (∀ (s1 s2 s3 : Int) (s4 : List q0) (s5 : Int) (s6 : List Int), (br (decide (s3 < s2))
 (br (decide (0 ≤ s3 ∧ s3 < (↑(List.length s6))))
 (need False (s6)[(Int.toNat s3)]? fun y7 =>
 br (decide (0 ≤ y7 ∧ y7 < (↑(List.length s4))))
 (need False (s4)[(Int.toNat y7)]? fun y8 =>
 need False (s4)[(Int.toNat y7)]? fun y9 =>
 br (decide (((↑(List.length y9)) : Int) > 0))
 (br (decide (0 ≤ y7 ∧ y7 < (↑(List.length (List.set s4 (Int.toNat y7) y9)))))
 (need False ((List.set s4 (Int.toNat y7) y9))[(Int.toNat y7)]? fun y10 =>
 need False ((List.set s4 (Int.toNat y7) y9))[(Int.toNat y7)]? fun y11 =>
 br (eqT (.int .i64) (((List.length y9) : Nat) : Int) (((List.length y9) : Nat) : Int))
 (br (eqT (.int .i64) (IntKind.wrap .i64 ((↑(List.length y9)) - 1)) (IntKind.wrap .i64 ((↑(List.length y9)) - 1)))
 (br (decide ((0 : Int) ≤ (IntKind.wrap .i64 ((↑(List.length y9)) - 1)) ∧ ((IntKind.wrap .i64 ((↑(List.length y9)) - 1)) : Int) < (↑(List.length y11))))
 (need False (y11)[(Int.toNat (IntKind.wrap .i64 ((↑(List.length y9)) - 1)))]? fun y12 =>
 br (eqT (.int .i64) s5 s5)
 (br ((y12.2.1 : Int) == s5)
 (br (decide (0 ≤ y7 ∧ y7 < (↑(List.length (List.set (List.set s4 (Int.toNat y7) y9) (Int.toNat y7) y11)))))
 (need False ((List.set (List.set s4 (Int.toNat y7) y9) (Int.toNat y7) y11))[(Int.toNat y7)]? fun y13 =>
 need False ((List.set (List.set s4 (Int.toNat y7) y9) (Int.toNat y7) y11))[(Int.toNat y7)]? fun y14 =>
 br (decide ((0 : Int) ≤ (IntKind.wrap .i64 ((↑(List.length y9)) - 1)) ∧ ((IntKind.wrap .i64 ((↑(List.length y9)) - 1)) : Int) < (↑(List.length y14))))
 (need False (y14)[(Int.toNat (IntKind.wrap .i64 ((↑(List.length y9)) - 1)))]? fun y15 =>
 I1 s1 s2 (IntKind.wrap .i64 (s3 + 1)) (List.set (List.set (List.set s4 (Int.toNat y7) y9) (Int.toNat y7) y11) (Int.toNat y7) (List.set y14 (Int.toNat (IntKind.wrap .i64 ((↑(List.length y9)) - 1))) (y15.1, y15.2.1, s1, y15.2.2.2))) s5 s6)
 False)
 False)
 (br (decide (0 ≤ y7 ∧ y7 < (↑(List.length (List.set (List.set s4 (Int.toNat y7) y9) (Int.toNat y7) y11)))))
 ((need False ((List.set (List.set s4 (Int.toNat y7) y9) (Int.toNat y7) y11))[(Int.toNat y7)]? fun y16 =>
 need False ((List.set (List.set s4 (Int.toNat y7) y9) (Int.toNat y7) y11))[(Int.toNat y7)]? fun y17 =>
 br (eqT (.int .i64) y7 y7)
 (br (eqT (.int .i64) y7 y7)
 (br (eqT (.int .i64) s5 s5)
 (br (eqT (.int .i64) s1 s1)
 (br (eqT (.int .i64) s1 s1)
 (br (eqT (.pair (.int .i64) (.pair (.int .i64) (.pair (.int .i64) (.pair (.int .i64) .unit)))) (y7, s5, s1, s1, ()) (y7, s5, s1, s1, ()))
 (br (eqT (.int .i64) y7 y7)
 (br (roomB ((List.length y17) + 1) 32)
 (br (eqT (.int .i64) y7 y7)
 (br (decide (0 ≤ y7 ∧ y7 < (↑(List.length (List.set (List.set s4 (Int.toNat y7) y9) (Int.toNat y7) y11)))))
 (need False ((List.set (List.set s4 (Int.toNat y7) y9) (Int.toNat y7) y11))[(Int.toNat y7)]? fun y18 =>
 br (decide ((Int.toNat y7) = (Int.toNat y7)))
 (I1 s1 s2 (IntKind.wrap .i64 (s3 + 1)) (List.set (List.set (List.set s4 (Int.toNat y7) y9) (Int.toNat y7) y11) (Int.toNat y7) (y17 ++ [(y7, s5, s1, s1, ())])) s5 s6)
 False)
 False)
 False)
 False)
 False)
 False)
 False)
 False)
 False)
 False)
 False) ∧
 (br (eqT (.int .i64) y7 y7)
 (br (eqT (.int .i64) y7 y7)
 (br (decide (0 ≤ y7 ∧ y7 < (↑(List.length (List.set (List.set s4 (Int.toNat y7) y9) (Int.toNat y7) y11)))))
 (br ((decide ((Int.toNat y7) = (Int.toNat y7))) && true)
 (need False ((List.set (List.set s4 (Int.toNat y7) y9) (Int.toNat y7) y11))[(Int.toNat y7)]? fun y19 =>
 need False ((List.set (List.set s4 (Int.toNat y7) y9) (Int.toNat y7) y11))[(Int.toNat y7)]? fun y20 =>
 br (eqT (.int .i64) y7 y7)
 (br (roomB ((List.length y20) + 1) 32)
 (br (eqT (.int .i64) y7 y7)
 (br (decide (0 ≤ y7 ∧ y7 < (↑(List.length (List.set (List.set s4 (Int.toNat y7) y9) (Int.toNat y7) y11)))))
 (need False ((List.set (List.set s4 (Int.toNat y7) y9) (Int.toNat y7) y11))[(Int.toNat y7)]? fun y21 =>
 br (decide ((Int.toNat y7) = (Int.toNat y7)))
 (I1 s1 s2 (IntKind.wrap .i64 (s3 + 1)) (List.set (List.set (List.set s4 (Int.toNat y7) y9) (Int.toNat y7) y11) (Int.toNat y7) (y20 ++ [(y7, s5, s1, s1, ())])) s5 s6)
 False)
 False)
 False)
 False)
 False)
 False)
 False)
 False)
 False))
 False))
 False)
 False)
 False)
 False)
 False)
 (br (decide (0 ≤ y7 ∧ y7 < (↑(List.length (List.set s4 (Int.toNat y7) y9)))))
 ((need False ((List.set s4 (Int.toNat y7) y9))[(Int.toNat y7)]? fun y22 =>
 need False ((List.set s4 (Int.toNat y7) y9))[(Int.toNat y7)]? fun y23 =>
 br (eqT (.int .i64) y7 y7)
 (br (eqT (.int .i64) y7 y7)
 (br (eqT (.int .i64) s5 s5)
 (br (eqT (.int .i64) s1 s1)
 (br (eqT (.int .i64) s1 s1)
 (br (eqT (.pair (.int .i64) (.pair (.int .i64) (.pair (.int .i64) (.pair (.int .i64) .unit)))) (y7, s5, s1, s1, ()) (y7, s5, s1, s1, ()))
 (br (eqT (.int .i64) y7 y7)
 (br (roomB ((List.length y23) + 1) 32)
 (br (eqT (.int .i64) y7 y7)
 (br (decide (0 ≤ y7 ∧ y7 < (↑(List.length (List.set s4 (Int.toNat y7) y9)))))
 (need False ((List.set s4 (Int.toNat y7) y9))[(Int.toNat y7)]? fun y24 =>
 br (decide ((Int.toNat y7) = (Int.toNat y7)))
 (I1 s1 s2 (IntKind.wrap .i64 (s3 + 1)) (List.set (List.set s4 (Int.toNat y7) y9) (Int.toNat y7) (y23 ++ [(y7, s5, s1, s1, ())])) s5 s6)
 False)
 False)
 False)
 False)
 False)
 False)
 False)
 False)
 False)
 False)
 False) ∧
 (br (eqT (.int .i64) y7 y7)
 (br (eqT (.int .i64) y7 y7)
 (br (decide (0 ≤ y7 ∧ y7 < (↑(List.length (List.set s4 (Int.toNat y7) y9)))))
 (br ((decide ((Int.toNat y7) = (Int.toNat y7))) && true)
 (need False ((List.set s4 (Int.toNat y7) y9))[(Int.toNat y7)]? fun y25 =>
 need False ((List.set s4 (Int.toNat y7) y9))[(Int.toNat y7)]? fun y26 =>
 br (eqT (.int .i64) y7 y7)
 (br (roomB ((List.length y26) + 1) 32)
 (br (eqT (.int .i64) y7 y7)
 (br (decide (0 ≤ y7 ∧ y7 < (↑(List.length (List.set s4 (Int.toNat y7) y9)))))
 (need False ((List.set s4 (Int.toNat y7) y9))[(Int.toNat y7)]? fun y27 =>
 br (decide ((Int.toNat y7) = (Int.toNat y7)))
 (I1 s1 s2 (IntKind.wrap .i64 (s3 + 1)) (List.set (List.set s4 (Int.toNat y7) y9) (Int.toNat y7) (y26 ++ [(y7, s5, s1, s1, ())])) s5 s6)
 False)
 False)
 False)
 False)
 False)
 False)
 False)
 False)
 False))
 False))
 False)
 False)
 (k1 s4 s5)) → I1 s1 s2 s3 s4 s5 s6) →
 I1 s1 s2 s3 s4 s5 s6
structure c26 (x1 : Int) (x2 : List Bool) (x3 : List q0) (x4 : Int) (k1 : (List q0) → Int → Prop) : Prop where
of :
 c16 x2
 (fun z5 => l26r1
 (fun z6 z7 => k1 z6 z7)
 x1 (↑(List.length z5)) 0 x3 x4 z5)
structure l18r12v2 (k1 : Int → Int → Int → (List tBK) → q2 → (List q0) → Int → tBK → (List Bool) → Prop) (s1 : Int) (s2 : List Int) (s3 s4 s5 s6 : Int) (s7 : List tBK) (s8 : List (List Bool)) (s9 : List q0) (s10 : Int) (s11 : tBK) (s12 : List Bool) : Prop where
of :
 ∀ (I1 : Int → (List Int) → Int → Int → Int → Int → (List tBK) → q2 → (List q0) → Int → tBK → (List Bool) → Prop),
 (∀ (s1 : Int) (s2 : List Int) (s3 s4 s5 s6 : Int) (s7 : List tBK) (s8 : List (List Bool)) (s9 : List q0) (s10 : Int) (s11 : tBK) (s12 : List Bool), (br (decide (s4 < s3))
 (need False (at? s2 s4) fun y13 =>
 br (decide (0 ≤ y13 ∧ y13 < (↑(List.length s12))))
 (need False (s12)[(Int.toNat y13)]? fun y14 =>
 I1 s1 s2 s3 (IntKind.wrap .i64 (s4 + 1)) s5 s6 s7 s8 s9 s10 s11 (List.set s12 (Int.toNat y13) true))
 False)
 (k1 s1 s5 s6 s7 s8 s9 s10 s11 s12)) → I1 s1 s2 s3 s4 s5 s6 s7 s8 s9 s10 s11 s12) →
 I1 s1 s2 s3 s4 s5 s6 s7 s8 s9 s10 s11 s12
structure l18r5v2 (k1 : Int → Int → (List tBK) → q2 → (List q0) → Int → (List Bool) → Prop) (s1 s2 s3 : Int) (s4 : List tBK) (s5 : List (List Bool)) (s6 : List q0) (s7 : Int) (s8 : tBK) (s9 : List Bool) : Prop where
of :
 ∀ (I1 : Int → Int → Int → (List tBK) → q2 → (List q0) → Int → tBK → (List Bool) → Prop),
 (∀ (s1 s2 s3 : Int) (s4 : List tBK) (s5 : List (List Bool)) (s6 : List q0) (s7 : Int) (s8 : tBK) (s9 : List Bool), (c26 s1 s9 s6 s7
 (fun z10 z11 => br (s1 == 0)
 (k1 s2 s3 s4 s5 z10 z11 s9)
 (need False (at? s8.2.1 (IntKind.wrap .i64 (s1 - 1))) fun y12 =>
 br (decide ((0 : Int) ≤ y12.1 ∧ (y12.1 : Int) < (↑(List.length s9))))
 (need False (s9)[(Int.toNat y12.1)]? fun y13 =>
 l18r12v2
 (fun z14 z15 z16 z17 z18 z19 z20 z21 z22 => I1 (IntKind.wrap .i64 (z14 - 1)) z15 z16 z17 z18 z19 z20 z21 z22)
 s1 y12.2.2.2.1 (↑(List.length y12.2.2.2.1)) 0 s2 s3 s4 s5 z10 z11 s8 (List.set s9 (Int.toNat y12.1) false))
 False))) → I1 s1 s2 s3 s4 s5 s6 s7 s8 s9) →
 I1 s1 s2 s3 s4 s5 s6 s7 s8 s9
structure c18v2 (x1 x2 x3 : Int) (x4 : List tBK) (x5 : List (List Bool)) (x6 : List q0) (x7 : Int) (k1 : Int → Int → (List tBK) → q2 → (List q0) → Int → (List Bool) → Prop) : Prop where
of :
 br (decide (0 ≤ x1 ∧ x1 < (↑(List.length x4))))
 (need False (x4)[(Int.toNat x1)]? fun y8 =>
 br (decide (0 ≤ x1 ∧ x1 < (↑(List.length x5))))
 (need False (x5)[(Int.toNat x1)]? fun y9 =>
 need False (x5)[(Int.toNat x1)]? fun y10 =>
 c37 y10
 (fun z11 => l18r5v2
 (fun z12 z13 z14 z15 z16 z17 z18 => k1 z12 z13 z14 z15 z16 z17 z18)
 (↑(List.length y8.2.1)) x2 x3 x4 (List.set x5 (Int.toNat x1) y10) x6 x7 y8 z11))
 False)
 False
structure l13r6 (k1 : (List tBK) → (List q0) → Prop) (s1 s2 : Int) (s3 : List tBK) (s4 s5 : Int) (s6 : List (List Bool)) (s7 : List q0) : Prop where
of :
 ∀ (I1 : Int → Int → (List tBK) → Int → Int → q2 → (List q0) → Prop),
 (∀ (s1 s2 : Int) (s3 : List tBK) (s4 s5 : Int) (s6 : List (List Bool)) (s7 : List q0), (br (decide (s2 < s1))
 (c18v2 s2 s4 s5 s3 s6 s7 s2
 (fun z8 z9 z10 z11 z12 z13 z14 => I1 s1 (IntKind.wrap .i64 (s2 + 1)) z10 z8 z9 z11 z12))
 (k1 s3 s7)) → I1 s1 s2 s3 s4 s5 s6 s7) →
 I1 s1 s2 s3 s4 s5 s6 s7
structure l27r3 (k1 : Int → (List q0) → Prop) (s1 s2 s3 : Int) (s4 : List q0) : Prop where
of :
 ∀ (I1 : Int → Int → Int → (List q0) → Prop),
 (∀ (s1 s2 s3 : Int) (s4 : List q0), (br (decide (s3 < s2))
 (br (decide (0 ≤ s3 ∧ s3 < (↑(List.length s4))))
 (need False (s4)[(Int.toNat s3)]? fun y5 =>
 need False (s4)[(Int.toNat s3)]? fun y6 =>
 br (decide (((IntKind.wrap .i64 (s1 + (↑(List.length y6)))) : Int) < 0))
 False
 (I1 (IntKind.wrap .i64 (s1 + (↑(List.length y6)))) s2 (IntKind.wrap .i64 (s3 + 1)) (List.set s4 (Int.toNat s3) y6)))
 False)
 (k1 s1 s4)) → I1 s1 s2 s3 s4) →
 I1 s1 s2 s3 s4
structure c42 (x1 : Int) (k1 : Nat → Nat → Nat → q0 → Prop) (k2 : q0 → Prop) : Prop where
of :
 br (decide (x1 < 0))
 False
 (br (decide (((IntKind.wrap .i64 (x1 - 0)) : Int) > 0))
 (br (decide ((0 : Int) < (IntKind.wrap .i64 (x1 - 0)) ∧ (((IntKind.wrap .i64 (x1 - 0)) * 32) : Int) ≤ 140737488355328))
 (br (decide ((0 : Int) ≤ 0 ∧ (0 : Int) ≤ 0 ∧ (0 : Int) ≤ (↑(List.length (List.replicate (Int.toNat (IntKind.wrap .i64 (x1 - 0))) ((0, 0, 0, 0, ()) : (Int) × (Int) × (Int) × (Int) × Unit)))) ∧ ((↑(List.length (List.replicate (Int.toNat (IntKind.wrap .i64 (x1 - 0))) ((0, 0, 0, 0, ()) : (Int) × (Int) × (Int) × (Int) × Unit)))) : Int) ≤ (↑(List.length (List.replicate (Int.toNat (IntKind.wrap .i64 (x1 - 0))) ((0, 0, 0, 0, ()) : (Int) × (Int) × (Int) × (Int) × Unit))))))
 (k1 0 0 (Int.toNat ((↑(List.length (List.replicate (Int.toNat (IntKind.wrap .i64 (x1 - 0))) ((0, 0, 0, 0, ()) : (Int) × (Int) × (Int) × (Int) × Unit)))) - 0)) (List.replicate (Int.toNat (IntKind.wrap .i64 (x1 - 0))) ((0, 0, 0, 0, ()) : (Int) × (Int) × (Int) × (Int) × Unit)))
 False)
 False)
 (k2 []))
structure l27r11 (k1 : Nat → Nat → Nat → (List q0) → q0 → Prop) (k2 : (List q0) → q0 → Prop) (s1 s2 s3 : Nat) (s4 s5 : Int) (s6 : List q0) (s7 : List (Int × Int × Int × Int × Unit)) : Prop where
of :
 ∀ (I1 : Nat → Nat → Nat → Int → Int → (List q0) → q0 → Prop) (I2 : Int → Int → (List q0) → q0 → Prop),
 (∀ (s1 s2 s3 : Nat) (s4 s5 : Int) (s6 : List q0) (s7 : List (Int × Int × Int × Int × Unit)), (br (decide (s5 < s4))
 (br (decide (0 ≤ s5 ∧ s5 < (↑(List.length s6))))
 (need False (s6)[(Int.toNat s5)]? fun y8 =>
 need False (s6)[(Int.toNat s5)]? fun y9 =>
 br (decide ((s2 + (List.length y9)) ≤ s3))
 (I1 s1 (s2 + (List.length y9)) s3 s4 (IntKind.wrap .i64 (s5 + 1)) (List.set s6 (Int.toNat s5) y9) (((List.take (s1 + s2) s7) ++ y9) ++ (List.drop ((s1 + s2) + (List.length y9)) s7)))
 (br (roomB (s2 + (List.length y9)) 32)
 (br (decide (s1 = 0))
 (I2 s4 (IntKind.wrap .i64 (s5 + 1)) (List.set s6 (Int.toNat s5) y9) ((List.take s2 s7) ++ y9))
 ((I2 s4 (IntKind.wrap .i64 (s5 + 1)) (List.set s6 (Int.toNat s5) y9) ((List.take s2 (List.drop s1 s7)) ++ y9)) ∧
 (I1 s1 (s2 + (List.length y9)) (s2 + (List.length y9)) s4 (IntKind.wrap .i64 (s5 + 1)) (List.set s6 (Int.toNat s5) y9) ((List.take (s1 + s2) s7) ++ y9))))
 False))
 False)
 (k1 s1 s2 s3 s6 s7)) → I1 s1 s2 s3 s4 s5 s6 s7) →
 (∀ (s10 s11 : Int) (s12 : List q0) (s13 : List (Int × Int × Int × Int × Unit)), (br (decide (s11 < s10))
 (br (decide (0 ≤ s11 ∧ s11 < (↑(List.length s12))))
 (need False (s12)[(Int.toNat s11)]? fun y14 =>
 need False (s12)[(Int.toNat s11)]? fun y15 =>
 br (List.isEmpty y15)
 (I2 s10 (IntKind.wrap .i64 (s11 + 1)) (List.set s12 (Int.toNat s11) y15) s13)
 (br (roomB ((List.length s13) + (List.length y15)) 32)
 (I2 s10 (IntKind.wrap .i64 (s11 + 1)) (List.set s12 (Int.toNat s11) y15) (s13 ++ y15))
 False))
 False)
 (k2 s12 s13)) → I2 s10 s11 s12 s13) →
 I1 s1 s2 s3 s4 s5 s6 s7
structure l27r11v2 (k1 : (List q0) → q0 → Prop) (s1 s2 : Int) (s3 : List q0) (s4 : List (Int × Int × Int × Int × Unit)) : Prop where
of :
 ∀ (I1 : Int → Int → (List q0) → q0 → Prop),
 (∀ (s1 s2 : Int) (s3 : List q0) (s4 : List (Int × Int × Int × Int × Unit)), (br (decide (s2 < s1))
 (br (decide (0 ≤ s2 ∧ s2 < (↑(List.length s3))))
 (need False (s3)[(Int.toNat s2)]? fun y5 =>
 need False (s3)[(Int.toNat s2)]? fun y6 =>
 br (List.isEmpty y6)
 (I1 s1 (IntKind.wrap .i64 (s2 + 1)) (List.set s3 (Int.toNat s2) y6) s4)
 (br (roomB ((List.length s4) + (List.length y6)) 32)
 (I1 s1 (IntKind.wrap .i64 (s2 + 1)) (List.set s3 (Int.toNat s2) y6) (s4 ++ y6))
 False))
 False)
 (k1 s3 s4)) → I1 s1 s2 s3 s4) →
 I1 s1 s2 s3 s4
structure c27 (x1 : List q0) (k1 : Nat → Nat → Nat → (List q0) → q0 → Prop) (k2 : (List q0) → q0 → Prop) : Prop where
of :
 l27r3
 (fun z2 z3 => c42 z2
 (fun z4 z5 z6 z7 => l27r11
 (fun z8 z9 z10 z11 z12 => k1 z8 z9 z10 z11 z12)
 (fun z13 z14 => k2 z13 z14)
 z4 z5 z6 (↑(List.length z3)) 0 z3 z7)
 (fun z15 => l27r11v2
 (fun z16 z17 => k2 z16 z17)
 (↑(List.length z3)) 0 z3 z15))
 0 (↑(List.length x1)) 0 x1
structure c13 (x1 : Int) (x2 : List tBK) (k1 : Int → (List tBK) → q0 → Prop) (k2 : Nat → Nat → Nat → Int → (List tBK) → q0 → Prop) : Prop where
of :
 c15 x1 x2
 (fun z3 z4 z5 z6 => br (z4 != 0)
 (k1 z4 z5 [])
 False)
 (fun z7 z8 z9 z10 z11 z12 => br (z7 != 0)
 (k1 z7 z8 [])
 (br (decide (z10 = z10))
 (br (decide ((0 : Int) ≤ z10 ∧ (z10 : Int) ≤ z10 ∧ ((z10 * 24) : Int) ≤ 140737488355328))
 (l13r6
 (fun z13 z14 => c27 z14
 (fun z15 z16 z17 z18 z19 => k2 z15 z16 z17 0 z13 z19)
 (fun z20 z21 => k1 0 z13 z21))
 (↑(List.length z8)) 0 z8 z9 z10 z11 (List.replicate (Int.toNat z10) ([] : List ((Int) × (Int) × (Int) × (Int) × Unit))))
 False)
 False))
structure l11r4 (k1 : Bool → Prop) (k2 : Prop) (s1 s2 : List Int) (s3 s4 : Int) : Prop where
of :
 ∀ (I1 : (List Int) → (List Int) → Int → Int → Prop),
 (∀ (s1 s2 : List Int) (s3 s4 : Int), (br (decide (s4 < s3))
 (need False (at? s2 s4) fun y5 =>
 need False (at? s1 s4) fun y6 =>
 br (y6 != y5)
 (k1 false)
 (I1 s1 s2 s3 (IntKind.wrap .i64 (s4 + 1))))
 (k2)) → I1 s1 s2 s3 s4) →
 I1 s1 s2 s3 s4
structure c11 (x1 x2 : List Int) (k1 : Bool → Prop) : Prop where
of :
 br (((↑(List.length x1)) : Int) != (↑(List.length x2)))
 (k1 false)
 (l11r4
 (fun z3 => k1 z3)
 (k1 true)
 x2 x1 (↑(List.length x1)) 0)
structure l14r4 (k1 : Bool → (List (List Int)) → (List (List Int)) → Prop) (k2 : (List (List Int)) → (List (List Int)) → Prop) (s1 s2 : Int) (s3 s4 : List (List Int)) : Prop where
of :
 ∀ (I1 : Int → Int → (List (List Int)) → (List (List Int)) → Prop),
 (∀ (s1 s2 : Int) (s3 s4 : List (List Int)), (br (decide (s2 < s1))
 (br (decide (0 ≤ s2 ∧ s2 < (↑(List.length s3))))
 (need False (s3)[(Int.toNat s2)]? fun y5 =>
 need False (s3)[(Int.toNat s2)]? fun y6 =>
 br (decide (0 ≤ s2 ∧ s2 < (↑(List.length s4))))
 (need False (s4)[(Int.toNat s2)]? fun y7 =>
 need False (s4)[(Int.toNat s2)]? fun y8 =>
 c11 y6 y8
 (fun z9 => br (!z9)
 (k1 false (List.set s3 (Int.toNat s2) y6) (List.set s4 (Int.toNat s2) y8))
 (I1 s1 (IntKind.wrap .i64 (s2 + 1)) (List.set s3 (Int.toNat s2) y6) (List.set s4 (Int.toNat s2) y8))))
 False)
 False)
 (k2 s3 s4)) → I1 s1 s2 s3 s4) →
 I1 s1 s2 s3 s4
structure c14 (x1 x2 : List (List Int)) (k1 : Bool → (List (List Int)) → (List (List Int)) → Prop) : Prop where
of :
 br (((↑(List.length x1)) : Int) != (↑(List.length x2)))
 (k1 false x1 x2)
 (l14r4
 (fun z3 z4 z5 => k1 z3 z4 z5)
 (fun z6 z7 => k1 true z6 z7)
 (↑(List.length x1)) 0 x1 x2)
structure l14r4v2 (k1 : Bool → (List (List Int)) → (List (List Int)) → Nat → (List Int) → Prop) (k2 : (List (List Int)) → (List (List Int)) → Nat → (List Int) → Prop) (s1 s2 : Int) (s3 s4 : List (List Int)) (s5 : Nat) (s6 : List Int) : Prop where
of :
 ∀ (I1 : Int → Int → (List (List Int)) → (List (List Int)) → Nat → (List Int) → Prop),
 (∀ (s1 s2 : Int) (s3 s4 : List (List Int)) (s5 : Nat) (s6 : List Int), (br (decide (s2 < s1))
 (br (decide (0 ≤ s2 ∧ s2 < (↑(List.length s3))))
 (need False (s3)[(Int.toNat s2)]? fun y7 =>
 need False (s3)[(Int.toNat s2)]? fun y8 =>
 br (decide (0 ≤ s2 ∧ s2 < (↑(List.length s4))))
 (need False (s4)[(Int.toNat s2)]? fun y9 =>
 br (decide ((Int.toNat s2) = s5))
 (c11 y8 s6
 (fun z10 => br (!z10)
 (k1 false (List.set s3 (Int.toNat s2) y8) s4 s5 s6)
 (I1 s1 (IntKind.wrap .i64 (s2 + 1)) (List.set s3 (Int.toNat s2) y8) s4 s5 s6)))
 (need False (s4)[(Int.toNat s2)]? fun y11 =>
 c11 y8 y11
 (fun z12 => br (!z12)
 (k1 false (List.set s3 (Int.toNat s2) y8) (List.set s4 (Int.toNat s2) y11) s5 s6)
 (I1 s1 (IntKind.wrap .i64 (s2 + 1)) (List.set s3 (Int.toNat s2) y8) (List.set s4 (Int.toNat s2) y11) s5 s6))))
 False)
 False)
 (k2 s3 s4 s5 s6)) → I1 s1 s2 s3 s4 s5 s6) →
 I1 s1 s2 s3 s4 s5 s6
structure c14v2 (x1 x2 : List (List Int)) (x3 : Nat) (x4 : List Int) (k1 : Bool → (List (List Int)) → (List (List Int)) → Nat → (List Int) → Prop) : Prop where
of :
 br (((↑(List.length x1)) : Int) != (↑(List.length x2)))
 (k1 false x1 x2 x3 x4)
 (l14r4v2
 (fun z5 z6 z7 z8 z9 => k1 z5 z6 z7 z8 z9)
 (fun z10 z11 z12 z13 => k1 true z10 z11 z12 z13)
 (↑(List.length x1)) 0 x1 x2 x3 x4)
structure c4 (k1 : Bool → Prop) : Prop where
of :
 c7 (-1) [([], [(1, 0, 1, [], ()), (2, 0, 2, [], ())], (0, 2, 0, [], [], ()), ())]
 (fun z1 z2 z3 z4 => c13 (-1) z2
 (fun z5 z6 z7 => br (z1 == 0)
 (c14 z3 (List.replicate 1 ([] : List (Int)))
 (fun z8 z9 z10 => br (z8)
 (c14v2 z4 (List.replicate 1 ([] : List (Int))) 0 [2]
 (fun z11 z12 z13 z14 z15 => br (z11)
 (br (z5 == 0)
 (br (((↑(List.length z7)) : Int) == 1)
 (br (decide ((0 : Int) ≤ 0 ∧ (0 : Int) < (↑(List.length z7))))
 (need False (z7)[0]? fun y16 =>
 k1 (((y16.1 : Int) == 2) && (((y16.2.1 : Int) == 0) && (((y16.2.2.1 : Int) == 2) && (((y16.2.2.2.1 : Int) == 2) && true)))))
 False)
 (k1 false))
 (k1 false))
 (k1 false)))
 (k1 false)))
 (k1 false))
 (fun z17 z18 z19 z20 z21 z22 => br (z1 == 0)
 (c14 z3 (List.replicate 1 ([] : List (Int)))
 (fun z23 z24 z25 => br (z23)
 (c14v2 z4 (List.replicate 1 ([] : List (Int))) 0 [2]
 (fun z26 z27 z28 z29 z30 => br (z26)
 (br (z20 == 0)
 (br ((((z18 : Nat) : Int) : Int) == 1)
 (br (decide ((0 : Int) ≤ 0 ∧ (0 : Int) < ((z18 : Nat) : Int)))
 (need False (z22)[(z17 + 0)]? fun y31 =>
 k1 (((y31.1 : Int) == 2) && (((y31.2.1 : Int) == 0) && (((y31.2.2.1 : Int) == 2) && (((y31.2.2.2.1 : Int) == 2) && true)))))
 False)
 (k1 false))
 (k1 false))
 (k1 false)))
 (k1 false)))
 (k1 false)))
structure l6r6 (k1 : Int → (List tBK) → Int → Int → tBK → Prop) (s1 : Int) (s2 : List tBK) (s3 s4 : Int) (s5 : List Int) (s6 s7 : Int) (s8 : tBK) : Prop where
of :
 ∀ (I1 : Int → (List tBK) → Int → Int → (List Int) → Int → Int → tBK → Prop),
 (∀ (s1 : Int) (s2 : List tBK) (s3 s4 : Int) (s5 : List Int) (s6 s7 : Int) (s8 : tBK), (br (decide (s7 < s6))
 (need False (at? s5 s7) fun y9 =>
 I1 (maxI s1 (IntKind.wrap .i64 (y9 + 1))) s2 s3 s4 s5 s6 (IntKind.wrap .i64 (s7 + 1)) s8)
 (k1 s1 s2 s3 s4 s8)) → I1 s1 s2 s3 s4 s5 s6 s7 s8) →
 I1 s1 s2 s3 s4 s5 s6 s7 s8
structure l6r11 (k1 : Int → (List tBK) → Int → Int → Prop) (s1 : Int) (s2 : List tBK) (s3 s4 : Int) (s5 : List tIN) (s6 s7 : Int) : Prop where
of :
 ∀ (I1 : Int → (List tBK) → Int → Int → (List tIN) → Int → Int → Prop),
 (∀ (s1 : Int) (s2 : List tBK) (s3 s4 : Int) (s5 : List tIN) (s6 s7 : Int), (br (decide (s7 < s6))
 (need False (at? s5 s7) fun y8 =>
 I1 (maxI s1 (IntKind.wrap .i64 (y8.1 + 1))) s2 s3 s4 s5 s6 (IntKind.wrap .i64 (s7 + 1)))
 (k1 s1 s2 s3 s4)) → I1 s1 s2 s3 s4 s5 s6 s7) →
 I1 s1 s2 s3 s4 s5 s6 s7
structure l6r3 (k1 : Int → Prop) (s1 : Int) (s2 : List tBK) (s3 s4 : Int) : Prop where
of :
 ∀ (I1 : Int → (List tBK) → Int → Int → Prop),
 (∀ (s1 : Int) (s2 : List tBK) (s3 s4 : Int), (br (decide (s4 < s3))
 (need False (at? s2 s4) fun y5 =>
 l6r6
 (fun z6 z7 z8 z9 z10 => l6r11
 (fun z11 z12 z13 z14 => I1 z11 z12 z13 (IntKind.wrap .i64 (z14 + 1)))
 z6 z7 z8 z9 z10.2.1 (↑(List.length z10.2.1)) 0)
 s1 s2 s3 s4 y5.1 (↑(List.length y5.1)) 0 y5)
 (k1 s1)) → I1 s1 s2 s3 s4) →
 I1 s1 s2 s3 s4
structure c6 (x1 : tFU) (k1 : Int → Prop) : Prop where
of :
 l6r3
 (fun z2 => k1 z2)
 0 x1.2.1 (↑(List.length x1.2.1)) 0
structure c5 (x1 : tFU) (k1 : Bool → Prop) : Prop where
of :
 br (decide (((↑(List.length x1.2.1)) : Int) ≤ 12))
 (c6 x1
 (fun z2 => k1 (decide ((z2 : Int) ≤ 200))))
 (k1 false)
structure l30r7v2 (k1 : (List tED) → Int → Int → tFU → Int → q2 → q2 → tTM → (List Bool) → Prop) (s1 : List tED) (s2 s3 s4 s5 : Int) (s6 : tFU) (s7 : Int) (s8 s9 : List (List Bool)) (s10 : Nat) (s11 : List Bool) (s12 : tTM) (s13 : List Bool) (s14 : tED) : Prop where
of :
 ∀ (I1 : (List tED) → Int → Int → Int → Int → tFU → Int → q2 → q2 → Nat → (List Bool) → tTM → (List Bool) → tED → Prop),
 (∀ (s1 : List tED) (s2 s3 s4 s5 : Int) (s6 : tFU) (s7 : Int) (s8 s9 : List (List Bool)) (s10 : Nat) (s11 : List Bool) (s12 : tTM) (s13 : List Bool) (s14 : tED), (br (decide (s5 < s4))
 (br (decide (0 ≤ s5 ∧ s5 < (↑(List.length s11))))
 (need False (s11)[(Int.toNat s5)]? fun y15 =>
 br (y15)
 (need False (at? s6.2.1 s14.1) fun y16 =>
 br (eqT (.int .i64) s5 s5)
 (c34 y16.1 s5
 (fun z17 => br (!z17)
 (br (decide (0 ≤ s5 ∧ s5 < (↑(List.length s13))))
 (need False (s13)[(Int.toNat s5)]? fun y18 =>
 I1 s1 s2 s3 s4 (IntKind.wrap .i64 (s5 + 1)) s6 s7 s8 s9 s10 s11 s12 (List.set s13 (Int.toNat s5) true) s14)
 False)
 (I1 s1 s2 s3 s4 (IntKind.wrap .i64 (s5 + 1)) s6 s7 s8 s9 s10 s11 s12 s13 s14)))
 False)
 (I1 s1 s2 s3 s4 (IntKind.wrap .i64 (s5 + 1)) s6 s7 s8 s9 s10 s11 s12 s13 s14))
 False)
 (k1 s1 s2 s3 s6 s7 s8 (List.set s9 s10 s11) s12 s13)) → I1 s1 s2 s3 s4 s5 s6 s7 s8 s9 s10 s11 s12 s13 s14) →
 I1 s1 s2 s3 s4 s5 s6 s7 s8 s9 s10 s11 s12 s13 s14
structure l30r4v2 (k1 : tFU → Int → q2 → q2 → tTM → (List Bool) → Prop) (s1 : List tED) (s2 s3 : Int) (s4 : tFU) (s5 : Int) (s6 s7 : List (List Bool)) (s8 : tTM) (s9 : List Bool) : Prop where
of :
 ∀ (I1 : (List tED) → Int → Int → tFU → Int → q2 → q2 → tTM → (List Bool) → Prop),
 (∀ (s1 : List tED) (s2 s3 : Int) (s4 : tFU) (s5 : Int) (s6 s7 : List (List Bool)) (s8 : tTM) (s9 : List Bool), (br (decide (s3 < s2))
 (need False (at? s1 s3) fun y10 =>
 br (decide ((0 : Int) ≤ y10.1 ∧ (y10.1 : Int) < (↑(List.length s7))))
 (need False (s7)[(Int.toNat y10.1)]? fun y11 =>
 need False (s7)[(Int.toNat y10.1)]? fun y12 =>
 l30r7v2
 (fun z13 z14 z15 z16 z17 z18 z19 z20 z21 => I1 z13 z14 (IntKind.wrap .i64 (z15 + 1)) z16 z17 z18 z19 z20 z21)
 s1 s2 s3 (↑(List.length y12)) 0 s4 s5 s6 s7 (Int.toNat y10.1) y12 s8 s9 y10)
 False)
 (k1 s4 s5 s6 s7 s8 s9)) → I1 s1 s2 s3 s4 s5 s6 s7 s8 s9) →
 I1 s1 s2 s3 s4 s5 s6 s7 s8 s9
structure l30r19v2 (k1 : (List tED) → Int → Int → tFU → Int → q2 → q2 → (List Bool) → Prop) (s1 : List tED) (s2 s3 : Int) (s4 : List Int) (s5 s6 : Int) (s7 : tFU) (s8 : Int) (s9 s10 : List (List Bool)) (s11 : List Bool) : Prop where
of :
 ∀ (I1 : (List tED) → Int → Int → (List Int) → Int → Int → tFU → Int → q2 → q2 → (List Bool) → Prop),
 (∀ (s1 : List tED) (s2 s3 : Int) (s4 : List Int) (s5 s6 : Int) (s7 : tFU) (s8 : Int) (s9 s10 : List (List Bool)) (s11 : List Bool), (br (decide (s6 < s5))
 (need False (at? s4 s6) fun y12 =>
 br (decide (0 ≤ y12 ∧ y12 < (↑(List.length s11))))
 (need False (s11)[(Int.toNat y12)]? fun y13 =>
 I1 s1 s2 s3 s4 s5 (IntKind.wrap .i64 (s6 + 1)) s7 s8 s9 s10 (List.set s11 (Int.toNat y12) true))
 False)
 (k1 s1 s2 s3 s7 s8 s9 s10 s11)) → I1 s1 s2 s3 s4 s5 s6 s7 s8 s9 s10 s11) →
 I1 s1 s2 s3 s4 s5 s6 s7 s8 s9 s10 s11
structure l30r16v2 (k1 : tFU → Int → q2 → q2 → (List Bool) → Prop) (s1 : List tED) (s2 s3 : Int) (s4 : tFU) (s5 : Int) (s6 s7 : List (List Bool)) (s8 : List Bool) : Prop where
of :
 ∀ (I1 : (List tED) → Int → Int → tFU → Int → q2 → q2 → (List Bool) → Prop),
 (∀ (s1 : List tED) (s2 s3 : Int) (s4 : tFU) (s5 : Int) (s6 s7 : List (List Bool)) (s8 : List Bool), (br (decide (s3 < s2))
 (need False (at? s1 s3) fun y9 =>
 l30r19v2
 (fun z10 z11 z12 z13 z14 z15 z16 z17 => I1 z10 z11 (IntKind.wrap .i64 (z12 + 1)) z13 z14 z15 z16 z17)
 s1 s2 s3 y9.2.1 (↑(List.length y9.2.1)) 0 s4 s5 s6 s7 s8)
 (k1 s4 s5 s6 s7 s8)) → I1 s1 s2 s3 s4 s5 s6 s7 s8) →
 I1 s1 s2 s3 s4 s5 s6 s7 s8
structure c30v2 (x1 : Int) (x2 : tFU) (x3 : Int) (x4 x5 : List (List Bool)) (k1 : tFU → Int → q2 → q2 → (List Bool) → Prop) : Prop where
of :
 need False (at? x2.2.1 x1) fun y6 =>
 br (decide ((0 : Int) ≤ x3 ∧ (x3 : Int) ≤ x3 ∧ ((x3 * 1) : Int) ≤ 140737488355328))
 (l30r4v2
 (fun z7 z8 z9 z10 z11 z12 => br ((z11.1 : Int) != 1)
 (br ((z11.1 : Int) != 4)
 (br (decide ((0 : Int) ≤ z11.2.1 ∧ (z11.2.1 : Int) < (↑(List.length z12))))
 (need False (z12)[(Int.toNat z11.2.1)]? fun y13 =>
 l30r16v2
 (fun z14 z15 z16 z17 z18 => k1 z14 z15 z16 z17 z18)
 z11.2.2.2.2.1 (↑(List.length z11.2.2.2.2.1)) 0 z7 z8 z9 z10 (List.set z12 (Int.toNat z11.2.1) true))
 False)
 (l30r16v2
 (fun z19 z20 z21 z22 z23 => k1 z19 z20 z21 z22 z23)
 z11.2.2.2.2.1 (↑(List.length z11.2.2.2.2.1)) 0 z7 z8 z9 z10 z12))
 (l30r16v2
 (fun z24 z25 z26 z27 z28 => k1 z24 z25 z26 z27 z28)
 z11.2.2.2.2.1 (↑(List.length z11.2.2.2.2.1)) 0 z7 z8 z9 z10 z12))
 y6.2.2.1.2.2.2.2.1 (↑(List.length y6.2.2.1.2.2.2.2.1)) 0 x2 x3 x4 x5 y6.2.2.1 (List.replicate (Int.toNat x3) (false : Bool)))
 False
structure l18r12v3 (k1 : Unit → Int → tFU → Int → q2 → tBK → (List Bool) → Prop) (s1 : Unit) (s2 : Int) (s3 : List Int) (s4 s5 : Int) (s6 : tFU) (s7 : Int) (s8 : List (List Bool)) (s9 : tBK) (s10 : List Bool) : Prop where
of :
 ∀ (I1 : Unit → Int → (List Int) → Int → Int → tFU → Int → q2 → tBK → (List Bool) → Prop),
 (∀ (s1 : Unit) (s2 : Int) (s3 : List Int) (s4 s5 : Int) (s6 : tFU) (s7 : Int) (s8 : List (List Bool)) (s9 : tBK) (s10 : List Bool), (br (decide (s5 < s4))
 (need False (at? s3 s5) fun y11 =>
 br (decide (0 ≤ y11 ∧ y11 < (↑(List.length s10))))
 (need False (s10)[(Int.toNat y11)]? fun y12 =>
 I1 s1 s2 s3 s4 (IntKind.wrap .i64 (s5 + 1)) s6 s7 s8 s9 (List.set s10 (Int.toNat y11) true))
 False)
 (k1 s1 s2 s6 s7 s8 s9 s10)) → I1 s1 s2 s3 s4 s5 s6 s7 s8 s9 s10) →
 I1 s1 s2 s3 s4 s5 s6 s7 s8 s9 s10
structure l18r5v3 (k1 : tFU → Int → q2 → (List Bool) → Prop) (s1 : Unit) (s2 : Int) (s3 : tFU) (s4 : Int) (s5 : List (List Bool)) (s6 : tBK) (s7 : List Bool) : Prop where
of :
 ∀ (I1 : Unit → Int → tFU → Int → q2 → tBK → (List Bool) → Prop),
 (∀ (s1 : Unit) (s2 : Int) (s3 : tFU) (s4 : Int) (s5 : List (List Bool)) (s6 : tBK) (s7 : List Bool), (br (s2 == 0)
 (k1 s3 s4 s5 s7)
 (need False (at? s6.2.1 (IntKind.wrap .i64 (s2 - 1))) fun y8 =>
 br (decide ((0 : Int) ≤ y8.1 ∧ (y8.1 : Int) < (↑(List.length s7))))
 (need False (s7)[(Int.toNat y8.1)]? fun y9 =>
 l18r12v3
 (fun z10 z11 z12 z13 z14 z15 z16 => I1 z10 (IntKind.wrap .i64 (z11 - 1)) z12 z13 z14 z15 z16)
 s1 s2 y8.2.2.2.1 (↑(List.length y8.2.2.2.1)) 0 s3 s4 s5 s6 (List.set s7 (Int.toNat y8.1) false))
 False)) → I1 s1 s2 s3 s4 s5 s6 s7) →
 I1 s1 s2 s3 s4 s5 s6 s7
structure c18v3 (x1 : Int) (x2 : Unit) (x3 : tFU) (x4 : Int) (x5 : List (List Bool)) (k1 : tFU → Int → q2 → (List Bool) → Prop) : Prop where
of :
 need False (at? x3.2.1 x1) fun y6 =>
 br (decide (0 ≤ x1 ∧ x1 < (↑(List.length x5))))
 (need False (x5)[(Int.toNat x1)]? fun y7 =>
 need False (x5)[(Int.toNat x1)]? fun y8 =>
 c37 y8
 (fun z9 => l18r5v3
 (fun z10 z11 z12 z13 => k1 z10 z11 z12 z13)
 x2 (↑(List.length y6.2.1)) x3 x4 (List.set x5 (Int.toNat x1) y8) y6 z9))
 False
structure l15r10v2 (k1 : Bool → tFU → tFU → Int → q2 → q2 → Prop) (s1 : Bool) (s2 : Int) (s3 s4 : tFU) (s5 : Int) (s6 s7 : List (List Bool)) : Prop where
of :
 ∀ (I1 : Bool → Int → tFU → tFU → Int → q2 → q2 → Prop),
 (∀ (s1 : Bool) (s2 : Int) (s3 s4 : tFU) (s5 : Int) (s6 s7 : List (List Bool)), (br (decide (s2 ≥ 0))
 (c30v2 s2 s4 s5 s6 s7
 (fun z8 z9 z10 z11 z12 => br (decide (0 ≤ s2 ∧ s2 < (↑(List.length z10))))
 (need False (z10)[(Int.toNat s2)]? fun y13 =>
 need False (z10)[(Int.toNat s2)]? fun y14 =>
 br (List.isEmpty y14)
 ((br (decide (0 ≤ s2 ∧ s2 < (↑(List.length (List.set z10 (Int.toNat s2) y14)))))
 (need False ((List.set z10 (Int.toNat s2) y14))[(Int.toNat s2)]? fun y15 =>
 c18v3 s2 () z8 z9 (List.set (List.set z10 (Int.toNat s2) y14) (Int.toNat s2) z12)
 (fun z16 z17 z18 z19 => br (decide (0 ≤ s2 ∧ s2 < (↑(List.length z11))))
 (need False (z11)[(Int.toNat s2)]? fun y20 =>
 I1 true (IntKind.wrap .i64 (s2 - 1)) s3 z16 z17 z18 (List.set z11 (Int.toNat s2) z19))
 False))
 False) ∧
 (br (decide (0 ≤ s2 ∧ s2 < (↑(List.length z10))))
 (need False (z10)[(Int.toNat s2)]? fun y21 =>
 br (decide ((Int.toNat s2) = (Int.toNat s2)))
 (c31 z12 y14
 (fun z22 => br (z22)
 (I1 s1 (IntKind.wrap .i64 (s2 - 1)) s3 z8 z9 (List.set z10 (Int.toNat s2) y14) z11)
 (br (decide (0 ≤ s2 ∧ s2 < (↑(List.length (List.set z10 (Int.toNat s2) y14)))))
 (need False ((List.set z10 (Int.toNat s2) y14))[(Int.toNat s2)]? fun y23 =>
 c18v3 s2 () z8 z9 (List.set (List.set z10 (Int.toNat s2) y14) (Int.toNat s2) z12)
 (fun z24 z25 z26 z27 => br (decide (0 ≤ s2 ∧ s2 < (↑(List.length z11))))
 (need False (z11)[(Int.toNat s2)]? fun y28 =>
 I1 true (IntKind.wrap .i64 (s2 - 1)) s3 z24 z25 z26 (List.set z11 (Int.toNat s2) z27))
 False))
 False)))
 (need False (z10)[(Int.toNat s2)]? fun y29 =>
 c31 z12 y29
 (fun z30 => br (z30)
 (I1 s1 (IntKind.wrap .i64 (s2 - 1)) s3 z8 z9 (List.set (List.set z10 (Int.toNat s2) y29) (Int.toNat s2) y14) z11)
 (br (decide (0 ≤ s2 ∧ s2 < (↑(List.length (List.set (List.set z10 (Int.toNat s2) y29) (Int.toNat s2) y14)))))
 (need False ((List.set (List.set z10 (Int.toNat s2) y29) (Int.toNat s2) y14))[(Int.toNat s2)]? fun y31 =>
 c18v3 s2 () z8 z9 (List.set (List.set (List.set z10 (Int.toNat s2) y29) (Int.toNat s2) y14) (Int.toNat s2) z12)
 (fun z32 z33 z34 z35 => br (decide (0 ≤ s2 ∧ s2 < (↑(List.length z11))))
 (need False (z11)[(Int.toNat s2)]? fun y36 =>
 I1 true (IntKind.wrap .i64 (s2 - 1)) s3 z32 z33 z34 (List.set z11 (Int.toNat s2) z35))
 False))
 False))))
 False))
 (br (decide (0 ≤ s2 ∧ s2 < (↑(List.length z10))))
 (need False (z10)[(Int.toNat s2)]? fun y37 =>
 br (decide ((Int.toNat s2) = (Int.toNat s2)))
 (c31 z12 y14
 (fun z38 => br (z38)
 (I1 s1 (IntKind.wrap .i64 (s2 - 1)) s3 z8 z9 (List.set z10 (Int.toNat s2) y14) z11)
 (br (decide (0 ≤ s2 ∧ s2 < (↑(List.length (List.set z10 (Int.toNat s2) y14)))))
 (need False ((List.set z10 (Int.toNat s2) y14))[(Int.toNat s2)]? fun y39 =>
 c18v3 s2 () z8 z9 (List.set (List.set z10 (Int.toNat s2) y14) (Int.toNat s2) z12)
 (fun z40 z41 z42 z43 => br (decide (0 ≤ s2 ∧ s2 < (↑(List.length z11))))
 (need False (z11)[(Int.toNat s2)]? fun y44 =>
 I1 true (IntKind.wrap .i64 (s2 - 1)) s3 z40 z41 z42 (List.set z11 (Int.toNat s2) z43))
 False))
 False)))
 (need False (z10)[(Int.toNat s2)]? fun y45 =>
 c31 z12 y45
 (fun z46 => br (z46)
 (I1 s1 (IntKind.wrap .i64 (s2 - 1)) s3 z8 z9 (List.set (List.set z10 (Int.toNat s2) y45) (Int.toNat s2) y14) z11)
 (br (decide (0 ≤ s2 ∧ s2 < (↑(List.length (List.set (List.set z10 (Int.toNat s2) y45) (Int.toNat s2) y14)))))
 (need False ((List.set (List.set z10 (Int.toNat s2) y45) (Int.toNat s2) y14))[(Int.toNat s2)]? fun y47 =>
 c18v3 s2 () z8 z9 (List.set (List.set (List.set z10 (Int.toNat s2) y45) (Int.toNat s2) y14) (Int.toNat s2) z12)
 (fun z48 z49 z50 z51 => br (decide (0 ≤ s2 ∧ s2 < (↑(List.length z11))))
 (need False (z11)[(Int.toNat s2)]? fun y52 =>
 I1 true (IntKind.wrap .i64 (s2 - 1)) s3 z48 z49 z50 (List.set z11 (Int.toNat s2) z51))
 False))
 False))))
 False))
 False))
 (k1 s1 s3 s4 s5 s6 s7)) → I1 s1 s2 s3 s4 s5 s6 s7) →
 I1 s1 s2 s3 s4 s5 s6 s7
structure l15r7v2 (k1 : tFU → Int → q2 → q2 → Prop) (s1 : Bool) (s2 s3 : tFU) (s4 : Int) (s5 s6 : List (List Bool)) : Prop where
of :
 ∀ (I1 : Bool → tFU → tFU → Int → q2 → q2 → Prop),
 (∀ (s1 : Bool) (s2 s3 : tFU) (s4 : Int) (s5 s6 : List (List Bool)), (br (s1)
 (l15r10v2
 (fun z7 z8 z9 z10 z11 z12 => I1 z7 z8 z9 z10 z11 z12)
 false (IntKind.wrap .i64 ((↑(List.length s2.2.1)) - 1)) s2 s3 s4 s5 s6)
 (k1 s3 s4 s5 s6)) → I1 s1 s2 s3 s4 s5 s6) →
 I1 s1 s2 s3 s4 s5 s6
structure c15v2 (x1 : tFU) (k1 : Unit → Int → q2 → Prop) (k2 : Int → tFU → Int → q2 → q2 → Prop) : Prop where
of :
 c28 x1
 (fun z2 => br (z2 != 0)
 (k1 () z2 [])
 ((c29 x1
 (fun z3 => br (eqT (.pair (.int .i64) (.pair (.sl (.pair (.sl (.int .i64)) (.pair (.sl (.pair (.int .i64) (.pair (.int .i64) (.pair (.int .i64) (.pair (.sl (.int .i64)) .unit))))) (.pair (.pair (.int .i64) (.pair (.int .i64) (.pair (.int .i64) (.pair (.sl (.int .i64)) (.pair (.sl (.pair (.int .i64) (.pair (.sl (.int .i64)) .unit))) .unit))))) .unit)))) .unit)) x1 x1)
 (br (true && true)
 (br (eqT (.sl (.pair (.sl (.int .i64)) (.pair (.sl (.pair (.int .i64) (.pair (.int .i64) (.pair (.int .i64) (.pair (.sl (.int .i64)) .unit))))) (.pair (.pair (.int .i64) (.pair (.int .i64) (.pair (.int .i64) (.pair (.sl (.int .i64)) (.pair (.sl (.pair (.int .i64) (.pair (.sl (.int .i64)) .unit))) .unit))))) .unit)))) x1.2.1 x1.2.1)
 (br (eqT (.int .i64) (((List.length x1.2.1) : Nat) : Int) (((List.length x1.2.1) : Nat) : Int))
 (br (decide ((((List.length x1.2.1) : Nat) : Int) = (((List.length x1.2.1) : Nat) : Int)))
 (br (decide ((0 : Int) ≤ (↑(List.length x1.2.1)) ∧ ((↑(List.length x1.2.1)) : Int) ≤ (↑(List.length x1.2.1)) ∧ (((↑(List.length x1.2.1)) * 24) : Int) ≤ 140737488355328))
 (br (eqT (.pair (.int .i64) (.pair (.sl (.pair (.sl (.int .i64)) (.pair (.sl (.pair (.int .i64) (.pair (.int .i64) (.pair (.int .i64) (.pair (.sl (.int .i64)) .unit))))) (.pair (.pair (.int .i64) (.pair (.int .i64) (.pair (.int .i64) (.pair (.sl (.int .i64)) (.pair (.sl (.pair (.int .i64) (.pair (.sl (.int .i64)) .unit))) .unit))))) .unit)))) .unit)) x1 x1)
 (br (eqT (.int .i64) (IntKind.wrap .i64 (z3 + 1)) (IntKind.wrap .i64 (z3 + 1)))
 (br (decide ((((List.length x1.2.1) : Nat) : Int) = (((List.length x1.2.1) : Nat) : Int)))
 (br (decide ((0 : Int) ≤ (↑(List.length x1.2.1)) ∧ ((↑(List.length x1.2.1)) : Int) ≤ (↑(List.length x1.2.1)) ∧ (((↑(List.length x1.2.1)) * 24) : Int) ≤ 140737488355328))
 (l15r7v2
 (fun z4 z5 z6 z7 => k2 0 z4 z5 z6 z7)
 true x1 x1 (IntKind.wrap .i64 (z3 + 1)) (List.replicate (Int.toNat (↑(List.length x1.2.1))) ([] : List (Bool))) (List.replicate (Int.toNat (↑(List.length x1.2.1))) ([] : List (Bool))))
 False)
 False)
 False)
 False)
 False)
 False)
 False)
 False)
 False)
 False)) ∧
 (br (decide ((((List.length x1.2.1) : Nat) : Int) = (((List.length x1.2.1) : Nat) : Int)))
 (br (decide ((0 : Int) ≤ (↑(List.length x1.2.1)) ∧ ((↑(List.length x1.2.1)) : Int) ≤ (↑(List.length x1.2.1)) ∧ (((↑(List.length x1.2.1)) * 24) : Int) ≤ 140737488355328))
 (br (eqT (.pair (.int .i64) (.pair (.sl (.pair (.sl (.int .i64)) (.pair (.sl (.pair (.int .i64) (.pair (.int .i64) (.pair (.int .i64) (.pair (.sl (.int .i64)) .unit))))) (.pair (.pair (.int .i64) (.pair (.int .i64) (.pair (.int .i64) (.pair (.sl (.int .i64)) (.pair (.sl (.pair (.int .i64) (.pair (.sl (.int .i64)) .unit))) .unit))))) .unit)))) .unit)) x1 x1)
 (br (eqT (.pair (.int .i64) (.pair (.sl (.pair (.sl (.int .i64)) (.pair (.sl (.pair (.int .i64) (.pair (.int .i64) (.pair (.int .i64) (.pair (.sl (.int .i64)) .unit))))) (.pair (.pair (.int .i64) (.pair (.int .i64) (.pair (.int .i64) (.pair (.sl (.int .i64)) (.pair (.sl (.pair (.int .i64) (.pair (.sl (.int .i64)) .unit))) .unit))))) .unit)))) .unit)) x1 x1)
 (c29 x1
 (fun z8 => br (eqT (.pair (.int .i64) (.pair (.sl (.pair (.sl (.int .i64)) (.pair (.sl (.pair (.int .i64) (.pair (.int .i64) (.pair (.int .i64) (.pair (.sl (.int .i64)) .unit))))) (.pair (.pair (.int .i64) (.pair (.int .i64) (.pair (.int .i64) (.pair (.sl (.int .i64)) (.pair (.sl (.pair (.int .i64) (.pair (.sl (.int .i64)) .unit))) .unit))))) .unit)))) .unit)) x1 x1)
 (br (decide ((((List.length x1.2.1) : Nat) : Int) = (((List.length x1.2.1) : Nat) : Int)))
 (br (decide ((0 : Int) ≤ (↑(List.length x1.2.1)) ∧ ((↑(List.length x1.2.1)) : Int) ≤ (↑(List.length x1.2.1)) ∧ (((↑(List.length x1.2.1)) * 24) : Int) ≤ 140737488355328))
 (l15r7v2
 (fun z9 z10 z11 z12 => k2 0 z9 z10 z11 z12)
 true x1 x1 (IntKind.wrap .i64 (z8 + 1)) (List.replicate (Int.toNat (↑(List.length x1.2.1))) ([] : List (Bool))) (List.replicate (Int.toNat (↑(List.length x1.2.1))) ([] : List (Bool))))
 False)
 False)
 False))
 False)
 False)
 False)
 False)))
structure l7r6v3 (k1 : (List (List Int)) → (List (List Int)) → Prop) (s1 : Unit) (s2 s3 : Int) (s4 : List (List Bool)) (s5 s6 : List (List Int)) : Prop where
of :
 ∀ (I1 : Unit → Int → Int → q2 → (List (List Int)) → (List (List Int)) → Prop),
 (∀ (s1 : Unit) (s2 s3 : Int) (s4 : List (List Bool)) (s5 s6 : List (List Int)), (br (decide (s3 < s2))
 (br (decide (0 ≤ s3 ∧ s3 < (↑(List.length s4))))
 False
 False)
 (k1 s5 s6)) → I1 s1 s2 s3 s4 s5 s6) →
 I1 s1 s2 s3 s4 s5 s6
structure l7r6v4 (k1 : (List (List Int)) → (List (List Int)) → Prop) (s1 s2 : Int) (s3 : tFU) (s4 : Int) (s5 s6 : List (List Bool)) (s7 s8 : List (List Int)) : Prop where
of :
 ∀ (I1 : Int → Int → tFU → Int → q2 → q2 → (List (List Int)) → (List (List Int)) → Prop),
 (∀ (s1 s2 : Int) (s3 : tFU) (s4 : Int) (s5 s6 : List (List Bool)) (s7 s8 : List (List Int)), (br (decide (s2 < s1))
 (br (decide (0 ≤ s2 ∧ s2 < (↑(List.length s6))))
 (br (decide (0 ≤ s2 ∧ s2 < (↑(List.length s5))))
 ((need False (s6)[(Int.toNat s2)]? fun y9 =>
 need False (s6)[(Int.toNat s2)]? fun y10 =>
 br (true)
 (br (true)
 (br (true && true)
 (br (eqT (.int .i64) s2 s2)
 (br (decide (0 ≤ s2 ∧ s2 < (↑(List.length s5))))
 (br ((decide ((Int.toNat s2) = (Int.toNat s2))) && true)
 ((c16 y10
 (fun z11 => br (true)
 (br (true)
 (br (true && true)
 (br (eqT (.int .i64) s2 s2)
 (br (decide (0 ≤ s2 ∧ s2 < (↑(List.length s5))))
 (br ((decide ((Int.toNat s2) = (Int.toNat s2))) && true)
 ((br (true)
 (br (true)
 (br (true && true)
 (br (eqT (.int .i64) s2 s2)
 (br (decide (0 ≤ s2 ∧ s2 < (↑(List.length s5))))
 (br ((decide ((Int.toNat s2) = (Int.toNat s2))) && true)
 ((br (roomB ((List.length s7) + 1) 24)
 (br (true)
 (br (true)
 (br (true && true)
 (br (eqT (.int .i64) s2 s2)
 (br (decide (0 ≤ s2 ∧ s2 < (↑(List.length s5))))
 (br ((decide ((Int.toNat s2) = (Int.toNat s2))) && true)
 (need False (s5)[(Int.toNat s2)]? fun y12 =>
 need False (s5)[(Int.toNat s2)]? fun y13 =>
 c16 y13
 (fun z14 => br (roomB ((List.length s8) + 1) 24)
 (I1 s1 (IntKind.wrap .i64 (s2 + 1)) s3 s4 (List.set s5 (Int.toNat s2) y13) (List.set s6 (Int.toNat s2) y10) (List.set (s7 ++ (List.replicate 1 ([] : List (Int)))) ((List.length s7) + 0) z11) (List.set (s8 ++ (List.replicate 1 ([] : List (Int)))) ((List.length s8) + 0) z14))
 False))
 False)
 False)
 False)
 False)
 False)
 False)
 False) ∧
 (need False (s5)[(Int.toNat s2)]? fun y15 =>
 need False (s5)[(Int.toNat s2)]? fun y16 =>
 br (roomB ((List.length s7) + 1) 24)
 (c16 y16
 (fun z17 => br (roomB ((List.length s8) + 1) 24)
 (I1 s1 (IntKind.wrap .i64 (s2 + 1)) s3 s4 (List.set s5 (Int.toNat s2) y16) (List.set s6 (Int.toNat s2) y10) (List.set (s7 ++ (List.replicate 1 ([] : List (Int)))) ((List.length s7) + 0) z11) (List.set (s8 ++ (List.replicate 1 ([] : List (Int)))) ((List.length s8) + 0) z17))
 False))
 False))
 False)
 False)
 False)
 False)
 False)
 False) ∧
 (need False (s5)[(Int.toNat s2)]? fun y18 =>
 need False (s5)[(Int.toNat s2)]? fun y19 =>
 br (roomB ((List.length s7) + 1) 24)
 (c16 y19
 (fun z20 => br (roomB ((List.length s8) + 1) 24)
 (I1 s1 (IntKind.wrap .i64 (s2 + 1)) s3 s4 (List.set s5 (Int.toNat s2) y19) (List.set s6 (Int.toNat s2) y10) (List.set (s7 ++ (List.replicate 1 ([] : List (Int)))) ((List.length s7) + 0) z11) (List.set (s8 ++ (List.replicate 1 ([] : List (Int)))) ((List.length s8) + 0) z20))
 False))
 False))
 False)
 False)
 False)
 False)
 False)
 False)) ∧
 (need False (s5)[(Int.toNat s2)]? fun y21 =>
 need False (s5)[(Int.toNat s2)]? fun y22 =>
 c16 y10
 (fun z23 => br (roomB ((List.length s7) + 1) 24)
 (c16 y22
 (fun z24 => br (roomB ((List.length s8) + 1) 24)
 (I1 s1 (IntKind.wrap .i64 (s2 + 1)) s3 s4 (List.set s5 (Int.toNat s2) y22) (List.set s6 (Int.toNat s2) y10) (List.set (s7 ++ (List.replicate 1 ([] : List (Int)))) ((List.length s7) + 0) z23) (List.set (s8 ++ (List.replicate 1 ([] : List (Int)))) ((List.length s8) + 0) z24))
 False))
 False)))
 False)
 False)
 False)
 False)
 False)
 False) ∧
 (need False (s5)[(Int.toNat s2)]? fun y25 =>
 need False (s5)[(Int.toNat s2)]? fun y26 =>
 br (eqT (.int .i64) s2 s2)
 (br (decide (0 ≤ s2 ∧ s2 < (↑(List.length s6))))
 (br ((decide ((Int.toNat s2) = (Int.toNat s2))) && true)
 (need False (s6)[(Int.toNat s2)]? fun y27 =>
 need False (s6)[(Int.toNat s2)]? fun y28 =>
 c16 y28
 (fun z29 => br (roomB ((List.length s7) + 1) 24)
 (c16 y26
 (fun z30 => br (roomB ((List.length s8) + 1) 24)
 (I1 s1 (IntKind.wrap .i64 (s2 + 1)) s3 s4 (List.set s5 (Int.toNat s2) y26) (List.set s6 (Int.toNat s2) y28) (List.set (s7 ++ (List.replicate 1 ([] : List (Int)))) ((List.length s7) + 0) z29) (List.set (s8 ++ (List.replicate 1 ([] : List (Int)))) ((List.length s8) + 0) z30))
 False))
 False))
 False)
 False)
 False))
 False)
 False)
 (k1 s7 s8)) → I1 s1 s2 s3 s4 s5 s6 s7 s8) →
 I1 s1 s2 s3 s4 s5 s6 s7 s8
structure c7v2 (x1 : tFU) (k1 : Int → (List (List Int)) → (List (List Int)) → Prop) : Prop where
of :
 c15v2 x1
 (fun z2 z3 z4 => br (z3 != 0)
 (k1 z3 [] [])
 (l7r6v3
 (fun z5 z6 => k1 0 z5 z6)
 z2 (↑(List.length x1.2.1)) 0 z4 [] []))
 (fun z7 z8 z9 z10 z11 => br (z7 != 0)
 (k1 z7 [] [])
 (l7r6v4
 (fun z12 z13 => k1 0 z12 z13)
 (↑(List.length x1.2.1)) 0 z8 z9 z10 z11 [] []))
structure c36 (x1 : tIN) (x2 : Int) (k1 : Bool → Int → Prop) : Prop where
of :
 k1 ((x1.1 : Int) == x2) x2
structure l50r2 (k1 : Int → Int → Prop) (k2 : Int → Prop) (s1 : List tIN) (s2 s3 s4 : Int) : Prop where
of :
 ∀ (I1 : (List tIN) → Int → Int → Int → Prop),
 (∀ (s1 : List tIN) (s2 s3 s4 : Int), (br (decide (s3 < s2))
 (need False (at? s1 s3) fun y5 =>
 c36 y5 s4
 (fun z6 z7 => br (z6)
 (k1 s3 z7)
 (I1 s1 s2 (IntKind.wrap .i64 (s3 + 1)) z7)))
 (k2 s4)) → I1 s1 s2 s3 s4) →
 I1 s1 s2 s3 s4
structure c50 (x1 : List tIN) (x2 : Int) (k1 : Int → Int → Prop) : Prop where
of :
 l50r2
 (fun z3 z4 => k1 z3 z4)
 (fun z5 => k1 (-1) z5)
 x1 (↑(List.length x1)) 0 x2
structure c35 (x1 : List tIN) (x2 : Int) (k1 : Bool → Int → Prop) : Prop where
of :
 c50 x1 x2
 (fun z3 z4 => k1 (decide ((z3 : Int) ≥ 0)) z4)
structure c33 (x1 : tBK) (x2 : Int) (k1 : Bool → Int → Prop) : Prop where
of :
 c34 x1.1 x2
 (fun z3 => br (z3)
 (k1 true x2)
 (c35 x1.2.1 x2
 (fun z4 z5 => k1 z4 z5)))
structure l48r2 (k1 : Int → Int → Prop) (k2 : Int → Prop) (s1 : List tBK) (s2 s3 s4 : Int) : Prop where
of :
 ∀ (I1 : (List tBK) → Int → Int → Int → Prop),
 (∀ (s1 : List tBK) (s2 s3 s4 : Int), (br (decide (s3 < s2))
 (need False (at? s1 s3) fun y5 =>
 c33 y5 s4
 (fun z6 z7 => br (z6)
 (k1 s3 z7)
 (I1 s1 s2 (IntKind.wrap .i64 (s3 + 1)) z7)))
 (k2 s4)) → I1 s1 s2 s3 s4) →
 I1 s1 s2 s3 s4
structure c48 (x1 : List tBK) (x2 : Int) (k1 : Int → Int → Prop) : Prop where
of :
 l48r2
 (fun z3 z4 => k1 z3 z4)
 (fun z5 => k1 (-1) z5)
 x1 (↑(List.length x1)) 0 x2
structure c32 (x1 : List tBK) (x2 : Int) (k1 : Bool → Int → Prop) : Prop where
of :
 c48 x1 x2
 (fun z3 z4 => k1 (decide ((z3 : Int) ≥ 0)) z4)
structure c17 (x1 : tFU) (x2 : Int) (k1 : Bool → Prop) : Prop where
of :
 c32 x1.2.1 x2
 (fun z3 z4 => k1 z3)
structure c18v4 (x1 : Unit) (x2 : Int) (x3 : Bool) (x4 x5 : Int) : Prop where
of :
 False
structure l8r10 (k1 : Bool → Prop) (s1 : Unit) (s2 s3 s4 s5 : Int) (s6 : Bool) : Prop where
of :
 ∀ (I1 : Unit → Int → Int → Int → Int → Bool → Prop),
 (∀ (s1 : Unit) (s2 s3 s4 s5 : Int) (s6 : Bool), (br (decide (s3 < s2))
 (c18v4 s1 s3 s6 s4 s5)
 (k1 s6)) → I1 s1 s2 s3 s4 s5 s6) →
 I1 s1 s2 s3 s4 s5 s6
structure c19 (x1 : Int) (x2 : List Bool) (x3 : Bool) (x4 x5 : Int) (k1 : Bool → Int → Int → Prop) : Prop where
of :
 br (x3)
 (k1 true x4 x5)
 (need False (at? x2 x4) fun y6 =>
 br (y6)
 (need False (at? x2 x5) fun y7 =>
 k1 y7 x4 x5)
 (k1 false x4 x5))
structure l18r12v4 (k1 : Int → tFU → Int → q2 → Bool → Int → Int → tBK → (List Bool) → Prop) (s1 : Int) (s2 : List Int) (s3 s4 : Int) (s5 : tFU) (s6 : Int) (s7 : List (List Bool)) (s8 : Bool) (s9 s10 : Int) (s11 : tBK) (s12 : List Bool) : Prop where
of :
 ∀ (I1 : Int → (List Int) → Int → Int → tFU → Int → q2 → Bool → Int → Int → tBK → (List Bool) → Prop),
 (∀ (s1 : Int) (s2 : List Int) (s3 s4 : Int) (s5 : tFU) (s6 : Int) (s7 : List (List Bool)) (s8 : Bool) (s9 s10 : Int) (s11 : tBK) (s12 : List Bool), (br (decide (s4 < s3))
 (need False (at? s2 s4) fun y13 =>
 br (decide (0 ≤ y13 ∧ y13 < (↑(List.length s12))))
 (need False (s12)[(Int.toNat y13)]? fun y14 =>
 I1 s1 s2 s3 (IntKind.wrap .i64 (s4 + 1)) s5 s6 s7 s8 s9 s10 s11 (List.set s12 (Int.toNat y13) true))
 False)
 (k1 s1 s5 s6 s7 s8 s9 s10 s11 s12)) → I1 s1 s2 s3 s4 s5 s6 s7 s8 s9 s10 s11 s12) →
 I1 s1 s2 s3 s4 s5 s6 s7 s8 s9 s10 s11 s12
structure l18r5v4 (k1 : tFU → Int → q2 → Bool → Int → Int → (List Bool) → Prop) (s1 : Int) (s2 : tFU) (s3 : Int) (s4 : List (List Bool)) (s5 : Bool) (s6 s7 : Int) (s8 : tBK) (s9 : List Bool) : Prop where
of :
 ∀ (I1 : Int → tFU → Int → q2 → Bool → Int → Int → tBK → (List Bool) → Prop),
 (∀ (s1 : Int) (s2 : tFU) (s3 : Int) (s4 : List (List Bool)) (s5 : Bool) (s6 s7 : Int) (s8 : tBK) (s9 : List Bool), (c19 s1 s9 s5 s6 s7
 (fun z10 z11 z12 => br (s1 == 0)
 (k1 s2 s3 s4 z10 z11 z12 s9)
 (need False (at? s8.2.1 (IntKind.wrap .i64 (s1 - 1))) fun y13 =>
 br (decide ((0 : Int) ≤ y13.1 ∧ (y13.1 : Int) < (↑(List.length s9))))
 (need False (s9)[(Int.toNat y13.1)]? fun y14 =>
 l18r12v4
 (fun z15 z16 z17 z18 z19 z20 z21 z22 z23 => I1 (IntKind.wrap .i64 (z15 - 1)) z16 z17 z18 z19 z20 z21 z22 z23)
 s1 y13.2.2.2.1 (↑(List.length y13.2.2.2.1)) 0 s2 s3 s4 z10 z11 z12 s8 (List.set s9 (Int.toNat y13.1) false))
 False))) → I1 s1 s2 s3 s4 s5 s6 s7 s8 s9) →
 I1 s1 s2 s3 s4 s5 s6 s7 s8 s9
structure c18v5 (x1 : Int) (x2 : tFU) (x3 : Int) (x4 : List (List Bool)) (x5 : Bool) (x6 x7 : Int) (k1 : tFU → Int → q2 → Bool → Int → Int → (List Bool) → Prop) : Prop where
of :
 need False (at? x2.2.1 x1) fun y8 =>
 br (decide (0 ≤ x1 ∧ x1 < (↑(List.length x4))))
 (need False (x4)[(Int.toNat x1)]? fun y9 =>
 need False (x4)[(Int.toNat x1)]? fun y10 =>
 c37 y10
 (fun z11 => l18r5v4
 (fun z12 z13 z14 z15 z16 z17 z18 => k1 z12 z13 z14 z15 z16 z17 z18)
 (↑(List.length y8.2.1)) x2 x3 (List.set x4 (Int.toNat x1) y10) x5 x6 x7 y8 z11))
 False
structure l8r10v2 (k1 : Bool → Prop) (s1 s2 s3 s4 : Int) (s5 : tFU) (s6 : Int) (s7 : List (List Bool)) (s8 : Bool) : Prop where
of :
 ∀ (I1 : Int → Int → Int → Int → tFU → Int → q2 → Bool → Prop),
 (∀ (s1 s2 s3 s4 : Int) (s5 : tFU) (s6 : Int) (s7 : List (List Bool)) (s8 : Bool), (br (decide (s2 < s1))
 (c18v5 s2 s5 s6 s7 s8 s3 s4
 (fun z9 z10 z11 z12 z13 z14 z15 => I1 s1 (IntKind.wrap .i64 (s2 + 1)) z13 z14 z9 z10 z11 z12))
 (k1 s8)) → I1 s1 s2 s3 s4 s5 s6 s7 s8) →
 I1 s1 s2 s3 s4 s5 s6 s7 s8
structure c8 (x1 : tFU) (x2 x3 : Int) (k1 : Bool → Int → Prop) : Prop where
of :
 c15v2 x1
 (fun z4 z5 z6 => br (z5 != 0)
 (k1 false z5)
 (c17 x1 x2
 (fun z7 => br (!z7)
 (k1 false 12)
 (c17 x1 x3
 (fun z8 => br (!z8)
 (k1 false 12)
 (br (x2 == x3)
 (k1 false 1)
 (l8r10
 (fun z9 => k1 z9 0)
 z4 (↑(List.length x1.2.1)) 0 x2 x3 false)))))))
 (fun z10 z11 z12 z13 z14 => br (z10 != 0)
 (k1 false z10)
 (c17 x1 x2
 (fun z15 => br (!z15)
 (k1 false 12)
 (c17 x1 x3
 (fun z16 => br (!z16)
 (k1 false 12)
 (br (x2 == x3)
 (k1 false 1)
 (l8r10v2
 (fun z17 => k1 z17 0)
 (↑(List.length x1.2.1)) 0 x2 x3 z11 z12 z13 false)))))))
structure l9r3 (k1 : Int → tFU → Prop) (s1 : Int) (s2 : List tBK) (s3 s4 : Int) (s5 : tFU) : Prop where
of :
 ∀ (I1 : Int → (List tBK) → Int → Int → tFU → Prop),
 (∀ (s1 : Int) (s2 : List tBK) (s3 s4 : Int) (s5 : tFU), (br (decide (s4 < s3))
 (need False (at? s2 s4) fun y6 =>
 I1 (IntKind.wrap .i64 (s1 + (↑(List.length y6.2.1)))) s2 s3 (IntKind.wrap .i64 (s4 + 1)) s5)
 (k1 s1 s5)) → I1 s1 s2 s3 s4 s5) →
 I1 s1 s2 s3 s4 s5
structure c20 (x1 x2 x3 : Int) (k1 : Bool → Prop) : Prop where
of :
 br (decide (x1 ≥ x2))
 (k1 (decide ((x1 : Int) ≤ x3)))
 (k1 false)
structure l25r2 (k1 : Bool → Prop) (k2 : Prop) (s1 : Int) (s2 : List Int) (s3 s4 : Int) : Prop where
of :
 ∀ (I1 : Int → (List Int) → Int → Int → Prop),
 (∀ (s1 : Int) (s2 : List Int) (s3 s4 : Int), (br (decide (s4 < s3))
 (need False (at? s2 s4) fun y5 =>
 br (y5 == s1)
 (k1 true)
 (I1 s1 s2 s3 (IntKind.wrap .i64 (s4 + 1))))
 (k2)) → I1 s1 s2 s3 s4) →
 I1 s1 s2 s3 s4
structure c25 (x1 : List Int) (x2 : Int) (k1 : Bool → Prop) : Prop where
of :
 l25r2
 (fun z3 => k1 z3)
 (k1 false)
 x2 x1 (↑(List.length x1)) 0
structure c38 (x1 : Int) (x2 : List Int) (k1 : Int → Prop) : Prop where
of :
 c20 x1 0 4095
 (fun z3 => br (!z3)
 (k1 4)
 (c25 x2 x1
 (fun z4 => br (z4)
 (k1 7)
 (k1 0))))
structure l21r6 (k1 : Int → Prop) (k2 : (List tBK) → Int → Int → tFU → (List Int) → tBK → Prop) (s1 : List tBK) (s2 s3 : Int) (s4 : List Int) (s5 s6 : Int) (s7 : tFU) (s8 : List Int) (s9 : tBK) : Prop where
of :
 ∀ (I1 : (List tBK) → Int → Int → (List Int) → Int → Int → tFU → (List Int) → tBK → Prop),
 (∀ (s1 : List tBK) (s2 s3 : Int) (s4 : List Int) (s5 s6 : Int) (s7 : tFU) (s8 : List Int) (s9 : tBK), (br (decide (s6 < s5))
 (need False (at? s4 s6) fun y10 =>
 c38 y10 s8
 (fun z11 => br (z11 != 0)
 (k1 z11)
 (br (roomB ((List.length s8) + 1) 8)
 (I1 s1 s2 s3 s4 s5 (IntKind.wrap .i64 (s6 + 1)) s7 (s8 ++ [y10]) s9)
 False)))
 (k2 s1 s2 s3 s7 s8 s9)) → I1 s1 s2 s3 s4 s5 s6 s7 s8 s9) →
 I1 s1 s2 s3 s4 s5 s6 s7 s8 s9
structure c51 (x1 : tIN) (k1 : Int → Prop) : Prop where
of :
 br ((x1.2.1 : Int) == 0)
 (k1 0)
 (br ((x1.2.1 : Int) == 10)
 (k1 1)
 (br ((x1.2.1 : Int) == 11)
 (k1 1)
 (br ((x1.2.1 : Int) == 12)
 (k1 1)
 (br ((x1.2.1 : Int) == 15)
 (k1 1)
 (br ((x1.2.1 : Int) == 17)
 (k1 1)
 (br ((x1.2.1 : Int) == 24)
 (k1 1)
 (br ((x1.2.1 : Int) == 1)
 (k1 2)
 (br ((x1.2.1 : Int) == 2)
 (k1 2)
 (br ((x1.2.1 : Int) == 3)
 (k1 2)
 (br ((x1.2.1 : Int) == 4)
 (k1 2)
 (br ((x1.2.1 : Int) == 5)
 (k1 2)
 (br ((x1.2.1 : Int) == 6)
 (k1 2)
 (br ((x1.2.1 : Int) == 7)
 (k1 2)
 (br ((x1.2.1 : Int) == 16)
 (k1 2)
 (br ((x1.2.1 : Int) == 18)
 (k1 2)
 (br ((x1.2.1 : Int) == 19)
 (k1 2)
 (br ((x1.2.1 : Int) == 21)
 (k1 2)
 (br ((x1.2.1 : Int) == 23)
 (k1 2)
 (br ((x1.2.1 : Int) == 20)
 (k1 3)
 (br ((x1.2.1 : Int) == 8)
 (k1 (-1))
 (br ((x1.2.1 : Int) == 9)
 (k1 (-1))
 (br ((x1.2.1 : Int) == 13)
 (k1 (-1))
 (br ((x1.2.1 : Int) == 14)
 (k1 (-1))
 (br ((x1.2.1 : Int) == 22)
 (br ((x1.2.2.1 : Int) == 2)
 (k1 x1.2.2.1)
 (br ((x1.2.2.1 : Int) == 4)
 (k1 x1.2.2.1)
 (k1 (-2))))
 (k1 (-2))))))))))))))))))))))))))
structure j39s4 (k1 : Int → Prop) (k2 : tIN → Prop) (s1 : Bool) (s2 : tIN) : Prop where
of :
 br (s1)
 (k1 2)
 (k2 s2)
structure c52 (x1 : Int) (k1 : Bool → Prop) : Prop where
of :
 c20 x1 (-1073741824) 1073741823
 (fun z2 => k1 z2)
structure j39r6 (k1 : Int → Prop) (s1 : tIN) : Prop where
of :
 br ((s1.2.1 : Int) == 0)
 (c52 s1.2.2.1
 (fun z2 => br (!z2)
 (k1 4)
 (k1 0)))
 (br ((s1.2.1 : Int) == 8)
 (c20 s1.2.2.1 0 255
 (fun z3 => br (!z3)
 (k1 4)
 (k1 0)))
 (br ((s1.2.1 : Int) == 9)
 (c20 s1.2.2.1 0 255
 (fun z4 => br (!z4)
 (k1 4)
 (k1 0)))
 (br ((s1.2.1 : Int) == 13)
 (c20 s1.2.2.1 0 255
 (fun z5 => br (!z5)
 (k1 4)
 (k1 0)))
 (br ((s1.2.1 : Int) == 11)
 (c20 s1.2.2.1 0 15
 (fun z6 => br (!z6)
 (k1 4)
 (k1 0)))
 (br ((s1.2.1 : Int) == 23)
 (br ((s1.2.2.1 : Int) == 1)
 (k1 0)
 (br ((s1.2.2.1 : Int) == 2)
 (k1 0)
 (br (!((s1.2.2.1 : Int) == 3))
 (k1 4)
 (k1 0))))
 (br ((s1.2.1 : Int) == 24)
 (c20 s1.2.2.1 0 3
 (fun z7 => br (!z7)
 (k1 4)
 (k1 0)))
 (br ((s1.2.1 : Int) == 22)
 (k1 0)
 (br (!((s1.2.2.1 : Int) == 0))
 (k1 4)
 (k1 0)))))))))
structure j39r4 (k1 : Int → Prop) (s1 : tIN) : Prop where
of :
 br ((s1.2.1 : Int) == 8)
 (br (decide (((↑(List.length s1.2.2.2.1)) : Int) > 16))
 (j39s4
 (fun z2 => k1 z2)
 (fun z3 => j39r6
 (fun z4 => k1 z4)
 z3)
 true s1)
 (br ((s1.2.1 : Int) == 13)
 (j39s4
 (fun z5 => k1 z5)
 (fun z6 => j39r6
 (fun z7 => k1 z7)
 z6)
 (decide (((↑(List.length s1.2.2.2.1)) : Int) > 6)) s1)
 (br ((s1.2.1 : Int) == 14)
 (j39s4
 (fun z8 => k1 z8)
 (fun z9 => j39r6
 (fun z10 => k1 z10)
 z9)
 (decide (((↑(List.length s1.2.2.2.1)) : Int) > 6)) s1)
 (j39s4
 (fun z11 => k1 z11)
 (fun z12 => j39r6
 (fun z13 => k1 z13)
 z12)
 false s1))))
 (br ((s1.2.1 : Int) == 9)
 (br (decide (((↑(List.length s1.2.2.2.1)) : Int) > 16))
 (j39s4
 (fun z14 => k1 z14)
 (fun z15 => j39r6
 (fun z16 => k1 z16)
 z15)
 true s1)
 (br ((s1.2.1 : Int) == 13)
 (j39s4
 (fun z17 => k1 z17)
 (fun z18 => j39r6
 (fun z19 => k1 z19)
 z18)
 (decide (((↑(List.length s1.2.2.2.1)) : Int) > 6)) s1)
 (br ((s1.2.1 : Int) == 14)
 (j39s4
 (fun z20 => k1 z20)
 (fun z21 => j39r6
 (fun z22 => k1 z22)
 z21)
 (decide (((↑(List.length s1.2.2.2.1)) : Int) > 6)) s1)
 (j39s4
 (fun z23 => k1 z23)
 (fun z24 => j39r6
 (fun z25 => k1 z25)
 z24)
 false s1))))
 (br ((s1.2.1 : Int) == 13)
 (j39s4
 (fun z26 => k1 z26)
 (fun z27 => j39r6
 (fun z28 => k1 z28)
 z27)
 (decide (((↑(List.length s1.2.2.2.1)) : Int) > 6)) s1)
 (br ((s1.2.1 : Int) == 14)
 (j39s4
 (fun z29 => k1 z29)
 (fun z30 => j39r6
 (fun z31 => k1 z31)
 z30)
 (decide (((↑(List.length s1.2.2.2.1)) : Int) > 6)) s1)
 (j39s4
 (fun z32 => k1 z32)
 (fun z33 => j39r6
 (fun z34 => k1 z34)
 z33)
 false s1))))
structure c39 (x1 : tIN) (k1 : Int → Prop) : Prop where
of :
 c51 x1
 (fun z2 => br (z2 == (-2))
 (k1 3)
 (br (decide (z2 ≥ 0))
 (br (z2 != (↑(List.length x1.2.2.2.1)))
 (k1 3)
 (br ((x1.2.1 : Int) == 14)
 (br (decide (((↑(List.length x1.2.2.2.1)) : Int) < 1))
 (k1 3)
 (j39r4
 (fun z3 => k1 z3)
 x1))
 (j39r4
 (fun z4 => k1 z4)
 x1)))
 (br ((x1.2.1 : Int) == 14)
 (br (decide (((↑(List.length x1.2.2.2.1)) : Int) < 1))
 (k1 3)
 (j39r4
 (fun z5 => k1 z5)
 x1))
 (j39r4
 (fun z6 => k1 z6)
 x1))))
structure l21r14 (k1 : Int → Prop) (k2 : (List tBK) → Int → Int → tFU → (List Int) → tBK → Prop) (s1 : List tBK) (s2 s3 : Int) (s4 : List tIN) (s5 s6 : Int) (s7 : tFU) (s8 : List Int) (s9 : tBK) : Prop where
of :
 ∀ (I1 : (List tBK) → Int → Int → (List tIN) → Int → Int → tFU → (List Int) → tBK → Prop),
 (∀ (s1 : List tBK) (s2 s3 : Int) (s4 : List tIN) (s5 s6 : Int) (s7 : tFU) (s8 : List Int) (s9 : tBK), (br (decide (s6 < s5))
 (need False (at? s4 s6) fun y10 =>
 c38 y10.1 s8
 (fun z11 => br (z11 != 0)
 (k1 z11)
 (br (roomB ((List.length s8) + 1) 8)
 (c39 y10
 (fun z12 => br (z12 != 0)
 (k1 z12)
 (I1 s1 s2 s3 s4 s5 (IntKind.wrap .i64 (s6 + 1)) s7 (s8 ++ [y10.1]) s9)))
 False)))
 (k2 s1 s2 s3 s7 s8 s9)) → I1 s1 s2 s3 s4 s5 s6 s7 s8 s9) →
 I1 s1 s2 s3 s4 s5 s6 s7 s8 s9
structure j40s4 (k1 : Int → Prop) (k2 : tFU → tTM → Prop) (s1 : Bool) (s2 : tFU) (s3 : tTM) : Prop where
of :
 br (s1)
 (k1 3)
 (k2 s2 s3)
structure l40r11 (k1 : Int → Prop) (k2 : tFU → tTM → Prop) (s1 : List Int) (s2 s3 : Int) (s4 : tFU) (s5 : tTM) : Prop where
of :
 ∀ (I1 : (List Int) → Int → Int → tFU → tTM → Prop),
 (∀ (s1 : List Int) (s2 s3 : Int) (s4 : tFU) (s5 : tTM), (br (decide (s3 < s2))
 (need False (at? s1 s3) fun y6 =>
 c52 y6
 (fun z7 => br (!z7)
 (k1 4)
 (br (decide ((0 : Int) ≤ 0 ∧ (0 : Int) ≤ s3 ∧ (s3 : Int) ≤ (↑(List.length s5.2.2.2.1))))
 (c25 (List.drop 0 (List.take (Int.toNat s3) s5.2.2.2.1)) y6
 (fun z8 => br (z8)
 (k1 7)
 (I1 s1 s2 (IntKind.wrap .i64 (s3 + 1)) s4 s5)))
 False)))
 (k2 s4 s5)) → I1 s1 s2 s3 s4 s5) →
 I1 s1 s2 s3 s4 s5
structure l40r19 (k1 : Int → Prop) (k2 : Prop) (s1 : List tED) (s2 s3 : Int) (s4 : tFU) : Prop where
of :
 ∀ (I1 : (List tED) → Int → Int → tFU → Prop),
 (∀ (s1 : List tED) (s2 s3 : Int) (s4 : tFU), (br (decide (s3 < s2))
 (need False (at? s1 s3) fun y5 =>
 c20 y5.1 1 (IntKind.wrap .i64 ((↑(List.length s4.2.1)) - 1))
 (fun z6 => br (!z6)
 (k1 4)
 (need False (at? s4.2.1 y5.1) fun y7 =>
 (br (true && true)
 (br (eqT (.sl (.pair (.sl (.int .i64)) (.pair (.sl (.pair (.int .i64) (.pair (.int .i64) (.pair (.int .i64) (.pair (.sl (.int .i64)) .unit))))) (.pair (.pair (.int .i64) (.pair (.int .i64) (.pair (.int .i64) (.pair (.sl (.int .i64)) (.pair (.sl (.pair (.int .i64) (.pair (.sl (.int .i64)) .unit))) .unit))))) .unit)))) s4.2.1 s4.2.1)
 (br (true && true)
 (br (eqT (.int .i64) y5.1 y5.1)
 (need False (at? s4.2.1 y5.1) fun y8 =>
 br (eqT (.pair (.sl (.int .i64)) (.pair (.sl (.pair (.int .i64) (.pair (.int .i64) (.pair (.int .i64) (.pair (.sl (.int .i64)) .unit))))) (.pair (.pair (.int .i64) (.pair (.int .i64) (.pair (.int .i64) (.pair (.sl (.int .i64)) (.pair (.sl (.pair (.int .i64) (.pair (.sl (.int .i64)) .unit))) .unit))))) .unit))) y7 y8)
 (br (eqT (.sl (.int .i64)) y7.1 y7.1)
 (br (eqT (.int .i64) (((List.length y5.2.1) : Nat) : Int) (((List.length y5.2.1) : Nat) : Int))
 (br (((↑(List.length y5.2.1)) : Int) != (↑(List.length y7.1)))
 (k1 3)
 (I1 s1 s2 (IntKind.wrap .i64 (s3 + 1)) s4))
 False)
 False)
 False)
 False)
 False)
 False)
 False) ∧
 (br (true && true)
 (br (eqT (.int .i64) (((List.length y7.1) : Nat) : Int) (((List.length y7.1) : Nat) : Int))
 (br (((↑(List.length y5.2.1)) : Int) != (↑(List.length y7.1)))
 (k1 3)
 (I1 s1 s2 (IntKind.wrap .i64 (s3 + 1)) s4))
 False)
 False))))
 (k2)) → I1 s1 s2 s3 s4) →
 I1 s1 s2 s3 s4
structure j40r6 (k1 : Int → Prop) (s1 : tFU) (s2 : tTM) : Prop where
of :
 br (decide (((↑(List.length s2.2.2.2.1)) : Int) > 256))
 (k1 2)
 (br ((s2.1 : Int) == 4)
 (c20 s2.2.2.1 1 6
 (fun z3 => br (!z3)
 (k1 4)
 (l40r11
 (fun z4 => k1 z4)
 (fun z5 z6 => l40r19
 (fun z7 => k1 z7)
 (k1 0)
 z6.2.2.2.2.1 (↑(List.length z6.2.2.2.2.1)) 0 z5)
 s2.2.2.2.1 (↑(List.length s2.2.2.2.1)) 0 s1 s2)))
 (l40r11
 (fun z8 => k1 z8)
 (fun z9 z10 => l40r19
 (fun z11 => k1 z11)
 (k1 0)
 z10.2.2.2.2.1 (↑(List.length z10.2.2.2.2.1)) 0 z9)
 s2.2.2.2.1 (↑(List.length s2.2.2.2.1)) 0 s1 s2))
structure c40 (x1 : tFU) (x2 : tTM) (k1 : Int → Prop) : Prop where
of :
 c20 x2.1 0 4
 (fun z3 => br (!z3)
 (k1 3)
 (br (decide ((0 : Int) ≤ x2.1 ∧ (x2.1 : Int) < ((5 : Nat) : Int)))
 (need False ([0, 1, 2, (IntKind.wrap .i64 ((↑(List.length x2.2.2.2.1)) + 1)), 0])[(Int.toNat x2.1)]? fun y4 =>
 br (((↑(List.length x2.2.2.2.2.1)) : Int) != y4)
 (k1 3)
 (br ((x2.1 : Int) != 3)
 (br (decide (((↑(List.length x2.2.2.2.1)) : Int) > 0))
 (j40s4
 (fun z5 => k1 z5)
 (fun z6 z7 => j40r6
 (fun z8 => k1 z8)
 z6 z7)
 true x1 x2)
 (br ((x2.1 : Int) != 4)
 (br ((x2.2.2.1 : Int) != 0)
 (j40s4
 (fun z9 => k1 z9)
 (fun z10 z11 => j40r6
 (fun z12 => k1 z12)
 z10 z11)
 true x1 x2)
 (br ((x2.1 : Int) == 1)
 (j40s4
 (fun z13 => k1 z13)
 (fun z14 z15 => j40r6
 (fun z16 => k1 z16)
 z14 z15)
 ((x2.2.1 : Int) != 0) x1 x2)
 (br ((x2.1 : Int) == 4)
 (j40s4
 (fun z17 => k1 z17)
 (fun z18 z19 => j40r6
 (fun z20 => k1 z20)
 z18 z19)
 ((x2.2.1 : Int) != 0) x1 x2)
 (j40s4
 (fun z21 => k1 z21)
 (fun z22 z23 => j40r6
 (fun z24 => k1 z24)
 z22 z23)
 false x1 x2))))
 (br ((x2.1 : Int) == 1)
 (j40s4
 (fun z25 => k1 z25)
 (fun z26 z27 => j40r6
 (fun z28 => k1 z28)
 z26 z27)
 ((x2.2.1 : Int) != 0) x1 x2)
 (br ((x2.1 : Int) == 4)
 (j40s4
 (fun z29 => k1 z29)
 (fun z30 z31 => j40r6
 (fun z32 => k1 z32)
 z30 z31)
 ((x2.2.1 : Int) != 0) x1 x2)
 (j40s4
 (fun z33 => k1 z33)
 (fun z34 z35 => j40r6
 (fun z36 => k1 z36)
 z34 z35)
 false x1 x2)))))
 (br ((x2.1 : Int) != 4)
 (br ((x2.2.2.1 : Int) != 0)
 (j40s4
 (fun z37 => k1 z37)
 (fun z38 z39 => j40r6
 (fun z40 => k1 z40)
 z38 z39)
 true x1 x2)
 (br ((x2.1 : Int) == 1)
 (j40s4
 (fun z41 => k1 z41)
 (fun z42 z43 => j40r6
 (fun z44 => k1 z44)
 z42 z43)
 ((x2.2.1 : Int) != 0) x1 x2)
 (br ((x2.1 : Int) == 4)
 (j40s4
 (fun z45 => k1 z45)
 (fun z46 z47 => j40r6
 (fun z48 => k1 z48)
 z46 z47)
 ((x2.2.1 : Int) != 0) x1 x2)
 (j40s4
 (fun z49 => k1 z49)
 (fun z50 z51 => j40r6
 (fun z52 => k1 z52)
 z50 z51)
 false x1 x2))))
 (br ((x2.1 : Int) == 1)
 (j40s4
 (fun z53 => k1 z53)
 (fun z54 z55 => j40r6
 (fun z56 => k1 z56)
 z54 z55)
 ((x2.2.1 : Int) != 0) x1 x2)
 (br ((x2.1 : Int) == 4)
 (j40s4
 (fun z57 => k1 z57)
 (fun z58 z59 => j40r6
 (fun z60 => k1 z60)
 z58 z59)
 ((x2.2.1 : Int) != 0) x1 x2)
 (j40s4
 (fun z61 => k1 z61)
 (fun z62 z63 => j40r6
 (fun z64 => k1 z64)
 z62 z63)
 false x1 x2))))))
 False))
structure l21r3 (k1 : Int → Prop) (k2 : Prop) (s1 : List tBK) (s2 s3 : Int) (s4 : tFU) (s5 : List Int) : Prop where
of :
 ∀ (I1 : (List tBK) → Int → Int → tFU → (List Int) → Prop),
 (∀ (s1 : List tBK) (s2 s3 : Int) (s4 : tFU) (s5 : List Int), (br (decide (s3 < s2))
 (need False (at? s1 s3) fun y6 =>
 l21r6
 (fun z7 => k1 z7)
 (fun z8 z9 z10 z11 z12 z13 => l21r14
 (fun z14 => k1 z14)
 (fun z15 z16 z17 z18 z19 z20 => c40 z18 z20.2.2.1
 (fun z21 => br (z21 != 0)
 (k1 z21)
 (I1 z15 z16 (IntKind.wrap .i64 (z17 + 1)) z18 z19)))
 z8 z9 z10 z13.2.1 (↑(List.length z13.2.1)) 0 z11 z12 z13)
 s1 s2 s3 y6.1 (↑(List.length y6.1)) 0 s4 s5 y6)
 (k2)) → I1 s1 s2 s3 s4 s5) →
 I1 s1 s2 s3 s4 s5
structure c21 (x1 : tFU) (k1 : Int → Prop) : Prop where
of :
 l21r3
 (fun z2 => k1 z2)
 (k1 0)
 x1.2.1 (↑(List.length x1.2.1)) 0 x1 []
structure l22r11 (k1 : Int → Int → Int → (List tBK) → Int → Int → tFU → (List Bool) → Prop) (s1 s2 s3 s4 : Int) (s5 : List tBK) (s6 s7 : Int) (s8 : List tED) (s9 s10 : Int) (s11 : tFU) (s12 : List Bool) : Prop where
of :
 ∀ (I1 : Int → Int → Int → Int → (List tBK) → Int → Int → (List tED) → Int → Int → tFU → (List Bool) → Prop),
 (∀ (s1 s2 s3 s4 : Int) (s5 : List tBK) (s6 s7 : Int) (s8 : List tED) (s9 s10 : Int) (s11 : tFU) (s12 : List Bool), (br (decide (s10 < s9))
 (need False (at? s8 s10) fun y13 =>
 br (decide (0 ≤ s2 ∧ s2 < (↑(List.length s12))))
 (need False (s12)[(Int.toNat s2)]? fun y14 =>
 br (y14)
 (br ((y13.1 : Int) != s1)
 (c20 y13.1 0 (IntKind.wrap .i64 ((↑(List.length s11.2.1)) - 1))
 (fun z15 => br (z15)
 (br (decide ((0 : Int) ≤ y13.1 ∧ (y13.1 : Int) < (↑(List.length s12))))
 (need False (s12)[(Int.toNat y13.1)]? fun y16 =>
 I1 s1 s2 s3 s4 s5 s6 s7 s8 s9 (IntKind.wrap .i64 (s10 + 1)) s11 (List.set s12 (Int.toNat y13.1) true))
 False)
 (I1 s1 s2 s3 s4 s5 s6 s7 s8 s9 (IntKind.wrap .i64 (s10 + 1)) s11 s12)))
 (I1 s1 s2 s3 s4 s5 s6 s7 s8 s9 (IntKind.wrap .i64 (s10 + 1)) s11 s12))
 (I1 s1 s2 s3 s4 s5 s6 s7 s8 s9 (IntKind.wrap .i64 (s10 + 1)) s11 s12))
 False)
 (k1 s1 s3 s4 s5 s6 s7 s11 s12)) → I1 s1 s2 s3 s4 s5 s6 s7 s8 s9 s10 s11 s12) →
 I1 s1 s2 s3 s4 s5 s6 s7 s8 s9 s10 s11 s12
structure l22r8 (k1 : Int → Int → Int → tFU → (List Bool) → Prop) (s1 s2 s3 : Int) (s4 : List tBK) (s5 s6 : Int) (s7 : tFU) (s8 : List Bool) : Prop where
of :
 ∀ (I1 : Int → Int → Int → (List tBK) → Int → Int → tFU → (List Bool) → Prop),
 (∀ (s1 s2 s3 : Int) (s4 : List tBK) (s5 s6 : Int) (s7 : tFU) (s8 : List Bool), (br (decide (s6 < s5))
 (need False (at? s4 s6) fun y9 =>
 l22r11
 (fun z10 z11 z12 z13 z14 z15 z16 z17 => I1 z10 z11 z12 z13 z14 (IntKind.wrap .i64 (z15 + 1)) z16 z17)
 s1 s6 s2 s3 s4 s5 s6 y9.2.2.1.2.2.2.2.1 (↑(List.length y9.2.2.1.2.2.2.2.1)) 0 s7 s8)
 (k1 s1 s2 s3 s7 s8)) → I1 s1 s2 s3 s4 s5 s6 s7 s8) →
 I1 s1 s2 s3 s4 s5 s6 s7 s8
structure l22r6 (k1 : (List Bool) → Prop) (s1 s2 s3 : Int) (s4 : tFU) (s5 : List Bool) : Prop where
of :
 ∀ (I1 : Int → Int → Int → tFU → (List Bool) → Prop),
 (∀ (s1 s2 s3 : Int) (s4 : tFU) (s5 : List Bool), (br (decide (s3 < s2))
 (l22r8
 (fun z6 z7 z8 z9 z10 => I1 z6 z7 (IntKind.wrap .i64 (z8 + 1)) z9 z10)
 s1 s2 s3 s4.2.1 (↑(List.length s4.2.1)) 0 s4 s5)
 (k1 s5)) → I1 s1 s2 s3 s4 s5) →
 I1 s1 s2 s3 s4 s5
structure c22 (x1 : tFU) (x2 : Int) (k1 : (List Bool) → Prop) : Prop where
of :
 br (decide ((0 : Int) ≤ (↑(List.length x1.2.1)) ∧ ((↑(List.length x1.2.1)) : Int) ≤ (↑(List.length x1.2.1)) ∧ (((↑(List.length x1.2.1)) * 1) : Int) ≤ 140737488355328))
 (br (x2 == 0)
 (k1 (List.replicate (Int.toNat (↑(List.length x1.2.1))) (false : Bool)))
 (br (((↑(List.length x1.2.1)) : Int) == 0)
 (k1 (List.replicate (Int.toNat (↑(List.length x1.2.1))) (false : Bool)))
 (br (decide ((0 : Int) ≤ 0 ∧ (0 : Int) < (↑(List.length (List.replicate (Int.toNat (↑(List.length x1.2.1))) (false : Bool))))))
 (need False ((List.replicate (Int.toNat (↑(List.length x1.2.1))) (false : Bool)))[0]? fun y3 =>
 l22r6
 (fun z4 => k1 z4)
 x2 (↑(List.length x1.2.1)) 0 x1 (List.set (List.replicate (Int.toNat (↑(List.length x1.2.1))) (false : Bool)) 0 true))
 False)))
 False
structure l23r6 (k1 : Int → Int → Int → (List Bool) → Int → Bool → (List tBK) → Int → Int → tFU → Prop) (s1 s2 s3 : Int) (s4 : List Bool) (s5 : Int) (s6 : Bool) (s7 : List tBK) (s8 s9 : Int) (s10 : List tIN) (s11 s12 : Int) (s13 : tFU) : Prop where
of :
 ∀ (I1 : Int → Int → Int → (List Bool) → Int → Bool → (List tBK) → Int → Int → (List tIN) → Int → Int → tFU → Prop),
 (∀ (s1 s2 s3 : Int) (s4 : List Bool) (s5 : Int) (s6 : Bool) (s7 : List tBK) (s8 s9 : Int) (s10 : List tIN) (s11 s12 : Int) (s13 : tFU), (br (decide (s12 < s11))
 (need False (at? s10 s12) fun y14 =>
 br (s6)
 (I1 s1 s2 s3 s4 s5 true s7 s8 s9 s10 s11 (IntKind.wrap .i64 (s12 + 1)) s13)
 (br ((y14.1 : Int) == s1)
 (br (s5 != s2)
 (I1 s1 s2 s3 s4 s5 true s7 s8 s9 s10 s11 (IntKind.wrap .i64 (s12 + 1)) s13)
 (br (decide (s12 < s3))
 (I1 s1 s2 s3 s4 s5 true s7 s8 s9 s10 s11 (IntKind.wrap .i64 (s12 + 1)) s13)
 (need False (at? s4 s2) fun y15 =>
 I1 s1 s2 s3 s4 s5 (!y15) s7 s8 s9 s10 s11 (IntKind.wrap .i64 (s12 + 1)) s13)))
 (I1 s1 s2 s3 s4 s5 false s7 s8 s9 s10 s11 (IntKind.wrap .i64 (s12 + 1)) s13)))
 (k1 s1 s2 s3 s4 s5 s6 s7 s8 s9 s13)) → I1 s1 s2 s3 s4 s5 s6 s7 s8 s9 s10 s11 s12 s13) →
 I1 s1 s2 s3 s4 s5 s6 s7 s8 s9 s10 s11 s12 s13
structure c41 (x1 : tFU) (x2 x3 : Int) (k1 : Bool → Prop) : Prop where
of :
 br (x2 == x3)
 (k1 true)
 (c22 x1 x2
 (fun z4 => br (decide (0 ≤ x3 ∧ x3 < (↑(List.length z4))))
 (need False (z4)[(Int.toNat x3)]? fun y5 =>
 k1 (!y5))
 False))
structure l23r2 (k1 : Bool → Prop) (k2 : Prop) (s1 s2 s3 : Int) (s4 : List Bool) (s5 : List tBK) (s6 s7 : Int) (s8 : tFU) : Prop where
of :
 ∀ (I1 : Int → Int → Int → (List Bool) → (List tBK) → Int → Int → tFU → Prop),
 (∀ (s1 s2 s3 : Int) (s4 : List Bool) (s5 : List tBK) (s6 s7 : Int) (s8 : tFU), (br (decide (s7 < s6))
 (need False (at? s5 s7) fun y9 =>
 c25 y9.1 s1
 (fun z10 => l23r6
 (fun z11 z12 z13 z14 z15 z16 z17 z18 z19 z20 => br (z16)
 (need False (at? z14 z12) fun y21 =>
 br (!y21)
 (k1 true)
 (c41 z20 z15 z12
 (fun z22 => k1 z22)))
 (I1 z11 z12 z13 z14 z17 z18 (IntKind.wrap .i64 (z19 + 1)) z20))
 s1 s2 s3 s4 s7 z10 s5 s6 s7 y9.2.1 (↑(List.length y9.2.1)) 0 s8))
 (k2)) → I1 s1 s2 s3 s4 s5 s6 s7 s8) →
 I1 s1 s2 s3 s4 s5 s6 s7 s8
structure c23 (x1 : tFU) (x2 x3 x4 : Int) (x5 : List Bool) (k1 : Bool → Prop) : Prop where
of :
 l23r2
 (fun z6 => k1 z6)
 (k1 false)
 x2 x3 x4 x5 x1.2.1 (↑(List.length x1.2.1)) 0 x1
structure l9r24 (k1 : Int → Prop) (k2 : Int → (List tBK) → Int → Int → (List tIN) → Int → Int → tFU → (List Bool) → tBK → Prop) (s1 s2 : Int) (s3 : List tBK) (s4 s5 : Int) (s6 : List tIN) (s7 s8 : Int) (s9 : List Int) (s10 s11 : Int) (s12 : tFU) (s13 : List Bool) (s14 : tBK) : Prop where
of :
 ∀ (I1 : Int → Int → (List tBK) → Int → Int → (List tIN) → Int → Int → (List Int) → Int → Int → tFU → (List Bool) → tBK → Prop),
 (∀ (s1 s2 : Int) (s3 : List tBK) (s4 s5 : Int) (s6 : List tIN) (s7 s8 : Int) (s9 : List Int) (s10 s11 : Int) (s12 : tFU) (s13 : List Bool) (s14 : tBK), (br (decide (s11 < s10))
 (need False (at? s9 s11) fun y15 =>
 c23 s12 y15 s1 s2 s13
 (fun z16 => br (!z16)
 (k1 6)
 (I1 s1 s2 s3 s4 s5 s6 s7 s8 s9 s10 (IntKind.wrap .i64 (s11 + 1)) s12 s13 s14)))
 (k2 s1 s3 s4 s5 s6 s7 s8 s12 s13 s14)) → I1 s1 s2 s3 s4 s5 s6 s7 s8 s9 s10 s11 s12 s13 s14) →
 I1 s1 s2 s3 s4 s5 s6 s7 s8 s9 s10 s11 s12 s13 s14
structure l9r21 (k1 : Int → Prop) (k2 : Int → (List tBK) → Int → Int → tFU → (List Bool) → tBK → Prop) (s1 : Int) (s2 : List tBK) (s3 s4 : Int) (s5 : List tIN) (s6 s7 : Int) (s8 : tFU) (s9 : List Bool) (s10 : tBK) : Prop where
of :
 ∀ (I1 : Int → (List tBK) → Int → Int → (List tIN) → Int → Int → tFU → (List Bool) → tBK → Prop),
 (∀ (s1 : Int) (s2 : List tBK) (s3 s4 : Int) (s5 : List tIN) (s6 s7 : Int) (s8 : tFU) (s9 : List Bool) (s10 : tBK), (br (decide (s7 < s6))
 (need False (at? s5 s7) fun y11 =>
 l9r24
 (fun z12 => k1 z12)
 (fun z13 z14 z15 z16 z17 z18 z19 z20 z21 z22 => I1 z13 z14 z15 z16 z17 z18 (IntKind.wrap .i64 (z19 + 1)) z20 z21 z22)
 s1 s7 s2 s3 s4 s5 s6 s7 y11.2.2.2.1 (↑(List.length y11.2.2.2.1)) 0 s8 s9 s10)
 (k2 s1 s2 s3 s4 s8 s9 s10)) → I1 s1 s2 s3 s4 s5 s6 s7 s8 s9 s10) →
 I1 s1 s2 s3 s4 s5 s6 s7 s8 s9 s10
structure l24r5 (k1 : (List Int) → Prop) (s1 : List tED) (s2 s3 : Int) (s4 : List Int) : Prop where
of :
 ∀ (I1 : (List tED) → Int → Int → (List Int) → Prop),
 (∀ (s1 : List tED) (s2 s3 : Int) (s4 : List Int), (br (decide (s3 < s2))
 (need False (at? s1 s3) fun y5 =>
 br (List.isEmpty y5.2.1)
 (I1 s1 s2 (IntKind.wrap .i64 (s3 + 1)) s4)
 (br (roomB ((List.length s4) + (List.length y5.2.1)) 8)
 (I1 s1 s2 (IntKind.wrap .i64 (s3 + 1)) (s4 ++ y5.2.1))
 False))
 (k1 s4)) → I1 s1 s2 s3 s4) →
 I1 s1 s2 s3 s4
structure c24 (x1 : tTM) (k1 : (List Int) → Prop) : Prop where
of :
 br ((x1.1 : Int) == 0)
 (br (true)
 (l24r5
 (fun z2 => k1 z2)
 x1.2.2.2.2.1 (↑(List.length x1.2.2.2.2.1)) 0 ([] ++ [x1.2.1]))
 False)
 (br ((x1.1 : Int) == 2)
 (br (true)
 (l24r5
 (fun z3 => k1 z3)
 x1.2.2.2.2.1 (↑(List.length x1.2.2.2.2.1)) 0 ([] ++ [x1.2.1]))
 False)
 (br ((x1.1 : Int) == 3)
 (br (true)
 (l24r5
 (fun z4 => k1 z4)
 x1.2.2.2.2.1 (↑(List.length x1.2.2.2.2.1)) 0 ([] ++ [x1.2.1]))
 False)
 (l24r5
 (fun z5 => k1 z5)
 x1.2.2.2.2.1 (↑(List.length x1.2.2.2.2.1)) 0 [])))
structure l9r31 (k1 : Int → Prop) (k2 : (List tBK) → Int → Int → tFU → (List Bool) → Prop) (s1 : Int) (s2 : List tBK) (s3 s4 s5 s6 : Int) (s7 : tFU) (s8 : List Bool) (s9 : tBK) (s10 : List Int) : Prop where
of :
 ∀ (I1 : Int → (List tBK) → Int → Int → Int → Int → tFU → (List Bool) → tBK → (List Int) → Prop),
 (∀ (s1 : Int) (s2 : List tBK) (s3 s4 s5 s6 : Int) (s7 : tFU) (s8 : List Bool) (s9 : tBK) (s10 : List Int), (br (decide (s6 < s5))
 (br (decide (0 ≤ s6 ∧ s6 < (↑(List.length s10))))
 (need False (s10)[(Int.toNat s6)]? fun y11 =>
 c23 s7 y11 s1 (↑(List.length s9.2.1)) s8
 (fun z12 => br (!z12)
 (k1 6)
 (I1 s1 s2 s3 s4 s5 (IntKind.wrap .i64 (s6 + 1)) s7 s8 s9 s10)))
 False)
 (k2 s2 s3 s4 s7 s8)) → I1 s1 s2 s3 s4 s5 s6 s7 s8 s9 s10) →
 I1 s1 s2 s3 s4 s5 s6 s7 s8 s9 s10
structure l9r18 (k1 : Int → Prop) (k2 : Prop) (s1 : List tBK) (s2 s3 : Int) (s4 : tFU) (s5 : List Bool) : Prop where
of :
 ∀ (I1 : (List tBK) → Int → Int → tFU → (List Bool) → Prop),
 (∀ (s1 : List tBK) (s2 s3 : Int) (s4 : tFU) (s5 : List Bool), (br (decide (s3 < s2))
 (need False (at? s1 s3) fun y6 =>
 l9r21
 (fun z7 => k1 z7)
 (fun z8 z9 z10 z11 z12 z13 z14 => c24 z14.2.2.1
 (fun z15 => l9r31
 (fun z16 => k1 z16)
 (fun z17 z18 z19 z20 z21 => I1 z17 z18 (IntKind.wrap .i64 (z19 + 1)) z20 z21)
 z8 z9 z10 z11 (↑(List.length z15)) 0 z12 z13 z14 z15))
 s3 s1 s2 s3 y6.2.1 (↑(List.length y6.2.1)) 0 s4 s5 y6)
 (k2)) → I1 s1 s2 s3 s4 s5) →
 I1 s1 s2 s3 s4 s5
structure c9 (x1 : tFU) (k1 : Int → Prop) : Prop where
of :
 l9r3
 (fun z2 z3 => br (((↑(List.length z3.2.1)) : Int) == 0)
 (k1 3)
 (br (decide (((↑(List.length z3.2.1)) : Int) > 128))
 (k1 2)
 (br (decide (z2 > 1024))
 (k1 2)
 (need False (at? z3.2.1 0) fun y4 =>
 br (decide (((↑(List.length y4.1)) : Int) > 6))
 (k1 2)
 (c20 z3.1 (-1) 1048575
 (fun z5 => br (!z5)
 (k1 4)
 (c21 z3
 (fun z6 => br (z6 != 0)
 (k1 z6)
 (c22 z3 (-1)
 (fun z7 => l9r18
 (fun z8 => k1 z8)
 (k1 0)
 z3.2.1 (↑(List.length z3.2.1)) 0 z3 z7))))))))))
 0 x1.2.1 (↑(List.length x1.2.1)) 0 x1
structure l10r9 (k1 : Bool → Prop) (k2 : Int → Nat → Nat → Nat → Bool → tFU → (List Bool) → (List (Int × Int × Unit)) → tBK → Prop) (s1 : Int) (s2 s3 s4 : Nat) (s5 : Bool) (s6 : Int) (s7 : tFU) (s8 : List Bool) (s9 : List (Int × Int × Unit)) (s10 : tBK) : Prop where
of :
 ∀ (I1 : Int → Nat → Nat → Nat → Bool → Int → tFU → (List Bool) → (List (Int × Int × Unit)) → tBK → Prop),
 (∀ (s1 : Int) (s2 s3 s4 : Nat) (s5 : Bool) (s6 : Int) (s7 : tFU) (s8 : List Bool) (s9 : List (Int × Int × Unit)) (s10 : tBK), (br (decide (s6 < (↑(List.length s10.2.1))))
 (br (!s5)
 (need False (at? s10.2.1 s6) fun y11 =>
 c25 y11.2.2.2.1 s1
 (fun z12 => br (z12)
 (k1 true)
 (need False (at? s10.2.1 s6) fun y13 =>
 I1 s1 s2 s3 s4 ((y13.1 : Int) == s1) (IntKind.wrap .i64 (s6 + 1)) s7 s8 s9 s10)))
 (k2 s1 s2 s3 s4 s5 s7 s8 s9 s10))
 (k2 s1 s2 s3 s4 s5 s7 s8 s9 s10)) → I1 s1 s2 s3 s4 s5 s6 s7 s8 s9 s10) →
 I1 s1 s2 s3 s4 s5 s6 s7 s8 s9 s10
structure l10r18 (k1 : Int → Nat → Nat → Nat → tFU → (List Bool) → (List (Int × Int × Unit)) → Prop) (k2 : Int → tFU → (List Bool) → (List (Int × Int × Unit)) → Prop) (s1 : Int) (s2 s3 s4 : Nat) (s5 : List tED) (s6 s7 : Int) (s8 : tFU) (s9 : List Bool) (s10 : List (Int × Int × Unit)) : Prop where
of :
 ∀ (I1 : Int → Nat → Nat → Nat → (List tED) → Int → Int → tFU → (List Bool) → (List (Int × Int × Unit)) → Prop) (I2 : Int → (List tED) → Int → Int → tFU → (List Bool) → (List (Int × Int × Unit)) → Prop),
 (∀ (s1 : Int) (s2 s3 s4 : Nat) (s5 : List tED) (s6 s7 : Int) (s8 : tFU) (s9 : List Bool) (s10 : List (Int × Int × Unit)), (br (decide (s7 < s6))
 (need False (at? s5 s7) fun y11 =>
 br (decide ((0 : Int) ≤ y11.1 ∧ (y11.1 : Int) < (↑(List.length s9))))
 (need False (s9)[(Int.toNat y11.1)]? fun y12 =>
 br (!y12)
 (need False (at? s8.2.1 y11.1) fun y13 =>
 c25 y13.1 s1
 (fun z14 => br (!z14)
 (br (decide ((0 : Int) ≤ y11.1 ∧ (y11.1 : Int) < (↑(List.length s9))))
 (need False (s9)[(Int.toNat y11.1)]? fun y15 =>
 br (decide ((s3 + 1) ≤ s4))
 (I1 s1 s2 (s3 + 1) s4 s5 s6 (IntKind.wrap .i64 (s7 + 1)) s8 (List.set s9 (Int.toNat y11.1) true) (((List.take (s2 + s3) s10) ++ [(y11.1, 0, ())]) ++ (List.drop ((s2 + s3) + 1) s10)))
 (br (roomB (s3 + 1) 16)
 (br (decide (s2 = 0))
 (I2 s1 s5 s6 (IntKind.wrap .i64 (s7 + 1)) s8 (List.set s9 (Int.toNat y11.1) true) ((List.take s3 s10) ++ [(y11.1, 0, ())]))
 ((I2 s1 s5 s6 (IntKind.wrap .i64 (s7 + 1)) s8 (List.set s9 (Int.toNat y11.1) true) ((List.take s3 (List.drop s2 s10)) ++ [(y11.1, 0, ())])) ∧
 (I1 s1 s2 (s3 + 1) (s3 + 1) s5 s6 (IntKind.wrap .i64 (s7 + 1)) s8 (List.set s9 (Int.toNat y11.1) true) ((List.take (s2 + s3) s10) ++ [(y11.1, 0, ())]))))
 False))
 False)
 (I1 s1 s2 s3 s4 s5 s6 (IntKind.wrap .i64 (s7 + 1)) s8 s9 s10)))
 (I1 s1 s2 s3 s4 s5 s6 (IntKind.wrap .i64 (s7 + 1)) s8 s9 s10))
 False)
 (k1 s1 s2 s3 s4 s8 s9 s10)) → I1 s1 s2 s3 s4 s5 s6 s7 s8 s9 s10) →
 (∀ (s16 : Int) (s17 : List tED) (s18 s19 : Int) (s20 : tFU) (s21 : List Bool) (s22 : List (Int × Int × Unit)), (br (decide (s19 < s18))
 (need False (at? s17 s19) fun y23 =>
 br (decide ((0 : Int) ≤ y23.1 ∧ (y23.1 : Int) < (↑(List.length s21))))
 (need False (s21)[(Int.toNat y23.1)]? fun y24 =>
 br (!y24)
 (need False (at? s20.2.1 y23.1) fun y25 =>
 c25 y25.1 s16
 (fun z26 => br (!z26)
 (br (decide ((0 : Int) ≤ y23.1 ∧ (y23.1 : Int) < (↑(List.length s21))))
 (need False (s21)[(Int.toNat y23.1)]? fun y27 =>
 br (roomB ((List.length s22) + 1) 16)
 (I2 s16 s17 s18 (IntKind.wrap .i64 (s19 + 1)) s20 (List.set s21 (Int.toNat y23.1) true) (s22 ++ [(y23.1, 0, ())]))
 False)
 False)
 (I2 s16 s17 s18 (IntKind.wrap .i64 (s19 + 1)) s20 s21 s22)))
 (I2 s16 s17 s18 (IntKind.wrap .i64 (s19 + 1)) s20 s21 s22))
 False)
 (k2 s16 s20 s21 s22)) → I2 s16 s17 s18 s19 s20 s21 s22) →
 I1 s1 s2 s3 s4 s5 s6 s7 s8 s9 s10
structure l10r3 (k1 : Bool → Prop) (k2 : Prop) (s1 : Int) (s2 : tFU) (s3 : List Bool) (s4 : List (Int × Int × Unit)) : Prop where
of :
 ∀ (I1 : Int → tFU → (List Bool) → (List (Int × Int × Unit)) → Prop) (I2 : Int → Nat → Nat → Nat → tFU → (List Bool) → (List (Int × Int × Unit)) → Prop),
 (∀ (s1 : Int) (s2 : tFU) (s3 : List Bool) (s4 : List (Int × Int × Unit)), (br (decide (((↑(List.length s4)) : Int) > 0))
 (br (decide ((0 : Int) ≤ (IntKind.wrap .i64 ((↑(List.length s4)) - 1)) ∧ ((IntKind.wrap .i64 ((↑(List.length s4)) - 1)) : Int) < (↑(List.length s4))))
 (need False (s4)[(Int.toNat (IntKind.wrap .i64 ((↑(List.length s4)) - 1)))]? fun y5 =>
 br (decide ((0 : Int) ≤ 0 ∧ (0 : Int) ≤ (IntKind.wrap .i64 ((↑(List.length s4)) - 1)) ∧ ((IntKind.wrap .i64 ((↑(List.length s4)) - 1)) : Int) ≤ (↑(List.length s4)) ∧ ((↑(List.length s4)) : Int) ≤ (↑(List.length s4))))
 (need False (at? s2.2.1 y5.1) fun y6 =>
 l10r9
 (fun z7 => k1 z7)
 (fun z8 z9 z10 z11 z12 z13 z14 z15 z16 => br (z12)
 (I2 z8 z9 z10 z11 z13 z14 z15)
 (c24 z16.2.2.1
 (fun z17 => c25 z17 z8
 (fun z18 => br (z18)
 (k1 true)
 (l10r18
 (fun z19 z20 z21 z22 z23 z24 z25 => I2 z19 z20 z21 z22 z23 z24 z25)
 (fun z26 z27 z28 z29 => I1 z26 z27 z28 z29)
 z8 z9 z10 z11 z16.2.2.1.2.2.2.2.1 (↑(List.length z16.2.2.1.2.2.2.2.1)) 0 z13 z14 z15)))))
 s1 0 (Int.toNat ((IntKind.wrap .i64 ((↑(List.length s4)) - 1)) - 0)) (Int.toNat ((↑(List.length s4)) - 0)) false y5.2.1 s2 s3 s4 y6)
 False)
 False)
 (k2)) → I1 s1 s2 s3 s4) →
 (∀ (s30 : Int) (s31 s32 s33 : Nat) (s34 : tFU) (s35 : List Bool) (s36 : List (Int × Int × Unit)), (br (decide ((((s32 : Nat) : Int) : Int) > 0))
 (br (decide ((0 : Int) ≤ (IntKind.wrap .i64 (((s32 : Nat) : Int) - 1)) ∧ ((IntKind.wrap .i64 (((s32 : Nat) : Int) - 1)) : Int) < ((s32 : Nat) : Int)))
 (need False (s36)[(s31 + (Int.toNat (IntKind.wrap .i64 (((s32 : Nat) : Int) - 1))))]? fun y37 =>
 br (decide ((0 : Int) ≤ 0 ∧ (0 : Int) ≤ (IntKind.wrap .i64 (((s32 : Nat) : Int) - 1)) ∧ ((IntKind.wrap .i64 (((s32 : Nat) : Int) - 1)) : Int) ≤ ((s33 : Nat) : Int) ∧ (((s33 : Nat) : Int) : Int) ≤ ((s33 : Nat) : Int)))
 (need False (at? s34.2.1 y37.1) fun y38 =>
 l10r9
 (fun z39 => k1 z39)
 (fun z40 z41 z42 z43 z44 z45 z46 z47 z48 => br (z44)
 (I2 z40 z41 z42 z43 z45 z46 z47)
 (c24 z48.2.2.1
 (fun z49 => c25 z49 z40
 (fun z50 => br (z50)
 (k1 true)
 (l10r18
 (fun z51 z52 z53 z54 z55 z56 z57 => I2 z51 z52 z53 z54 z55 z56 z57)
 (fun z58 z59 z60 z61 => I1 z58 z59 z60 z61)
 z40 z41 z42 z43 z48.2.2.1.2.2.2.2.1 (↑(List.length z48.2.2.1.2.2.2.2.1)) 0 z45 z46 z47)))))
 s30 (s31 + 0) (Int.toNat ((IntKind.wrap .i64 (((s32 : Nat) : Int) - 1)) - 0)) (Int.toNat (((s33 : Nat) : Int) - 0)) false y37.2.1 s34 s35 s36 y38)
 False)
 False)
 (k2)) → I2 s30 s31 s32 s33 s34 s35 s36) →
 I1 s1 s2 s3 s4
structure c10 (x1 : tFU) (x2 x3 x4 : Int) (k1 : Bool → Prop) : Prop where
of :
 br (decide ((0 : Int) ≤ (↑(List.length x1.2.1)) ∧ ((↑(List.length x1.2.1)) : Int) ≤ (↑(List.length x1.2.1)) ∧ (((↑(List.length x1.2.1)) * 1) : Int) ≤ 140737488355328))
 (l10r3
 (fun z5 => k1 z5)
 (k1 false)
 x2 x1 (List.replicate (Int.toNat (↑(List.length x1.2.1))) (false : Bool)) [(x3, x4, ())])
 False
structure l3r18 (k1 : Int → Int → Bool → Int → Bool → Int → (List tBK) → Int → Int → tFU → (List (List Int)) → (List (List Int)) → tBK → (List Int) → (List Int) → Prop) (s1 s2 : Int) (s3 : Bool) (s4 : Int) (s5 : Bool) (s6 : Int) (s7 : List tBK) (s8 s9 s10 s11 : Int) (s12 : tFU) (s13 s14 : List (List Int)) (s15 : tBK) (s16 s17 : List Int) : Prop where
of :
 ∀ (I1 : Int → Int → Bool → Int → Bool → Int → (List tBK) → Int → Int → Int → Int → tFU → (List (List Int)) → (List (List Int)) → tBK → (List Int) → (List Int) → Prop),
 (∀ (s1 s2 : Int) (s3 : Bool) (s4 : Int) (s5 : Bool) (s6 : Int) (s7 : List tBK) (s8 s9 s10 s11 : Int) (s12 : tFU) (s13 s14 : List (List Int)) (s15 : tBK) (s16 s17 : List Int), (br (decide (s11 < s10))
 (c10 s12 s11 s6 0
 (fun z18 => br (z18)
 (br (roomB ((List.length s16) + 1) 8)
 (c10 s12 s11 s6 (↑(List.length s15.2.1))
 (fun z19 => br (z19)
 (br (roomB ((List.length s17) + 1) 8)
 (I1 s1 s2 s3 s4 s5 s6 s7 s8 s9 s10 (IntKind.wrap .i64 (s11 + 1)) s12 s13 s14 s15 (s16 ++ [s11]) (s17 ++ [s11]))
 False)
 (I1 s1 s2 s3 s4 s5 s6 s7 s8 s9 s10 (IntKind.wrap .i64 (s11 + 1)) s12 s13 s14 s15 (s16 ++ [s11]) s17)))
 False)
 (c10 s12 s11 s6 (↑(List.length s15.2.1))
 (fun z20 => br (z20)
 (br (roomB ((List.length s17) + 1) 8)
 (I1 s1 s2 s3 s4 s5 s6 s7 s8 s9 s10 (IntKind.wrap .i64 (s11 + 1)) s12 s13 s14 s15 s16 (s17 ++ [s11]))
 False)
 (I1 s1 s2 s3 s4 s5 s6 s7 s8 s9 s10 (IntKind.wrap .i64 (s11 + 1)) s12 s13 s14 s15 s16 s17)))))
 (k1 s1 s2 s3 s4 s5 s6 s7 s8 s9 s12 s13 s14 s15 s16 s17)) → I1 s1 s2 s3 s4 s5 s6 s7 s8 s9 s10 s11 s12 s13 s14 s15 s16 s17) →
 I1 s1 s2 s3 s4 s5 s6 s7 s8 s9 s10 s11 s12 s13 s14 s15 s16 s17
structure l3r26 (k1 : Int → Int → Bool → Int → Bool → Int → (List tBK) → Int → Int → tFU → (List (List Int)) → (List (List Int)) → (List Int) → (List Int) → Prop) (s1 s2 : Int) (s3 : Bool) (s4 : Int) (s5 : Bool) (s6 s7 : Int) (s8 : List tBK) (s9 s10 : Int) (s11 : tFU) (s12 s13 : List (List Int)) (s14 : tBK) (s15 s16 : List Int) : Prop where
of :
 ∀ (I1 : Int → Int → Bool → Int → Bool → Int → Int → (List tBK) → Int → Int → tFU → (List (List Int)) → (List (List Int)) → tBK → (List Int) → (List Int) → Prop),
 (∀ (s1 s2 : Int) (s3 : Bool) (s4 : Int) (s5 : Bool) (s6 s7 : Int) (s8 : List tBK) (s9 s10 : Int) (s11 : tFU) (s12 s13 : List (List Int)) (s14 : tBK) (s15 s16 : List Int), (br (decide (s7 ≤ (↑(List.length s14.2.1))))
 (br (s5)
 (I1 s1 s2 s3 s4 true s6 (IntKind.wrap .i64 (s7 + 1)) s8 s9 s10 s11 s12 s13 s14 s15 s16)
 (c10 s11 s1 s6 s7
 (fun z17 => br (z17)
 (c10 s11 s2 s6 s7
 (fun z18 => I1 s1 s2 s3 s4 z18 s6 (IntKind.wrap .i64 (s7 + 1)) s8 s9 s10 s11 s12 s13 s14 s15 s16))
 (I1 s1 s2 s3 s4 false s6 (IntKind.wrap .i64 (s7 + 1)) s8 s9 s10 s11 s12 s13 s14 s15 s16))))
 (k1 s1 s2 s3 s4 s5 s6 s8 s9 s10 s11 s12 s13 s15 s16)) → I1 s1 s2 s3 s4 s5 s6 s7 s8 s9 s10 s11 s12 s13 s14 s15 s16) →
 I1 s1 s2 s3 s4 s5 s6 s7 s8 s9 s10 s11 s12 s13 s14 s15 s16
structure l3r14 (k1 : Bool → Prop) (k2 : Int → Int → Bool → Int → Bool → tFU → Prop) (s1 s2 : Int) (s3 : Bool) (s4 : Int) (s5 : Bool) (s6 : List tBK) (s7 s8 : Int) (s9 : tFU) (s10 s11 : List (List Int)) : Prop where
of :
 ∀ (I1 : Int → Int → Bool → Int → Bool → (List tBK) → Int → Int → tFU → (List (List Int)) → (List (List Int)) → Prop),
 (∀ (s1 s2 : Int) (s3 : Bool) (s4 : Int) (s5 : Bool) (s6 : List tBK) (s7 s8 : Int) (s9 : tFU) (s10 s11 : List (List Int)), (br (decide (s8 < s7))
 (need False (at? s6 s8) fun y12 =>
 c6 s9
 (fun z13 => l3r18
 (fun z14 z15 z16 z17 z18 z19 z20 z21 z22 z23 z24 z25 z26 z27 z28 => l3r26
 (fun z29 z30 z31 z32 z33 z34 z35 z36 z37 z38 z39 z40 z41 z42 => br (decide (0 ≤ z34 ∧ z34 < (↑(List.length z39))))
 (need False (z39)[(Int.toNat z34)]? fun y43 =>
 need False (z39)[(Int.toNat z34)]? fun y44 =>
 c11 y44 z41
 (fun z45 => br (!z45)
 (k1 false)
 (br (decide (0 ≤ z34 ∧ z34 < (↑(List.length z40))))
 (need False (z40)[(Int.toNat z34)]? fun y46 =>
 need False (z40)[(Int.toNat z34)]? fun y47 =>
 c11 y47 z42
 (fun z48 => br (!z48)
 (k1 false)
 (I1 z29 z30 z31 z32 z33 z35 z36 (IntKind.wrap .i64 (z37 + 1)) z38 (List.set z39 (Int.toNat z34) y44) (List.set z40 (Int.toNat z34) y47))))
 False)))
 False)
 z14 z15 z16 z17 z18 z19 0 z20 z21 z22 z23 z24 z25 z26 z27 z28)
 s1 s2 s3 s4 s5 s8 s6 s7 s8 z13 0 s9 s10 s11 y12 [] []))
 (k2 s1 s2 s3 s4 s5 s9)) → I1 s1 s2 s3 s4 s5 s6 s7 s8 s9 s10 s11) →
 I1 s1 s2 s3 s4 s5 s6 s7 s8 s9 s10 s11
structure l12r7 (k1 : Bool → Prop) (k2 : Int → (List tBK) → Int → Int → Prop) (s1 : Int) (s2 : List tBK) (s3 s4 : Int) (s5 : List tIN) (s6 s7 : Int) : Prop where
of :
 ∀ (I1 : Int → (List tBK) → Int → Int → (List tIN) → Int → Int → Prop),
 (∀ (s1 : Int) (s2 : List tBK) (s3 s4 : Int) (s5 : List tIN) (s6 s7 : Int), (br (decide (s7 < s6))
 (need False (at? s5 s7) fun y8 =>
 br ((y8.1 : Int) == s1)
 (k1 true)
 (I1 s1 s2 s3 s4 s5 s6 (IntKind.wrap .i64 (s7 + 1))))
 (k2 s1 s2 s3 s4)) → I1 s1 s2 s3 s4 s5 s6 s7) →
 I1 s1 s2 s3 s4 s5 s6 s7
structure l12r2 (k1 : Bool → Prop) (k2 : Prop) (s1 : Int) (s2 : List tBK) (s3 s4 : Int) : Prop where
of :
 ∀ (I1 : Int → (List tBK) → Int → Int → Prop),
 (∀ (s1 : Int) (s2 : List tBK) (s3 s4 : Int), (br (decide (s4 < s3))
 (need False (at? s2 s4) fun y5 =>
 c25 y5.1 s1
 (fun z6 => br (z6)
 (k1 true)
 (l12r7
 (fun z7 => k1 z7)
 (fun z8 z9 z10 z11 => I1 z8 z9 z10 (IntKind.wrap .i64 (z11 + 1)))
 s1 s2 s3 s4 y5.2.1 (↑(List.length y5.2.1)) 0)))
 (k2)) → I1 s1 s2 s3 s4) →
 I1 s1 s2 s3 s4
structure c12 (x1 : tFU) (x2 : Int) (k1 : Bool → Prop) : Prop where
of :
 l12r2
 (fun z3 => k1 z3)
 (k1 false)
 x2 x1.2.1 (↑(List.length x1.2.1)) 0
structure c3 (x1 : tFU) (x2 x3 : Int) (k1 : Bool → Prop) : Prop where
of :
 c4 
 (fun z4 => br (!z4)
 (k1 false)
 (c5 x1
 (fun z5 => br (!z5)
 (k1 true)
 (c6 x1
 (fun z6 => br (decide (z6 > 60))
 (k1 true)
 (c7v2 x1
 (fun z7 z8 z9 => c8 x1 x2 x3
 (fun z10 z11 => c9 x1
 (fun z12 => br (z12 != 0)
 (br (z7 == z12)
 (br (z11 == z12)
 (br (((IntKind.wrap .i64 ((↑(List.length z8)) + (↑(List.length z9)))) : Int) == 0)
 (k1 (!z10))
 (k1 false))
 (k1 false))
 (k1 false))
 (br (z7 != 0)
 (k1 false)
 (br (((↑(List.length z8)) : Int) != (↑(List.length x1.2.1)))
 (k1 false)
 (br (((↑(List.length z9)) : Int) != (↑(List.length x1.2.1)))
 (k1 false)
 (l3r14
 (fun z13 => k1 z13)
 (fun z14 z15 z16 z17 z18 z19 => c12 z19 z14
 (fun z20 => br (!z20)
 (br (z17 == 12)
 (k1 (!z16))
 (k1 false))
 (c12 z19 z15
 (fun z21 => br (!z21)
 (br (z17 == 12)
 (k1 (!z16))
 (k1 false))
 (br (z14 == z15)
 (br (z17 == 1)
 (k1 (!z16))
 (k1 false))
 (br (z17 == 0)
 (k1 ((z16 : Bool) == z18))
 (k1 false)))))))
 x2 x3 z10 z11 false x1.2.1 (↑(List.length x1.2.1)) 0 x1 z8 z9)))))))))))))
end Go.Proofs.Ytlbdabijclkhnaa
