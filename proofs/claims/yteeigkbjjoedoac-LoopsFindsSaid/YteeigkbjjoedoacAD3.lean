/- What the functions compute, as plain Lean (printed by a program). -/
import Derived.Test.YteeigkbjjoedoacATypT
namespace Go.Proofs.Yteeigkbjjoedoac
open Go.Abs
abbrev tFU := Int × (List ((List Int) × (List (Int × Int × Int × (List Int) × Unit)) × (Int × Int × Int × (List Int) × (List (Int × (List Int) × Unit)) × Unit) × Unit)) × Unit
abbrev tBK := (List Int) × (List (Int × Int × Int × (List Int) × Unit)) × (Int × Int × Int × (List Int) × (List (Int × (List Int) × Unit)) × Unit) × Unit
abbrev tTM := Int × Int × Int × (List Int) × (List (Int × (List Int) × Unit)) × Unit
abbrev tIN := Int × Int × Int × (List Int) × Unit
abbrev tED := Int × (List Int) × Unit
abbrev tLO := Int × (List Int) × Int × Unit
abbrev q0 := (Int × Int × Unit)
set_option linter.unusedVariables false
abbrev tab8 : List UInt8 := [0, 1, 2, 2, 3, 3, 3, 3, 4, 4, 4, 4, 4, 4, 4, 4, 5, 5, 5, 5, 5, 5, 5, 5, 5, 5, 5, 5, 5, 5, 5, 5, 6, 6, 6, 6, 6, 6, 6, 6, 6, 6, 6, 6, 6, 6, 6, 6, 6, 6, 6, 6, 6, 6, 6, 6, 6, 6, 6, 6, 6, 6, 6, 6, 7, 7, 7, 7, 7, 7, 7, 7, 7, 7, 7, 7, 7, 7, 7, 7, 7, 7, 7, 7, 7, 7, 7, 7, 7, 7, 7, 7, 7, 7, 7, 7, 7, 7, 7, 7, 7, 7, 7, 7, 7, 7, 7, 7, 7, 7, 7, 7, 7, 7, 7, 7, 7, 7, 7, 7, 7, 7, 7, 7, 7, 7, 7, 7, 8, 8, 8, 8, 8, 8, 8, 8, 8, 8, 8, 8, 8, 8, 8, 8, 8, 8, 8, 8, 8, 8, 8, 8, 8, 8, 8, 8, 8, 8, 8, 8, 8, 8, 8, 8, 8, 8, 8, 8, 8, 8, 8, 8, 8, 8, 8, 8, 8, 8, 8, 8, 8, 8, 8, 8, 8, 8, 8, 8, 8, 8, 8, 8, 8, 8, 8, 8, 8, 8, 8, 8, 8, 8, 8, 8, 8, 8, 8, 8, 8, 8, 8, 8, 8, 8, 8, 8, 8, 8, 8, 8, 8, 8, 8, 8, 8, 8, 8, 8, 8, 8, 8, 8, 8, 8, 8, 8, 8, 8, 8, 8, 8, 8, 8, 8, 8, 8, 8, 8, 8, 8, 8, 8, 8, 8, 8, 8]
structure c13 (k1 : Int → (List tBK) → Prop) : Prop where
of :
 k1 (-1) [([], [(1, 0, 1, [], ())], (2, 1, 0, [], [(1, [], ()), (2, [], ())], ()), ()), ([], [], (1, 0, 0, [], [(3, [], ())], ()), ()), ([], [], (1, 0, 0, [], [(3, [], ())], ()), ()), ([], [], (0, 1, 0, [], [], ()), ())]
structure l37r3 (k1 : Int → tFU → Prop) (s1 : Int) (s2 : List tBK) (s3 s4 : Int) (s5 : tFU) : Prop where
of :
 ∀ (I1 : Int → (List tBK) → Int → Int → tFU → Prop),
 (∀ (s1 : Int) (s2 : List tBK) (s3 s4 : Int) (s5 : tFU), (br (decide (s4 < s3))
 (need False (at? s2 s4) fun y6 =>
 I1 (IntKind.wrap .i64 (s1 + (↑(List.length y6.2.1)))) s2 s3 (IntKind.wrap .i64 (s4 + 1)) s5)
 (k1 s1 s5)) → I1 s1 s2 s3 s4 s5) →
 I1 s1 s2 s3 s4 s5
structure c51 (x1 x2 x3 : Int) (k1 : Bool → Prop) : Prop where
of :
 br (decide (x1 ≥ x2))
 (k1 (decide ((x1 : Int) ≤ x3)))
 (k1 false)
structure c68 (x1 : Int) (x2 : Int × Int × Unit) (x3 : tFU) (x4 : List (Int × q0)) (k1 : Int → tFU → (List (Int × q0)) → Prop) : Prop where
of :
 c51 x1 0 4095
 (fun z5 => br (!z5)
 (k1 4 x3 x4)
 (br (mhas x4 x1)
 (k1 7 x3 x4)
 (k1 0 x3 (mput x4 x1 x2))))
structure l52r3 (k1 : Int → tFU → (List (Int × q0)) → Prop) (k2 : Int → tFU → (List (Int × q0)) → tBK → Prop) (s1 : Int) (s2 : List Int) (s3 s4 : Int) (s5 : tFU) (s6 : List (Int × q0)) (s7 : tBK) : Prop where
of :
 ∀ (I1 : Int → (List Int) → Int → Int → tFU → (List (Int × q0)) → tBK → Prop),
 (∀ (s1 : Int) (s2 : List Int) (s3 s4 : Int) (s5 : tFU) (s6 : List (Int × q0)) (s7 : tBK), (br (decide (s4 < s3))
 (need False (at? s2 s4) fun y8 =>
 c68 y8 (s1, 0, ()) s5 s6
 (fun z9 z10 z11 => br (z9 != 0)
 (k1 z9 z10 z11)
 (I1 s1 s2 s3 (IntKind.wrap .i64 (s4 + 1)) z10 z11 s7)))
 (k2 s1 s5 s6 s7)) → I1 s1 s2 s3 s4 s5 s6 s7) →
 I1 s1 s2 s3 s4 s5 s6 s7
structure c80 (x1 : tIN) (k1 : Int → Bool → Prop) : Prop where
of :
 br ((x1.2.1 : Int) == 0)
 (k1 0 true)
 (br ((x1.2.1 : Int) == 1)
 (k1 2 true)
 (br ((x1.2.1 : Int) == 2)
 (k1 2 true)
 (br ((x1.2.1 : Int) == 3)
 (k1 2 true)
 (br ((x1.2.1 : Int) == 4)
 (k1 2 true)
 (br ((x1.2.1 : Int) == 5)
 (k1 2 true)
 (br ((x1.2.1 : Int) == 6)
 (k1 2 true)
 (br ((x1.2.1 : Int) == 7)
 (k1 2 true)
 (br ((x1.2.1 : Int) == 16)
 (k1 2 true)
 (br ((x1.2.1 : Int) == 18)
 (k1 2 true)
 (br ((x1.2.1 : Int) == 19)
 (k1 2 true)
 (br ((x1.2.1 : Int) == 21)
 (k1 2 true)
 (br ((x1.2.1 : Int) == 23)
 (k1 2 true)
 (br ((x1.2.1 : Int) == 20)
 (k1 3 true)
 (br ((x1.2.1 : Int) == 10)
 (k1 1 true)
 (br ((x1.2.1 : Int) == 11)
 (k1 1 true)
 (br ((x1.2.1 : Int) == 12)
 (k1 1 true)
 (br ((x1.2.1 : Int) == 15)
 (k1 1 true)
 (br ((x1.2.1 : Int) == 17)
 (k1 1 true)
 (br ((x1.2.1 : Int) == 24)
 (k1 1 true)
 (br ((x1.2.1 : Int) == 8)
 (k1 (-1) true)
 (br ((x1.2.1 : Int) == 9)
 (k1 (-1) true)
 (br ((x1.2.1 : Int) == 13)
 (k1 (-1) true)
 (br ((x1.2.1 : Int) == 14)
 (k1 (-1) true)
 (br ((x1.2.1 : Int) == 22)
 (br ((x1.2.2.1 : Int) == 2)
 (k1 x1.2.2.1 true)
 (k1 x1.2.2.1 ((x1.2.2.1 : Int) == 4)))
 (k1 0 false)))))))))))))))))))))))))
structure c83 (x1 : Int) (k1 : Bool → Prop) : Prop where
of :
 c51 x1 (-1073741824) 1073741823
 (fun z2 => k1 z2)
structure c81 (x1 : tIN) (k1 : Bool → Prop) : Prop where
of :
 br ((x1.2.1 : Int) == 0)
 (c83 x1.2.2.1
 (fun z2 => k1 z2))
 (br ((x1.2.1 : Int) == 8)
 (c51 x1.2.2.1 0 255
 (fun z3 => k1 z3))
 (br ((x1.2.1 : Int) == 11)
 (c51 x1.2.2.1 0 15
 (fun z4 => k1 z4))
 (br ((x1.2.1 : Int) == 9)
 (c51 x1.2.2.1 0 255
 (fun z5 => k1 z5))
 (br ((x1.2.1 : Int) == 13)
 (c51 x1.2.2.1 0 255
 (fun z6 => k1 z6))
 (br ((x1.2.1 : Int) == 23)
 (br ((x1.2.2.1 : Int) == 1)
 (k1 true)
 (br ((x1.2.2.1 : Int) == 2)
 (k1 true)
 (k1 ((x1.2.2.1 : Int) == 3))))
 (br ((x1.2.1 : Int) == 24)
 (c51 x1.2.2.1 0 3
 (fun z7 => k1 z7))
 (br ((x1.2.1 : Int) == 22)
 (k1 true)
 (k1 ((x1.2.2.1 : Int) == 0)))))))))
structure j69s5 (k1 : Int → Prop) (k2 : Prop) (s1 : Bool) (s2 : tIN) : Prop where
of :
 br (s1)
 (k1 2)
 (c81 s2
 (fun z3 => br (!z3)
 (k1 4)
 (k2)))
structure j69s2 (k1 : Int → Prop) (k2 : Prop) (s1 : Bool) (s2 : tIN) : Prop where
of :
 br (s1)
 (k1 3)
 (br ((s2.2.1 : Int) == 8)
 (br (decide (((↑(List.length s2.2.2.2.1)) : Int) > 16))
 (j69s5
 (fun z3 => k1 z3)
 (k2)
 true s2)
 (br ((s2.2.1 : Int) == 13)
 (j69s5
 (fun z4 => k1 z4)
 (k2)
 (decide (((↑(List.length s2.2.2.2.1)) : Int) > 6)) s2)
 (br ((s2.2.1 : Int) == 14)
 (j69s5
 (fun z5 => k1 z5)
 (k2)
 (decide (((↑(List.length s2.2.2.2.1)) : Int) > 6)) s2)
 (j69s5
 (fun z6 => k1 z6)
 (k2)
 false s2))))
 (br ((s2.2.1 : Int) == 9)
 (br (decide (((↑(List.length s2.2.2.2.1)) : Int) > 16))
 (j69s5
 (fun z7 => k1 z7)
 (k2)
 true s2)
 (br ((s2.2.1 : Int) == 13)
 (j69s5
 (fun z8 => k1 z8)
 (k2)
 (decide (((↑(List.length s2.2.2.2.1)) : Int) > 6)) s2)
 (br ((s2.2.1 : Int) == 14)
 (j69s5
 (fun z9 => k1 z9)
 (k2)
 (decide (((↑(List.length s2.2.2.2.1)) : Int) > 6)) s2)
 (j69s5
 (fun z10 => k1 z10)
 (k2)
 false s2))))
 (br ((s2.2.1 : Int) == 13)
 (j69s5
 (fun z11 => k1 z11)
 (k2)
 (decide (((↑(List.length s2.2.2.2.1)) : Int) > 6)) s2)
 (br ((s2.2.1 : Int) == 14)
 (j69s5
 (fun z12 => k1 z12)
 (k2)
 (decide (((↑(List.length s2.2.2.2.1)) : Int) > 6)) s2)
 (j69s5
 (fun z13 => k1 z13)
 (k2)
 false s2)))))
structure j69r9 (k1 : Int → Prop) : Prop where
of :
 k1 0
structure c69 (x1 : tIN) (k1 : Int → Prop) : Prop where
of :
 c80 x1
 (fun z2 z3 => br (!z3)
 (j69s2
 (fun z4 => k1 z4)
 (j69r9
 (fun z5 => k1 z5)
 )
 true x1)
 (br (decide (z2 ≥ 0))
 (br (((↑(List.length x1.2.2.2.1)) : Int) != z2)
 (j69s2
 (fun z6 => k1 z6)
 (j69r9
 (fun z7 => k1 z7)
 )
 true x1)
 (br ((x1.2.1 : Int) == 14)
 (j69s2
 (fun z8 => k1 z8)
 (j69r9
 (fun z9 => k1 z9)
 )
 (((↑(List.length x1.2.2.2.1)) : Int) == 0) x1)
 (j69s2
 (fun z10 => k1 z10)
 (j69r9
 (fun z11 => k1 z11)
 )
 false x1)))
 (br ((x1.2.1 : Int) == 14)
 (j69s2
 (fun z12 => k1 z12)
 (j69r9
 (fun z13 => k1 z13)
 )
 (((↑(List.length x1.2.2.2.1)) : Int) == 0) x1)
 (j69s2
 (fun z14 => k1 z14)
 (j69r9
 (fun z15 => k1 z15)
 )
 false x1))))
structure l52r10 (k1 : Int → tFU → (List (Int × q0)) → Prop) (k2 : tFU → (List (Int × q0)) → tBK → Prop) (s1 : Int) (s2 : List tIN) (s3 s4 : Int) (s5 : tFU) (s6 : List (Int × q0)) (s7 : tBK) : Prop where
of :
 ∀ (I1 : Int → (List tIN) → Int → Int → tFU → (List (Int × q0)) → tBK → Prop),
 (∀ (s1 : Int) (s2 : List tIN) (s3 s4 : Int) (s5 : tFU) (s6 : List (Int × q0)) (s7 : tBK), (br (decide (s4 < s3))
 (need False (at? s2 s4) fun y8 =>
 c68 y8.1 (s1, (IntKind.wrap .i64 (s4 + 1)), ()) s5 s6
 (fun z9 z10 z11 => br (z9 != 0)
 (k1 z9 z10 z11)
 (c69 y8
 (fun z12 => br (z12 != 0)
 (k1 z12 z10 z11)
 (I1 s1 s2 s3 (IntKind.wrap .i64 (s4 + 1)) z10 z11 s7)))))
 (k2 s5 s6 s7)) → I1 s1 s2 s3 s4 s5 s6 s7) →
 I1 s1 s2 s3 s4 s5 s6 s7
structure j82r14 (k1 : Bool → Prop) (s1 : Int) (s2 s3 s4 : Bool) (s5 : tTM) : Prop where
of :
 br (((↑(List.length s5.2.2.2.2.1)) : Int) == s1)
 (br (s2)
 (br (s3)
 (br (s4)
 (k1 true)
 (k1 (((↑(List.length s5.2.2.2.1)) : Int) == 0)))
 (br ((s5.2.2.1 : Int) == 0)
 (br (s4)
 (k1 true)
 (k1 (((↑(List.length s5.2.2.2.1)) : Int) == 0)))
 (k1 false)))
 (br ((s5.2.1 : Int) == 0)
 (br (s3)
 (br (s4)
 (k1 true)
 (k1 (((↑(List.length s5.2.2.2.1)) : Int) == 0)))
 (br ((s5.2.2.1 : Int) == 0)
 (br (s4)
 (k1 true)
 (k1 (((↑(List.length s5.2.2.2.1)) : Int) == 0)))
 (k1 false)))
 (k1 false)))
 (k1 false)
structure c82 (x1 : tTM) (k1 : Bool → Prop) : Prop where
of :
 br ((x1.1 : Int) == 0)
 (j82r14
 (fun z2 => k1 z2)
 0 true false false x1)
 (br ((x1.1 : Int) == 1)
 (j82r14
 (fun z3 => k1 z3)
 1 false false false x1)
 (br ((x1.1 : Int) == 2)
 (j82r14
 (fun z4 => k1 z4)
 2 true false false x1)
 (br ((x1.1 : Int) == 3)
 (j82r14
 (fun z5 => k1 z5)
 (IntKind.wrap .i64 ((↑(List.length x1.2.2.2.1)) + 1)) true false true x1)
 (br ((x1.1 : Int) == 4)
 (j82r14
 (fun z6 => k1 z6)
 0 false true false x1)
 (k1 false)))))
structure l40r2 (k1 : Int → Prop) (k2 : Prop) (s1 : List Int) (s2 s3 s4 : Int) : Prop where
of :
 ∀ (I1 : (List Int) → Int → Int → Int → Prop),
 (∀ (s1 : List Int) (s2 s3 s4 : Int), (br (decide (s4 < s3))
 (need False (at? s1 s4) fun y5 =>
 br (s2 == y5)
 (k1 s4)
 (I1 s1 s2 s3 (IntKind.wrap .i64 (s4 + 1))))
 (k2)) → I1 s1 s2 s3 s4) →
 I1 s1 s2 s3 s4
structure c40 (x1 : List Int) (x2 : Int) (k1 : Int → Prop) : Prop where
of :
 l40r2
 (fun z3 => k1 z3)
 (k1 (-1))
 x1 x2 (↑(List.length x1)) 0
structure c20 (x1 : List Int) (x2 : Int) (k1 : Bool → Prop) : Prop where
of :
 c40 x1 x2
 (fun z3 => k1 (decide ((z3 : Int) ≥ 0)))
structure l70r8 (k1 : Int → Prop) (k2 : tFU → tTM → Prop) (s1 : List Int) (s2 s3 : Int) (s4 : tFU) (s5 : tTM) : Prop where
of :
 ∀ (I1 : (List Int) → Int → Int → tFU → tTM → Prop),
 (∀ (s1 : List Int) (s2 s3 : Int) (s4 : tFU) (s5 : tTM), (br (decide (s3 < s2))
 (need False (at? s1 s3) fun y6 =>
 c83 y6
 (fun z7 => br (!z7)
 (k1 4)
 (br (decide ((0 : Int) ≤ 0 ∧ (0 : Int) ≤ s3 ∧ (s3 : Int) ≤ (↑(List.length s5.2.2.2.1))))
 (c20 (List.drop 0 (List.take (Int.toNat s3) s5.2.2.2.1)) y6
 (fun z8 => br (z8)
 (k1 7)
 (I1 s1 s2 (IntKind.wrap .i64 (s3 + 1)) s4 s5)))
 False)))
 (k2 s4 s5)) → I1 s1 s2 s3 s4 s5) →
 I1 s1 s2 s3 s4 s5
structure l70r16 (k1 : Int → Prop) (k2 : Prop) (s1 : List tED) (s2 s3 : Int) (s4 : tFU) : Prop where
of :
 ∀ (I1 : (List tED) → Int → Int → tFU → Prop),
 (∀ (s1 : List tED) (s2 s3 : Int) (s4 : tFU), (br (decide (s3 < s2))
 (need False (at? s1 s3) fun y5 =>
 c51 y5.1 1 (IntKind.wrap .i64 ((↑(List.length s4.2.1)) - 1))
 (fun z6 => br (!z6)
 (k1 4)
 (need False (at? s4.2.1 y5.1) fun y7 =>
 (br (true && true)
 (br (eqT (.sl (.pair (.sl (.int .i64)) (.pair (.sl (.pair (.int .i64) (.pair (.int .i64) (.pair (.int .i64) (.pair (.sl (.int .i64)) .unit))))) (.pair (.pair (.int .i64) (.pair (.int .i64) (.pair (.int .i64) (.pair (.sl (.int .i64)) (.pair (.sl (.pair (.int .i64) (.pair (.sl (.int .i64)) .unit))) .unit))))) .unit)))) s4.2.1 s4.2.1)
 (br (true && true)
 (br (eqT (.int .i64) y5.1 y5.1)
 (need False (at? s4.2.1 y5.1) fun y8 =>
 br (eqT (.pair (.sl (.int .i64)) (.pair (.sl (.pair (.int .i64) (.pair (.int .i64) (.pair (.int .i64) (.pair (.sl (.int .i64)) .unit))))) (.pair (.pair (.int .i64) (.pair (.int .i64) (.pair (.int .i64) (.pair (.sl (.int .i64)) (.pair (.sl (.pair (.int .i64) (.pair (.sl (.int .i64)) .unit))) .unit))))) .unit))) y7 y8)
 (br (eqT (.sl (.int .i64)) y7.1 y7.1)
 (br (eqT (.int .i64) (((List.length y5.2.1) : Nat) : Int) (((List.length y5.2.1) : Nat) : Int))
 (br (((↑(List.length y5.2.1)) : Int) != (↑(List.length y7.1)))
 (k1 3)
 (I1 s1 s2 (IntKind.wrap .i64 (s3 + 1)) s4))
 False)
 False)
 False)
 False)
 False)
 False)
 False) ∧
 (br (true && true)
 (br (eqT (.int .i64) (((List.length y7.1) : Nat) : Int) (((List.length y7.1) : Nat) : Int))
 (br (((↑(List.length y5.2.1)) : Int) != (↑(List.length y7.1)))
 (k1 3)
 (I1 s1 s2 (IntKind.wrap .i64 (s3 + 1)) s4))
 False)
 False))))
 (k2)) → I1 s1 s2 s3 s4) →
 I1 s1 s2 s3 s4
structure c70 (x1 : tFU) (x2 : tTM) (k1 : Int → Prop) : Prop where
of :
 c82 x2
 (fun z3 => br (!z3)
 (k1 3)
 (br (decide (((↑(List.length x2.2.2.2.1)) : Int) > 256))
 (k1 2)
 (br ((x2.1 : Int) == 4)
 (c51 x2.2.2.1 1 6
 (fun z4 => br (!z4)
 (k1 4)
 (l70r8
 (fun z5 => k1 z5)
 (fun z6 z7 => l70r16
 (fun z8 => k1 z8)
 (k1 0)
 z7.2.2.2.2.1 (↑(List.length z7.2.2.2.2.1)) 0 z6)
 x2.2.2.2.1 (↑(List.length x2.2.2.2.1)) 0 x1 x2)))
 (l70r8
 (fun z9 => k1 z9)
 (fun z10 z11 => l70r16
 (fun z12 => k1 z12)
 (k1 0)
 z11.2.2.2.2.1 (↑(List.length z11.2.2.2.2.1)) 0 z10)
 x2.2.2.2.1 (↑(List.length x2.2.2.2.1)) 0 x1 x2))))
structure c52 (x1 : Int) (x2 : tFU) (x3 : List (Int × q0)) (k1 : Int → tFU → (List (Int × q0)) → Prop) : Prop where
of :
 need False (at? x2.2.1 x1) fun y4 =>
 l52r3
 (fun z5 z6 z7 => k1 z5 z6 z7)
 (fun z8 z9 z10 z11 => l52r10
 (fun z12 z13 z14 => k1 z12 z13 z14)
 (fun z15 z16 z17 => c70 z15 z17.2.2.1
 (fun z18 => k1 z18 z15 z16))
 z8 z11.2.1 (↑(List.length z11.2.1)) 0 z9 z10 z11)
 x1 y4.1 (↑(List.length y4.1)) 0 x2 x3 y4
structure l37r15 (k1 : Int → Prop) (k2 : tFU → (List (Int × q0)) → Prop) (s1 s2 : Int) (s3 : tFU) (s4 : List (Int × q0)) : Prop where
of :
 ∀ (I1 : Int → Int → tFU → (List (Int × q0)) → Prop),
 (∀ (s1 s2 : Int) (s3 : tFU) (s4 : List (Int × q0)), (br (decide (s2 < s1))
 (c52 s2 s3 s4
 (fun z5 z6 z7 => br (z5 != 0)
 (k1 z5)
 (I1 s1 (IntKind.wrap .i64 (s2 + 1)) z6 z7)))
 (k2 s3 s4)) → I1 s1 s2 s3 s4) →
 I1 s1 s2 s3 s4
structure c84 (x1 : List Int) (x2 : Int) (k1 : (List Int) → Prop) : Prop where
of :
 br (decide ((0 : Int) ≤ (IntKind.wrap .i64 (Int.tdiv x2 64)) ∧ ((IntKind.wrap .i64 (Int.tdiv x2 64)) : Int) < 2))
 (need False (x1)[(Int.toNat (IntKind.wrap .i64 (Int.tdiv x2 64)))]? fun y3 =>
 br (decide (((Int.tmod x2 64) : Int) < 0))
 False
 (br (decide ((0 : Int) ≤ (IntKind.wrap .i64 (Int.tdiv x2 64)) ∧ ((IntKind.wrap .i64 (Int.tdiv x2 64)) : Int) < 2))
 (need False (x1)[(Int.toNat (IntKind.wrap .i64 (Int.tdiv x2 64)))]? fun y4 =>
 k1 (List.set x1 (Int.toNat (IntKind.wrap .i64 (Int.tdiv x2 64))) (bitop .or .u64 y3 (shlI .u64 1 (Int.tmod x2 64)))))
 False))
 False
structure l71r3 (k1 : tFU → (List Int) → (List Int) → Prop) (s1 s2 : Int) (s3 : tFU) (s4 s5 : List Int) : Prop where
of :
 ∀ (I1 : Int → Int → tFU → (List Int) → (List Int) → Prop),
 (∀ (s1 s2 : Int) (s3 : tFU) (s4 s5 : List Int), (br (decide (s2 < s1))
 (c84 s5 s2
 (fun z6 => I1 s1 (IntKind.wrap .i64 (s2 + 1)) s3 s4 z6))
 (k1 s3 s4 s5)) → I1 s1 s2 s3 s4 s5) →
 I1 s1 s2 s3 s4 s5
structure l71r9 (k1 : tFU → (List Int) → (List (List Int)) → Prop) (s1 s2 : Int) (s3 : tFU) (s4 s5 : List Int) (s6 : List (List Int)) : Prop where
of :
 ∀ (I1 : Int → Int → tFU → (List Int) → (List Int) → (List (List Int)) → Prop),
 (∀ (s1 s2 : Int) (s3 : tFU) (s4 s5 : List Int) (s6 : List (List Int)), (br (decide (s2 < s1))
 (br (decide (0 ≤ s2 ∧ s2 < (↑(List.length s6))))
 (need False (s6)[(Int.toNat s2)]? fun y7 =>
 I1 s1 (IntKind.wrap .i64 (s2 + 1)) s3 s4 s5 (List.set s6 (Int.toNat s2) s5))
 False)
 (k1 s3 s4 s6)) → I1 s1 s2 s3 s4 s5 s6) →
 I1 s1 s2 s3 s4 s5 s6
structure c73 (x1 : List Int) (x2 : Int) (k1 : Bool → Prop) : Prop where
of :
 br (decide ((0 : Int) ≤ (IntKind.wrap .i64 (Int.tdiv x2 64)) ∧ ((IntKind.wrap .i64 (Int.tdiv x2 64)) : Int) < 2))
 (need False (x1)[(Int.toNat (IntKind.wrap .i64 (Int.tdiv x2 64)))]? fun y3 =>
 br (decide (((Int.tmod x2 64) : Int) < 0))
 False
 (k1 (((bitop .and .u64 (shrI .u64 y3 (Int.tmod x2 64)) 1) : Int) == 1)))
 False
structure c85 (x1 x2 : List Int) (k1 : (List Int) → Prop) : Prop where
of :
 need False (x1)[0]? fun y3 =>
 need False (x2)[0]? fun y4 =>
 need False (x1)[1]? fun y5 =>
 need False (x2)[1]? fun y6 =>
 k1 [(bitop .and .u64 y3 y4), (bitop .and .u64 y5 y6)]
structure j71r26 (k1 : Bool → Int → (List tBK) → Int → Int → (List tED) → Int → Int → tFU → (List Int) → (List (List Int)) → (List Int) → Prop) (s1 : Bool) (s2 : Int) (s3 : List tBK) (s4 s5 : Int) (s6 : List tED) (s7 s8 : Int) (s9 : tFU) (s10 : List Int) (s11 : List (List Int)) (s12 : List Int) (s13 : tED) (s14 : List Int) : Prop where
of :
 br (decide ((0 : Int) ≤ s13.1 ∧ (s13.1 : Int) < (↑(List.length s11))))
 (need False (s11)[(Int.toNat s13.1)]? fun y15 =>
 br (!(eqT (.arr 2 (.int .u64)) s14 y15))
 (c84 s12 s13.1
 (fun z16 => br (true && true)
 (br (eqT (.int .i64) s13.1 s13.1)
 (br (eqT (.arr 2 (.int .u64)) s14 s14)
 (br (decide ((0 : Int) ≤ s13.1 ∧ (s13.1 : Int) < (↑(List.length s11))))
 (need False (s11)[(Int.toNat s13.1)]? fun y17 =>
 k1 true s2 s3 s4 s5 s6 s7 s8 s9 s10 (List.set s11 (Int.toNat s13.1) s14) z16)
 False)
 False)
 False)
 False))
 (c73 s12 s13.1
 (fun z18 => br (!z18)
 (c84 s12 s13.1
 (fun z19 => br (true && true)
 (br (eqT (.int .i64) s13.1 s13.1)
 (br (eqT (.arr 2 (.int .u64)) s14 s14)
 (br (decide ((0 : Int) ≤ s13.1 ∧ (s13.1 : Int) < (↑(List.length s11))))
 (need False (s11)[(Int.toNat s13.1)]? fun y20 =>
 k1 true s2 s3 s4 s5 s6 s7 s8 s9 s10 (List.set s11 (Int.toNat s13.1) s14) z19)
 False)
 False)
 False)
 False))
 (k1 s1 s2 s3 s4 s5 s6 s7 s8 s9 s10 s11 s12))))
 False
structure l71r23 (k1 : Bool → (List tBK) → Int → Int → tFU → (List Int) → (List (List Int)) → (List Int) → Prop) (s1 : Bool) (s2 : Int) (s3 : List tBK) (s4 s5 : Int) (s6 : List tED) (s7 s8 : Int) (s9 : tFU) (s10 : List Int) (s11 : List (List Int)) (s12 : List Int) : Prop where
of :
 ∀ (I1 : Bool → Int → (List tBK) → Int → Int → (List tED) → Int → Int → tFU → (List Int) → (List (List Int)) → (List Int) → Prop),
 (∀ (s1 : Bool) (s2 : Int) (s3 : List tBK) (s4 s5 : Int) (s6 : List tED) (s7 s8 : Int) (s9 : tFU) (s10 : List Int) (s11 : List (List Int)) (s12 : List Int), (br (decide (s8 < s7))
 (need False (at? s6 s8) fun y13 =>
 br (decide ((0 : Int) ≤ y13.1 ∧ (y13.1 : Int) < (↑(List.length s11))))
 (need False (s11)[(Int.toNat y13.1)]? fun y14 =>
 br (decide (0 ≤ s2 ∧ s2 < (↑(List.length s11))))
 (need False (s11)[(Int.toNat s2)]? fun y15 =>
 (c85 y14 y15
 (fun z16 => br (true && true)
 (br (eqT (.int .i64) y13.1 y13.1)
 ((c84 z16 y13.1
 (fun z17 => j71r26
 (fun z18 z19 z20 z21 z22 z23 z24 z25 z26 z27 z28 z29 => I1 z18 z19 z20 z21 z22 z23 z24 (IntKind.wrap .i64 (z25 + 1)) z26 z27 z28 z29)
 s1 s2 s3 s4 s5 s6 s7 s8 s9 s10 s11 s12 y13 z17)) ∧
 (br (true && true)
 (br (eqT (.int .i64) y13.1 y13.1)
 (c84 z16 y13.1
 (fun z30 => j71r26
 (fun z31 z32 z33 z34 z35 z36 z37 z38 z39 z40 z41 z42 => I1 z31 z32 z33 z34 z35 z36 z37 (IntKind.wrap .i64 (z38 + 1)) z39 z40 z41 z42)
 s1 s2 s3 s4 s5 s6 s7 s8 s9 s10 s11 s12 y13 z30))
 False)
 False))
 False)
 False)) ∧
 (br (true && true)
 (br (eqT (.int .i64) y13.1 y13.1)
 (br (decide ((0 : Int) ≤ y13.1 ∧ (y13.1 : Int) < (↑(List.length s11))))
 (br ((decide ((Int.toNat y13.1) = (Int.toNat y13.1))) && true)
 (need False (s11)[(Int.toNat y13.1)]? fun y43 =>
 br (eqT (.arr 2 (.int .u64)) y14 y43)
 (br (eqT (.int .i64) s2 s2)
 (br (decide (0 ≤ s2 ∧ s2 < (↑(List.length s11))))
 (br ((decide ((Int.toNat s2) = (Int.toNat s2))) && true)
 (need False (s11)[(Int.toNat s2)]? fun y44 =>
 br (eqT (.arr 2 (.int .u64)) y15 y44)
 (br (true && true)
 (br (eqT (.int .i64) y13.1 y13.1)
 (c85 y14 y15
 (fun z45 => br (true && true)
 (br (eqT (.int .i64) y13.1 y13.1)
 (c84 z45 y13.1
 (fun z46 => j71r26
 (fun z47 z48 z49 z50 z51 z52 z53 z54 z55 z56 z57 z58 => I1 z47 z48 z49 z50 z51 z52 z53 (IntKind.wrap .i64 (z54 + 1)) z55 z56 z57 z58)
 s1 s2 s3 s4 s5 s6 s7 s8 s9 s10 s11 s12 y13 z46))
 False)
 False))
 False)
 False)
 False)
 False)
 False)
 False)
 False)
 False)
 False)
 False)
 False))
 False)
 False)
 (k1 s1 s3 s4 s5 s9 s10 s11 s12)) → I1 s1 s2 s3 s4 s5 s6 s7 s8 s9 s10 s11 s12) →
 I1 s1 s2 s3 s4 s5 s6 s7 s8 s9 s10 s11 s12
structure l71r19 (k1 : Bool → tFU → (List Int) → (List (List Int)) → (List Int) → Prop) (s1 : Bool) (s2 : List tBK) (s3 s4 : Int) (s5 : tFU) (s6 : List Int) (s7 : List (List Int)) (s8 : List Int) : Prop where
of :
 ∀ (I1 : Bool → (List tBK) → Int → Int → tFU → (List Int) → (List (List Int)) → (List Int) → Prop),
 (∀ (s1 : Bool) (s2 : List tBK) (s3 s4 : Int) (s5 : tFU) (s6 : List Int) (s7 : List (List Int)) (s8 : List Int), (br (decide (s4 < s3))
 (need False (at? s2 s4) fun y9 =>
 c73 s8 s4
 (fun z10 => br (!z10)
 (I1 s1 s2 s3 (IntKind.wrap .i64 (s4 + 1)) s5 s6 s7 s8)
 (l71r23
 (fun z11 z12 z13 z14 z15 z16 z17 z18 => I1 z11 z12 z13 (IntKind.wrap .i64 (z14 + 1)) z15 z16 z17 z18)
 s1 s4 s2 s3 s4 y9.2.2.1.2.2.2.2.1 (↑(List.length y9.2.2.1.2.2.2.2.1)) 0 s5 s6 s7 s8)))
 (k1 s1 s5 s6 s7 s8)) → I1 s1 s2 s3 s4 s5 s6 s7 s8) →
 I1 s1 s2 s3 s4 s5 s6 s7 s8
structure l71r16 (k1 : (List Int) → (List (List Int)) → (List Int) → Prop) (s1 : Bool) (s2 : tFU) (s3 : List Int) (s4 : List (List Int)) (s5 : List Int) : Prop where
of :
 ∀ (I1 : Bool → tFU → (List Int) → (List (List Int)) → (List Int) → Prop),
 (∀ (s1 : Bool) (s2 : tFU) (s3 : List Int) (s4 : List (List Int)) (s5 : List Int), (br (s1)
 (l71r19
 (fun z6 z7 z8 z9 z10 => I1 z6 z7 z8 z9 z10)
 false s2.2.1 (↑(List.length s2.2.1)) 0 s2 s3 s4 s5)
 (k1 s3 s4 s5)) → I1 s1 s2 s3 s4 s5) →
 I1 s1 s2 s3 s4 s5
structure c71 (x1 : tFU) (k1 : (List Int) → (List (List Int)) → Prop) : Prop where
of :
 l71r3
 (fun z2 z3 z4 => br (decide ((0 : Int) ≤ (↑(List.length z2.2.1)) ∧ ((↑(List.length z2.2.1)) : Int) ≤ (↑(List.length z2.2.1)) ∧ (((↑(List.length z2.2.1)) * 16) : Int) ≤ 140737488355328))
 (l71r9
 (fun z5 z6 z7 => c84 [0, 0] 0
 (fun z8 => br (decide ((0 : Int) ≤ 0 ∧ (0 : Int) < (↑(List.length z7))))
 (need False (z7)[0]? fun y9 =>
 c84 [0, 0] 0
 (fun z10 => l71r16
 (fun z11 z12 z13 => k1 z13 z12)
 true z5 z6 (List.set z7 0 z8) z10))
 False))
 (↑(List.length (List.replicate (Int.toNat (↑(List.length z2.2.1))) ([0, 0] : List (Int))))) 0 z2 z3 z4 (List.replicate (Int.toNat (↑(List.length z2.2.1))) ([0, 0] : List (Int))))
 False)
 (↑(List.length x1.2.1)) 0 x1 [0, 0] [0, 0]
structure c72 (x1 : Int) (x2 : tFU) (x3 : List (Int × q0)) (x4 x5 : Int) (x6 : List (List Int)) (x7 : List Int) (k1 : Bool → tFU → (List (Int × q0)) → Int → Int → (List (List Int)) → (List Int) → Prop) : Prop where
of :
 br (mhas x3 x1)
 (br (((mval (0, 0, ()) x3 x1).1 : Int) == x4)
 (br (decide (((mval (0, 0, ()) x3 x1).2.1 : Int) ≤ x5))
 (k1 true x2 x3 x4 x5 x6 x7)
 (br (((mval (0, 0, ()) x3 x1).1 : Int) != x4)
 (br (decide (0 ≤ x4 ∧ x4 < (↑(List.length x6))))
 (need False (x6)[(Int.toNat x4)]? fun y8 =>
 c73 y8 (mval (0, 0, ()) x3 x1).1
 (fun z9 => br (z9)
 (k1 true x2 x3 x4 x5 x6 x7)
 (c73 x7 x4
 (fun z10 => k1 (!z10) x2 x3 x4 x5 x6 x7))))
 False)
 (c73 x7 x4
 (fun z11 => k1 (!z11) x2 x3 x4 x5 x6 x7))))
 (br (((mval (0, 0, ()) x3 x1).1 : Int) != x4)
 (br (decide (0 ≤ x4 ∧ x4 < (↑(List.length x6))))
 (need False (x6)[(Int.toNat x4)]? fun y12 =>
 c73 y12 (mval (0, 0, ()) x3 x1).1
 (fun z13 => br (z13)
 (k1 true x2 x3 x4 x5 x6 x7)
 (c73 x7 x4
 (fun z14 => k1 (!z14) x2 x3 x4 x5 x6 x7))))
 False)
 (c73 x7 x4
 (fun z15 => k1 (!z15) x2 x3 x4 x5 x6 x7))))
 (k1 false x2 x3 x4 x5 x6 x7)
structure l53r12 (k1 : Int → tFU → (List (Int × q0)) → Prop) (k2 : (List tBK) → Int → Int → (List tIN) → Int → Int → tFU → (List (Int × q0)) → (List (List Int)) → (List Int) → tBK → Int → Int → Prop) (s1 : List tBK) (s2 s3 : Int) (s4 : List tIN) (s5 s6 : Int) (s7 : List Int) (s8 s9 : Int) (s10 : tFU) (s11 : List (Int × q0)) (s12 : List (List Int)) (s13 : List Int) (s14 : tBK) (s15 s16 : Int) : Prop where
of :
 ∀ (I1 : (List tBK) → Int → Int → (List tIN) → Int → Int → (List Int) → Int → Int → tFU → (List (Int × q0)) → (List (List Int)) → (List Int) → tBK → Int → Int → Prop),
 (∀ (s1 : List tBK) (s2 s3 : Int) (s4 : List tIN) (s5 s6 : Int) (s7 : List Int) (s8 s9 : Int) (s10 : tFU) (s11 : List (Int × q0)) (s12 : List (List Int)) (s13 : List Int) (s14 : tBK) (s15 s16 : Int), (br (decide (s9 < s8))
 (need False (at? s7 s9) fun y17 =>
 c72 y17 s10 s11 s16 s15 s12 s13
 (fun z18 z19 z20 z21 z22 z23 z24 => br (!z18)
 (k1 6 z19 z20)
 (I1 s1 s2 s3 s4 s5 s6 s7 s8 (IntKind.wrap .i64 (s9 + 1)) z19 z20 z23 z24 s14 z22 z21)))
 (k2 s1 s2 s3 s4 s5 s6 s10 s11 s12 s13 s14 s15 s16)) → I1 s1 s2 s3 s4 s5 s6 s7 s8 s9 s10 s11 s12 s13 s14 s15 s16) →
 I1 s1 s2 s3 s4 s5 s6 s7 s8 s9 s10 s11 s12 s13 s14 s15 s16
structure l53r8 (k1 : Int → tFU → (List (Int × q0)) → Prop) (k2 : (List tBK) → Int → Int → tFU → (List (Int × q0)) → (List (List Int)) → (List Int) → tBK → Int → Int → Prop) (s1 : List tBK) (s2 s3 : Int) (s4 : List tIN) (s5 s6 : Int) (s7 : tFU) (s8 : List (Int × q0)) (s9 : List (List Int)) (s10 : List Int) (s11 : tBK) (s12 s13 : Int) : Prop where
of :
 ∀ (I1 : (List tBK) → Int → Int → (List tIN) → Int → Int → tFU → (List (Int × q0)) → (List (List Int)) → (List Int) → tBK → Int → Int → Prop),
 (∀ (s1 : List tBK) (s2 s3 : Int) (s4 : List tIN) (s5 s6 : Int) (s7 : tFU) (s8 : List (Int × q0)) (s9 : List (List Int)) (s10 : List Int) (s11 : tBK) (s12 s13 : Int), (br (decide (s6 < s5))
 (need False (at? s4 s6) fun y14 =>
 l53r12
 (fun z15 z16 z17 => k1 z15 z16 z17)
 (fun z18 z19 z20 z21 z22 z23 z24 z25 z26 z27 z28 z29 z30 => I1 z18 z19 z20 z21 z22 (IntKind.wrap .i64 (z23 + 1)) z24 z25 z26 z27 z28 z29 z30)
 s1 s2 s3 s4 s5 s6 y14.2.2.2.1 (↑(List.length y14.2.2.2.1)) 0 s7 s8 s9 s10 s11 s6 s13)
 (k2 s1 s2 s3 s7 s8 s9 s10 s11 s12 s13)) → I1 s1 s2 s3 s4 s5 s6 s7 s8 s9 s10 s11 s12 s13) →
 I1 s1 s2 s3 s4 s5 s6 s7 s8 s9 s10 s11 s12 s13
structure l74r7 (k1 : Bool → tFU → (List (Int × q0)) → Int → Int → (List (List Int)) → (List Int) → Prop) (k2 : (List tED) → Int → Int → tFU → (List (Int × q0)) → Int → Int → (List (List Int)) → (List Int) → Prop) (s1 : List tED) (s2 s3 : Int) (s4 : List Int) (s5 s6 : Int) (s7 : tFU) (s8 : List (Int × q0)) (s9 s10 : Int) (s11 : List (List Int)) (s12 : List Int) : Prop where
of :
 ∀ (I1 : (List tED) → Int → Int → (List Int) → Int → Int → tFU → (List (Int × q0)) → Int → Int → (List (List Int)) → (List Int) → Prop),
 (∀ (s1 : List tED) (s2 s3 : Int) (s4 : List Int) (s5 s6 : Int) (s7 : tFU) (s8 : List (Int × q0)) (s9 s10 : Int) (s11 : List (List Int)) (s12 : List Int), (br (decide (s6 < s5))
 (need False (at? s4 s6) fun y13 =>
 c72 y13 s7 s8 s9 s10 s11 s12
 (fun z14 z15 z16 z17 z18 z19 z20 => br (!z14)
 (k1 false z15 z16 z17 z18 z19 z20)
 (I1 s1 s2 s3 s4 s5 (IntKind.wrap .i64 (s6 + 1)) z15 z16 z17 z18 z19 z20)))
 (k2 s1 s2 s3 s7 s8 s9 s10 s11 s12)) → I1 s1 s2 s3 s4 s5 s6 s7 s8 s9 s10 s11 s12) →
 I1 s1 s2 s3 s4 s5 s6 s7 s8 s9 s10 s11 s12
structure l74r4 (k1 : Bool → tFU → (List (Int × q0)) → Int → Int → (List (List Int)) → (List Int) → Prop) (k2 : tFU → (List (Int × q0)) → Int → Int → (List (List Int)) → (List Int) → Prop) (s1 : List tED) (s2 s3 : Int) (s4 : tFU) (s5 : List (Int × q0)) (s6 s7 : Int) (s8 : List (List Int)) (s9 : List Int) : Prop where
of :
 ∀ (I1 : (List tED) → Int → Int → tFU → (List (Int × q0)) → Int → Int → (List (List Int)) → (List Int) → Prop),
 (∀ (s1 : List tED) (s2 s3 : Int) (s4 : tFU) (s5 : List (Int × q0)) (s6 s7 : Int) (s8 : List (List Int)) (s9 : List Int), (br (decide (s3 < s2))
 (need False (at? s1 s3) fun y10 =>
 l74r7
 (fun z11 z12 z13 z14 z15 z16 z17 => k1 z11 z12 z13 z14 z15 z16 z17)
 (fun z18 z19 z20 z21 z22 z23 z24 z25 z26 => I1 z18 z19 (IntKind.wrap .i64 (z20 + 1)) z21 z22 z23 z24 z25 z26)
 s1 s2 s3 y10.2.1 (↑(List.length y10.2.1)) 0 s4 s5 s6 s7 s8 s9)
 (k2 s4 s5 s6 s7 s8 s9)) → I1 s1 s2 s3 s4 s5 s6 s7 s8 s9) →
 I1 s1 s2 s3 s4 s5 s6 s7 s8 s9
structure c74 (x1 : tTM) (x2 : tFU) (x3 : List (Int × q0)) (x4 x5 : Int) (x6 : List (List Int)) (x7 : List Int) (k1 : Bool → tFU → (List (Int × q0)) → Int → Int → (List (List Int)) → (List Int) → Prop) : Prop where
of :
 br ((x1.1 : Int) != 1)
 (br ((x1.1 : Int) != 4)
 (c72 x1.2.1 x2 x3 x4 x5 x6 x7
 (fun z8 z9 z10 z11 z12 z13 z14 => br (!z8)
 (k1 false z9 z10 z11 z12 z13 z14)
 (l74r4
 (fun z15 z16 z17 z18 z19 z20 z21 => k1 z15 z16 z17 z18 z19 z20 z21)
 (fun z22 z23 z24 z25 z26 z27 => k1 true z22 z23 z24 z25 z26 z27)
 x1.2.2.2.2.1 (↑(List.length x1.2.2.2.2.1)) 0 z9 z10 z11 z12 z13 z14)))
 (l74r4
 (fun z28 z29 z30 z31 z32 z33 z34 => k1 z28 z29 z30 z31 z32 z33 z34)
 (fun z35 z36 z37 z38 z39 z40 => k1 true z35 z36 z37 z38 z39 z40)
 x1.2.2.2.2.1 (↑(List.length x1.2.2.2.2.1)) 0 x2 x3 x4 x5 x6 x7))
 (l74r4
 (fun z41 z42 z43 z44 z45 z46 z47 => k1 z41 z42 z43 z44 z45 z46 z47)
 (fun z48 z49 z50 z51 z52 z53 => k1 true z48 z49 z50 z51 z52 z53)
 x1.2.2.2.2.1 (↑(List.length x1.2.2.2.2.1)) 0 x2 x3 x4 x5 x6 x7)
structure l53r3 (k1 : Int → tFU → (List (Int × q0)) → Prop) (k2 : tFU → (List (Int × q0)) → Prop) (s1 : List tBK) (s2 s3 : Int) (s4 : tFU) (s5 : List (Int × q0)) (s6 : List (List Int)) (s7 : List Int) : Prop where
of :
 ∀ (I1 : (List tBK) → Int → Int → tFU → (List (Int × q0)) → (List (List Int)) → (List Int) → Prop),
 (∀ (s1 : List tBK) (s2 s3 : Int) (s4 : tFU) (s5 : List (Int × q0)) (s6 : List (List Int)) (s7 : List Int), (br (decide (s3 < s2))
 (need False (at? s1 s3) fun y8 =>
 l53r8
 (fun z9 z10 z11 => k1 z9 z10 z11)
 (fun z12 z13 z14 z15 z16 z17 z18 z19 z20 z21 => c74 z19.2.2.1 z15 z16 z21 (↑(List.length z19.2.1)) z17 z18
 (fun z22 z23 z24 z25 z26 z27 z28 => br (!z22)
 (k1 6 z23 z24)
 (I1 z12 z13 (IntKind.wrap .i64 (z14 + 1)) z23 z24 z27 z28)))
 s1 s2 s3 y8.2.1 (↑(List.length y8.2.1)) 0 s4 s5 s6 s7 y8 0 s3)
 (k2 s4 s5)) → I1 s1 s2 s3 s4 s5 s6 s7) →
 I1 s1 s2 s3 s4 s5 s6 s7
structure c53 (x1 : tFU) (x2 : List (Int × q0)) (k1 : Int → tFU → (List (Int × q0)) → Prop) : Prop where
of :
 c71 x1
 (fun z3 z4 => l53r3
 (fun z5 z6 z7 => k1 z5 z6 z7)
 (fun z8 z9 => k1 0 z8 z9)
 x1.2.1 (↑(List.length x1.2.1)) 0 x1 x2 z4 z3)
structure c37 (x1 : tFU) (k1 : Int → Prop) : Prop where
of :
 l37r3
 (fun z2 z3 => br (((↑(List.length z3.2.1)) : Int) == 0)
 (k1 3)
 (br (decide (((↑(List.length z3.2.1)) : Int) > 128))
 (k1 2)
 (br (decide (z2 > 1024))
 (k1 2)
 (need False (at? z3.2.1 0) fun y4 =>
 br (decide (((↑(List.length y4.1)) : Int) > 6))
 (k1 2)
 (c51 z3.1 (-1) 1048575
 (fun z5 => br (!z5)
 (k1 4)
 (l37r15
 (fun z6 => k1 z6)
 (fun z7 z8 => c53 z7 z8
 (fun z9 z10 z11 => k1 z9))
 (↑(List.length z3.2.1)) 0 z3 [])))))))
 0 x1.2.1 (↑(List.length x1.2.1)) 0 x1
structure c49 (x1 : Int) (x2 : List Int) (k1 : (List Int) → Prop) : Prop where
of :
 br (roomB ((List.length x2) + 1) 8)
 (k1 (x2 ++ [x1]))
 False
structure l48r4 (k1 k2 : (List Int) → Prop) (s1 : List Int) (s2 : tFU) (s3 : List Bool) (s4 : List q0) : Prop where
of :
 ∀ (I1 : (List Int) → tFU → (List Bool) → (List q0) → Prop) (I2 : Nat → Nat → Nat → (List Int) → tFU → (List Bool) → (List q0) → Prop) (I3 : (List Int) → tFU → (List Bool) → (List q0) → Prop),
 (∀ (s1 : List Int) (s2 : tFU) (s3 : List Bool) (s4 : List q0), (br (decide (((↑(List.length s4)) : Int) > 0))
 (br (decide ((0 : Int) ≤ (IntKind.wrap .i64 ((↑(List.length s4)) - 1)) ∧ ((IntKind.wrap .i64 ((↑(List.length s4)) - 1)) : Int) < (↑(List.length s4))))
 (need False (s4)[(Int.toNat (IntKind.wrap .i64 ((↑(List.length s4)) - 1)))]? fun y5 =>
 need False (at? s2.2.1 y5.1) fun y6 =>
 need False (s4)[(Int.toNat (IntKind.wrap .i64 ((↑(List.length s4)) - 1)))]? fun y7 =>
 br ((y7.2.1 : Int) == (↑(List.length y6.2.2.1.2.2.2.2.1)))
 (need False (s4)[(Int.toNat (IntKind.wrap .i64 ((↑(List.length s4)) - 1)))]? fun y8 =>
 c49 y8.1 s1
 (fun z9 => br (decide ((0 : Int) ≤ 0 ∧ (0 : Int) ≤ (IntKind.wrap .i64 ((↑(List.length s4)) - 1)) ∧ ((IntKind.wrap .i64 ((↑(List.length s4)) - 1)) : Int) ≤ (↑(List.length s4)) ∧ ((↑(List.length s4)) : Int) ≤ (↑(List.length s4))))
 (I2 0 (Int.toNat ((IntKind.wrap .i64 ((↑(List.length s4)) - 1)) - 0)) (Int.toNat ((↑(List.length s4)) - 0)) z9 s2 s3 s4)
 False))
 (need False (s4)[(Int.toNat (IntKind.wrap .i64 ((↑(List.length s4)) - 1)))]? fun y10 =>
 need False (at? y6.2.2.1.2.2.2.2.1 y10.2.1) fun y11 =>
 need False (s4)[(Int.toNat (IntKind.wrap .i64 ((↑(List.length s4)) - 1)))]? fun y12 =>
 need False (s4)[(Int.toNat (IntKind.wrap .i64 ((↑(List.length s4)) - 1)))]? fun y13 =>
 br (decide ((0 : Int) ≤ y11.1 ∧ (y11.1 : Int) < (↑(List.length s3))))
 (need False (s3)[(Int.toNat y11.1)]? fun y14 =>
 br (!y14)
 (br (decide ((0 : Int) ≤ y11.1 ∧ (y11.1 : Int) < (↑(List.length s3))))
 (need False (s3)[(Int.toNat y11.1)]? fun y15 =>
 br (roomB ((List.length (List.set s4 (Int.toNat (IntKind.wrap .i64 ((↑(List.length s4)) - 1))) (y13.1, (IntKind.wrap .i64 (y12.2.1 + 1)), y13.2.2))) + 1) 16)
 (I1 s1 s2 (List.set s3 (Int.toNat y11.1) true) ((List.set s4 (Int.toNat (IntKind.wrap .i64 ((↑(List.length s4)) - 1))) (y13.1, (IntKind.wrap .i64 (y12.2.1 + 1)), y13.2.2)) ++ [(y11.1, 0, ())]))
 False)
 False)
 (I1 s1 s2 s3 (List.set s4 (Int.toNat (IntKind.wrap .i64 ((↑(List.length s4)) - 1))) (y13.1, (IntKind.wrap .i64 (y12.2.1 + 1)), y13.2.2))))
 False))
 False)
 (k1 s1)) → I1 s1 s2 s3 s4) →
 (∀ (s16 s17 s18 : Nat) (s19 : List Int) (s20 : tFU) (s21 : List Bool) (s22 : List q0), (br (decide ((((s17 : Nat) : Int) : Int) > 0))
 (br (decide ((0 : Int) ≤ (IntKind.wrap .i64 (((s17 : Nat) : Int) - 1)) ∧ ((IntKind.wrap .i64 (((s17 : Nat) : Int) - 1)) : Int) < ((s17 : Nat) : Int)))
 (need False (s22)[(s16 + (Int.toNat (IntKind.wrap .i64 (((s17 : Nat) : Int) - 1))))]? fun y23 =>
 need False (at? s20.2.1 y23.1) fun y24 =>
 need False (s22)[(s16 + (Int.toNat (IntKind.wrap .i64 (((s17 : Nat) : Int) - 1))))]? fun y25 =>
 br ((y25.2.1 : Int) == (↑(List.length y24.2.2.1.2.2.2.2.1)))
 (need False (s22)[(s16 + (Int.toNat (IntKind.wrap .i64 (((s17 : Nat) : Int) - 1))))]? fun y26 =>
 c49 y26.1 s19
 (fun z27 => br (decide ((0 : Int) ≤ 0 ∧ (0 : Int) ≤ (IntKind.wrap .i64 (((s17 : Nat) : Int) - 1)) ∧ ((IntKind.wrap .i64 (((s17 : Nat) : Int) - 1)) : Int) ≤ ((s18 : Nat) : Int) ∧ (((s18 : Nat) : Int) : Int) ≤ ((s18 : Nat) : Int)))
 (I2 (s16 + 0) (Int.toNat ((IntKind.wrap .i64 (((s17 : Nat) : Int) - 1)) - 0)) (Int.toNat (((s18 : Nat) : Int) - 0)) z27 s20 s21 s22)
 False))
 (need False (s22)[(s16 + (Int.toNat (IntKind.wrap .i64 (((s17 : Nat) : Int) - 1))))]? fun y28 =>
 need False (at? y24.2.2.1.2.2.2.2.1 y28.2.1) fun y29 =>
 need False (s22)[(s16 + (Int.toNat (IntKind.wrap .i64 (((s17 : Nat) : Int) - 1))))]? fun y30 =>
 need False (s22)[(s16 + (Int.toNat (IntKind.wrap .i64 (((s17 : Nat) : Int) - 1))))]? fun y31 =>
 br (decide ((0 : Int) ≤ y29.1 ∧ (y29.1 : Int) < (↑(List.length s21))))
 (need False (s21)[(Int.toNat y29.1)]? fun y32 =>
 br (!y32)
 (br (decide ((0 : Int) ≤ y29.1 ∧ (y29.1 : Int) < (↑(List.length s21))))
 (need False (s21)[(Int.toNat y29.1)]? fun y33 =>
 br (decide ((s17 + 1) ≤ s18))
 (I2 s16 (s17 + 1) s18 s19 s20 (List.set s21 (Int.toNat y29.1) true) (((List.take (s16 + s17) (List.set s22 (s16 + (Int.toNat (IntKind.wrap .i64 (((s17 : Nat) : Int) - 1)))) (y31.1, (IntKind.wrap .i64 (y30.2.1 + 1)), y31.2.2))) ++ [(y29.1, 0, ())]) ++ (List.drop ((s16 + s17) + 1) (List.set s22 (s16 + (Int.toNat (IntKind.wrap .i64 (((s17 : Nat) : Int) - 1)))) (y31.1, (IntKind.wrap .i64 (y30.2.1 + 1)), y31.2.2)))))
 (br (roomB (s17 + 1) 16)
 (br (decide (s16 = 0))
 (I3 s19 s20 (List.set s21 (Int.toNat y29.1) true) ((List.take s17 (List.set s22 (s16 + (Int.toNat (IntKind.wrap .i64 (((s17 : Nat) : Int) - 1)))) (y31.1, (IntKind.wrap .i64 (y30.2.1 + 1)), y31.2.2))) ++ [(y29.1, 0, ())]))
 ((I3 s19 s20 (List.set s21 (Int.toNat y29.1) true) ((List.take s17 (List.drop s16 (List.set s22 (s16 + (Int.toNat (IntKind.wrap .i64 (((s17 : Nat) : Int) - 1)))) (y31.1, (IntKind.wrap .i64 (y30.2.1 + 1)), y31.2.2)))) ++ [(y29.1, 0, ())])) ∧
 (I2 s16 (s17 + 1) (s17 + 1) s19 s20 (List.set s21 (Int.toNat y29.1) true) ((List.take (s16 + s17) (List.set s22 (s16 + (Int.toNat (IntKind.wrap .i64 (((s17 : Nat) : Int) - 1)))) (y31.1, (IntKind.wrap .i64 (y30.2.1 + 1)), y31.2.2))) ++ [(y29.1, 0, ())]))))
 False))
 False)
 (I2 s16 s17 s18 s19 s20 s21 (List.set s22 (s16 + (Int.toNat (IntKind.wrap .i64 (((s17 : Nat) : Int) - 1)))) (y31.1, (IntKind.wrap .i64 (y30.2.1 + 1)), y31.2.2))))
 False))
 False)
 (k2 s19)) → I2 s16 s17 s18 s19 s20 s21 s22) →
 (∀ (s34 : List Int) (s35 : tFU) (s36 : List Bool) (s37 : List q0), (br (decide (((↑(List.length s37)) : Int) > 0))
 (br (decide ((0 : Int) ≤ (IntKind.wrap .i64 ((↑(List.length s37)) - 1)) ∧ ((IntKind.wrap .i64 ((↑(List.length s37)) - 1)) : Int) < (↑(List.length s37))))
 (need False (s37)[(Int.toNat (IntKind.wrap .i64 ((↑(List.length s37)) - 1)))]? fun y38 =>
 need False (at? s35.2.1 y38.1) fun y39 =>
 need False (s37)[(Int.toNat (IntKind.wrap .i64 ((↑(List.length s37)) - 1)))]? fun y40 =>
 br ((y40.2.1 : Int) == (↑(List.length y39.2.2.1.2.2.2.2.1)))
 (need False (s37)[(Int.toNat (IntKind.wrap .i64 ((↑(List.length s37)) - 1)))]? fun y41 =>
 c49 y41.1 s34
 (fun z42 => br (decide ((0 : Int) ≤ 0 ∧ (0 : Int) ≤ (IntKind.wrap .i64 ((↑(List.length s37)) - 1)) ∧ ((IntKind.wrap .i64 ((↑(List.length s37)) - 1)) : Int) ≤ (↑(List.length s37)) ∧ ((↑(List.length s37)) : Int) ≤ (↑(List.length s37))))
 (I2 0 (Int.toNat ((IntKind.wrap .i64 ((↑(List.length s37)) - 1)) - 0)) (Int.toNat ((↑(List.length s37)) - 0)) z42 s35 s36 s37)
 False))
 (need False (s37)[(Int.toNat (IntKind.wrap .i64 ((↑(List.length s37)) - 1)))]? fun y43 =>
 need False (at? y39.2.2.1.2.2.2.2.1 y43.2.1) fun y44 =>
 need False (s37)[(Int.toNat (IntKind.wrap .i64 ((↑(List.length s37)) - 1)))]? fun y45 =>
 need False (s37)[(Int.toNat (IntKind.wrap .i64 ((↑(List.length s37)) - 1)))]? fun y46 =>
 br (decide ((0 : Int) ≤ y44.1 ∧ (y44.1 : Int) < (↑(List.length s36))))
 (need False (s36)[(Int.toNat y44.1)]? fun y47 =>
 br (!y47)
 (br (decide ((0 : Int) ≤ y44.1 ∧ (y44.1 : Int) < (↑(List.length s36))))
 (need False (s36)[(Int.toNat y44.1)]? fun y48 =>
 br (roomB ((List.length (List.set s37 (Int.toNat (IntKind.wrap .i64 ((↑(List.length s37)) - 1))) (y46.1, (IntKind.wrap .i64 (y45.2.1 + 1)), y46.2.2))) + 1) 16)
 (I3 s34 s35 (List.set s36 (Int.toNat y44.1) true) ((List.set s37 (Int.toNat (IntKind.wrap .i64 ((↑(List.length s37)) - 1))) (y46.1, (IntKind.wrap .i64 (y45.2.1 + 1)), y46.2.2)) ++ [(y44.1, 0, ())]))
 False)
 False)
 (I3 s34 s35 s36 (List.set s37 (Int.toNat (IntKind.wrap .i64 ((↑(List.length s37)) - 1))) (y46.1, (IntKind.wrap .i64 (y45.2.1 + 1)), y46.2.2))))
 False))
 False)
 (k2 s34)) → I3 s34 s35 s36 s37) →
 I1 s1 s2 s3 s4
structure c48 (x1 : tFU) (x2 : List Int) (k1 k2 : (List Int) → Prop) : Prop where
of :
 br (decide ((0 : Int) ≤ (↑(List.length x1.2.1)) ∧ ((↑(List.length x1.2.1)) : Int) ≤ (↑(List.length x1.2.1)) ∧ (((↑(List.length x1.2.1)) * 1) : Int) ≤ 140737488355328))
 (br (decide ((0 : Int) ≤ 0 ∧ (0 : Int) < (↑(List.length (List.replicate (Int.toNat (↑(List.length x1.2.1))) (false : Bool))))))
 (need False ((List.replicate (Int.toNat (↑(List.length x1.2.1))) (false : Bool)))[0]? fun y3 =>
 l48r4
 (fun z4 => k1 z4)
 (fun z5 => k2 z5)
 x2 x1 (List.set (List.replicate (Int.toNat (↑(List.length x1.2.1))) (false : Bool)) 0 true) [(0, 0, ())])
 False)
 False
structure l50r1 (k1 : (List Int) → Prop) (s1 s2 : Int) (s3 : List Int) : Prop where
of :
 ∀ (I1 : Int → Int → (List Int) → Prop),
 (∀ (s1 s2 : Int) (s3 : List Int), (br (decide (s1 < s2))
 (br (decide (0 ≤ s2 ∧ s2 < (↑(List.length s3))))
 (need False (s3)[(Int.toNat s2)]? fun y4 =>
 br (decide (0 ≤ s1 ∧ s1 < (↑(List.length s3))))
 (need False (s3)[(Int.toNat s1)]? fun y5 =>
 br (decide (0 ≤ s1 ∧ s1 < (↑(List.length s3))))
 (need False (s3)[(Int.toNat s1)]? fun y6 =>
 br (eqT (.int .i64) s2 s2)
 (br (decide (0 ≤ s2 ∧ s2 < (↑(List.length (List.set s3 (Int.toNat s1) y4)))))
 (need False ((List.set s3 (Int.toNat s1) y4))[(Int.toNat s2)]? fun y7 =>
 I1 (IntKind.wrap .i64 (s1 + 1)) (IntKind.wrap .i64 (s2 - 1)) (List.set (List.set s3 (Int.toNat s1) y4) (Int.toNat s2) y5))
 False)
 False)
 False)
 False)
 False)
 (k1 s3)) → I1 s1 s2 s3) →
 I1 s1 s2 s3
structure c50 (x1 : List Int) (k1 : (List Int) → Prop) : Prop where
of :
 l50r1
 (fun z2 => k1 z2)
 0 (IntKind.wrap .i64 ((↑(List.length x1)) - 1)) x1
structure c36 (x1 : tFU) (k1 : Int → (List Int) → Prop) : Prop where
of :
 c37 x1
 (fun z2 => br (z2 != 0)
 (k1 z2 [])
 (c48 x1 []
 (fun z3 => c50 z3
 (fun z4 => k1 0 z4))
 (fun z5 => c50 z5
 (fun z6 => k1 0 z6))))
structure c64 (x1 : Int) (k1 : Int → Prop) : Prop where
of :
 br (decide (x1 ≥ 4294967296))
 (br (decide (((shrI .u64 x1 32) : Int) ≥ 65536))
 (br (decide (((shrI .u64 (shrI .u64 x1 32) 16) : Int) ≥ 256))
 (need False (at? tab8 (IntKind.wrap .u8 (shrI .u64 (shrI .u64 (shrI .u64 x1 32) 16) 8))) fun y2 =>
 k1 (IntKind.wrap .i64 (56 + (IntKind.wrap .i64 (UInt8.toNat y2 : Int)))))
 (need False (at? tab8 (IntKind.wrap .u8 (shrI .u64 (shrI .u64 x1 32) 16))) fun y3 =>
 k1 (IntKind.wrap .i64 (48 + (IntKind.wrap .i64 (UInt8.toNat y3 : Int))))))
 (br (decide (((shrI .u64 x1 32) : Int) ≥ 256))
 (need False (at? tab8 (IntKind.wrap .u8 (shrI .u64 (shrI .u64 x1 32) 8))) fun y4 =>
 k1 (IntKind.wrap .i64 (40 + (IntKind.wrap .i64 (UInt8.toNat y4 : Int)))))
 (need False (at? tab8 (IntKind.wrap .u8 (shrI .u64 x1 32))) fun y5 =>
 k1 (IntKind.wrap .i64 (32 + (IntKind.wrap .i64 (UInt8.toNat y5 : Int)))))))
 (br (decide (x1 ≥ 65536))
 (br (decide (((shrI .u64 x1 16) : Int) ≥ 256))
 (need False (at? tab8 (IntKind.wrap .u8 (shrI .u64 (shrI .u64 x1 16) 8))) fun y6 =>
 k1 (IntKind.wrap .i64 (24 + (IntKind.wrap .i64 (UInt8.toNat y6 : Int)))))
 (need False (at? tab8 (IntKind.wrap .u8 (shrI .u64 x1 16))) fun y7 =>
 k1 (IntKind.wrap .i64 (16 + (IntKind.wrap .i64 (UInt8.toNat y7 : Int))))))
 (br (decide (x1 ≥ 256))
 (need False (at? tab8 (IntKind.wrap .u8 (shrI .u64 x1 8))) fun y8 =>
 k1 (IntKind.wrap .i64 (8 + (IntKind.wrap .i64 (UInt8.toNat y8 : Int)))))
 (need False (at? tab8 (IntKind.wrap .u8 x1)) fun y9 =>
 k1 (IntKind.wrap .i64 (0 + (IntKind.wrap .i64 (UInt8.toNat y9 : Int)))))))
structure c42 (x1 : Int) (k1 : Int → Prop) : Prop where
of :
 c64 x1
 (fun z2 => k1 z2)
structure c54 (x1 : Int) (k1 : Bool → Prop) : Prop where
of :
 k1 ((x1 : Int) != x1)
structure c38 (x1 x2 : Int) (k1 : Bool → Prop) : Prop where
of :
 c54 x1
 (fun z3 => br (z3)
 (c54 x2
 (fun z4 => br (!z4)
 (k1 true)
 (k1 (decide ((x1 : Int) < x2)))))
 (k1 (decide ((x1 : Int) < x2))))
structure l55r4 (k1 : Int → Int → Int → (List Int) → Prop) (s1 s2 s3 s4 : Int) (s5 : List Int) : Prop where
of :
 ∀ (I1 : Int → Int → Int → Int → (List Int) → Prop),
 (∀ (s1 s2 s3 s4 : Int) (s5 : List Int), (br (decide (s4 > s1))
 (br (decide (0 ≤ s4 ∧ s4 < (↑(List.length s5))))
 (need False (s5)[(Int.toNat s4)]? fun y6 =>
 br (decide ((0 : Int) ≤ (IntKind.wrap .i64 (s4 - 1)) ∧ ((IntKind.wrap .i64 (s4 - 1)) : Int) < (↑(List.length s5))))
 (need False (s5)[(Int.toNat (IntKind.wrap .i64 (s4 - 1)))]? fun y7 =>
 c38 y6 y7
 (fun z8 => br (z8)
 (br (decide ((0 : Int) ≤ (IntKind.wrap .i64 (s4 - 1)) ∧ ((IntKind.wrap .i64 (s4 - 1)) : Int) < (↑(List.length s5))))
 (need False (s5)[(Int.toNat (IntKind.wrap .i64 (s4 - 1)))]? fun y9 =>
 br (decide (0 ≤ s4 ∧ s4 < (↑(List.length s5))))
 (need False (s5)[(Int.toNat s4)]? fun y10 =>
 br (decide (0 ≤ s4 ∧ s4 < (↑(List.length s5))))
 (need False (s5)[(Int.toNat s4)]? fun y11 =>
 br (eqT (.int .i64) s4 s4)
 (br (eqT (.int .i64) (IntKind.wrap .i64 (s4 - 1)) (IntKind.wrap .i64 (s4 - 1)))
 (br (decide ((0 : Int) ≤ (IntKind.wrap .i64 (s4 - 1)) ∧ ((IntKind.wrap .i64 (s4 - 1)) : Int) < (↑(List.length (List.set s5 (Int.toNat s4) y9)))))
 (need False ((List.set s5 (Int.toNat s4) y9))[(Int.toNat (IntKind.wrap .i64 (s4 - 1)))]? fun y12 =>
 I1 s1 s2 s3 (IntKind.wrap .i64 (s4 - 1)) (List.set (List.set s5 (Int.toNat s4) y9) (Int.toNat (IntKind.wrap .i64 (s4 - 1))) y10))
 False)
 False)
 False)
 False)
 False)
 False)
 (k1 s1 s2 s3 s5)))
 False)
 False)
 (k1 s1 s2 s3 s5)) → I1 s1 s2 s3 s4 s5) →
 I1 s1 s2 s3 s4 s5
structure l55r1 (k1 : (List Int) → Prop) (s1 s2 s3 : Int) (s4 : List Int) : Prop where
of :
 ∀ (I1 : Int → Int → Int → (List Int) → Prop),
 (∀ (s1 s2 s3 : Int) (s4 : List Int), (br (decide (s3 < s2))
 (l55r4
 (fun z5 z6 z7 z8 => I1 z5 z6 (IntKind.wrap .i64 (z7 + 1)) z8)
 s1 s2 s3 s3 s4)
 (k1 s4)) → I1 s1 s2 s3 s4) →
 I1 s1 s2 s3 s4
structure c55 (x1 x2 : Int) (x3 : List Int) (k1 : (List Int) → Prop) : Prop where
of :
 l55r1
 (fun z4 => k1 z4)
 x1 x2 (IntKind.wrap .i64 (x1 + 1)) x3
structure j41r10 (s1 s2 s3 : Int) (s4 s5 : Bool) (s6 : Int) (s7 : List Int) : Prop where
of :
 False
structure l41r2 (k1 : (List Int) → Prop) (s1 s2 s3 : Int) (s4 s5 : Bool) (s6 : List Int) : Prop where
of :
 ∀ (I1 : Int → Int → Int → Bool → Bool → (List Int) → Prop),
 (∀ (s1 s2 s3 : Int) (s4 s5 : Bool) (s6 : List Int), (br (decide (((IntKind.wrap .i64 (s2 - s1)) : Int) ≤ 12))
 (c55 s1 s2 s6
 (fun z7 => k1 z7))
 (br (s3 == 0)
 False
 (br (!s4)
 False
 (j41r10
 s1 s2 s3 s4 s5 (IntKind.wrap .i64 (s2 - s1)) s6)))) → I1 s1 s2 s3 s4 s5 s6) →
 I1 s1 s2 s3 s4 s5 s6
structure c41 (x1 x2 x3 : Int) (x4 : List Int) (k1 : (List Int) → Prop) : Prop where
of :
 l41r2
 (fun z5 => k1 z5)
 x1 x2 x3 true true x4
structure c21 (x1 : List Int) (k1 : (List Int) → Prop) : Prop where
of :
 c42 (IntKind.wrap .u64 (↑(List.length x1)))
 (fun z2 => c41 0 (↑(List.length x1)) z2 x1
 (fun z3 => k1 z3))
structure c17 (x1 : tFU) (k1 : Int → (List Int) → Prop) : Prop where
of :
 c36 x1
 (fun z2 z3 => c21 z3
 (fun z4 => k1 z2 z4))
structure l18r9 (k1 : (List tBK) → Int → Int → (List (List Int)) → Prop) (s1 : Int) (s2 : List tBK) (s3 s4 : Int) (s5 : List tED) (s6 s7 : Int) (s8 : List (List Int)) : Prop where
of :
 ∀ (I1 : Int → (List tBK) → Int → Int → (List tED) → Int → Int → (List (List Int)) → Prop),
 (∀ (s1 : Int) (s2 : List tBK) (s3 s4 : Int) (s5 : List tED) (s6 s7 : Int) (s8 : List (List Int)), (br (decide (s7 < s6))
 (need False (at? s5 s7) fun y9 =>
 br (decide ((0 : Int) ≤ y9.1 ∧ (y9.1 : Int) < (↑(List.length s8))))
 ((need False (s8)[(Int.toNat y9.1)]? fun y10 =>
 need False (s8)[(Int.toNat y9.1)]? fun y11 =>
 br (true && true)
 (br (eqT (.int .i64) y9.1 y9.1)
 (br (eqT (.int .i64) s1 s1)
 (br (true && true)
 (br (eqT (.int .i64) y9.1 y9.1)
 (br (roomB ((List.length y11) + 1) 8)
 (br (true && true)
 (br (eqT (.int .i64) y9.1 y9.1)
 (br (decide ((0 : Int) ≤ y9.1 ∧ (y9.1 : Int) < (↑(List.length s8))))
 (need False (s8)[(Int.toNat y9.1)]? fun y12 =>
 br (decide ((Int.toNat y9.1) = (Int.toNat y9.1)))
 (I1 s1 s2 s3 s4 s5 s6 (IntKind.wrap .i64 (s7 + 1)) (List.set s8 (Int.toNat y9.1) (y11 ++ [s1])))
 False)
 False)
 False)
 False)
 False)
 False)
 False)
 False)
 False)
 False) ∧
 (br (true && true)
 (br (eqT (.int .i64) y9.1 y9.1)
 (br (true && true)
 (br (eqT (.int .i64) y9.1 y9.1)
 (br (decide ((0 : Int) ≤ y9.1 ∧ (y9.1 : Int) < (↑(List.length s8))))
 (br ((decide ((Int.toNat y9.1) = (Int.toNat y9.1))) && true)
 (need False (s8)[(Int.toNat y9.1)]? fun y13 =>
 need False (s8)[(Int.toNat y9.1)]? fun y14 =>
 br (true && true)
 (br (eqT (.int .i64) y9.1 y9.1)
 (br (roomB ((List.length y14) + 1) 8)
 (br (true && true)
 (br (eqT (.int .i64) y9.1 y9.1)
 (br (decide ((0 : Int) ≤ y9.1 ∧ (y9.1 : Int) < (↑(List.length s8))))
 (need False (s8)[(Int.toNat y9.1)]? fun y15 =>
 br (decide ((Int.toNat y9.1) = (Int.toNat y9.1)))
 (I1 s1 s2 s3 s4 s5 s6 (IntKind.wrap .i64 (s7 + 1)) (List.set s8 (Int.toNat y9.1) (y14 ++ [s1])))
 False)
 False)
 False)
 False)
 False)
 False)
 False)
 False)
 False)
 False)
 False)
 False)
 False))
 False)
 (k1 s2 s3 s4 s8)) → I1 s1 s2 s3 s4 s5 s6 s7 s8) →
 I1 s1 s2 s3 s4 s5 s6 s7 s8
structure l18r6 (k1 : (List (List Int)) → Prop) (s1 : List tBK) (s2 s3 : Int) (s4 : List (List Int)) : Prop where
of :
 ∀ (I1 : (List tBK) → Int → Int → (List (List Int)) → Prop),
 (∀ (s1 : List tBK) (s2 s3 : Int) (s4 : List (List Int)), (br (decide (s3 < s2))
 (need False (at? s1 s3) fun y5 =>
 l18r9
 (fun z6 z7 z8 z9 => I1 z6 z7 (IntKind.wrap .i64 (z8 + 1)) z9)
 s3 s1 s2 s3 y5.2.2.1.2.2.2.2.1 (↑(List.length y5.2.2.1.2.2.2.2.1)) 0 s4)
 (k1 s4)) → I1 s1 s2 s3 s4) →
 I1 s1 s2 s3 s4
structure c18 (x1 : tFU) (k1 : Int → (List (List Int)) → Prop) : Prop where
of :
 c37 x1
 (fun z2 => br (z2 != 0)
 (k1 z2 [])
 (br (decide ((((List.length x1.2.1) : Nat) : Int) = (((List.length x1.2.1) : Nat) : Int)))
 (br (decide ((0 : Int) ≤ (↑(List.length x1.2.1)) ∧ ((↑(List.length x1.2.1)) : Int) ≤ (↑(List.length x1.2.1)) ∧ (((↑(List.length x1.2.1)) * 24) : Int) ≤ 140737488355328))
 (l18r6
 (fun z3 => k1 0 z3)
 x1.2.1 (↑(List.length x1.2.1)) 0 (List.replicate (Int.toNat (↑(List.length x1.2.1))) ([] : List (Int))))
 False)
 False))
structure l47r7 (k1 : (List Int) → (List Int) → (List Int) → (List (List Int)) → (List Int) → (List Int) → Prop) (s1 s2 : Int) (s3 s4 s5 : List Int) (s6 : List (List Int)) (s7 s8 : List Int) : Prop where
of :
 ∀ (I1 : Int → Int → (List Int) → (List Int) → (List Int) → (List (List Int)) → (List Int) → (List Int) → Prop),
 (∀ (s1 s2 : Int) (s3 s4 s5 : List Int) (s6 : List (List Int)) (s7 s8 : List Int), (br (decide (s2 < s1))
 ((br (eqT (.int .i64) s2 s2)
 (br (true && true)
 (br (eqT (.int .i64) s2 s2)
 (br (eqT (.int .i64) s2 s2)
 ((br (eqT (.int .i64) s2 s2)
 (br (eqT (.int .i64) s2 s2)
 (br (eqT (.int .i64) s2 s2)
 (c40 s5 s2
 (fun z9 => br (eqT (.int .i64) s2 s2)
 (br (eqT (.int .i64) s2 s2)
 (br (decide (0 ≤ s2 ∧ s2 < (↑(List.length s7))))
 (need False (s7)[(Int.toNat s2)]? fun y10 =>
 br (eqT (.int .i64) s2 s2)
 (br (decide (0 ≤ s2 ∧ s2 < (↑(List.length s8))))
 (need False (s8)[(Int.toNat s2)]? fun y11 =>
 I1 s1 (IntKind.wrap .i64 (s2 + 1)) s3 s4 s5 s6 (List.set s7 (Int.toNat s2) (-1)) (List.set s8 (Int.toNat s2) z9))
 False)
 False)
 False)
 False)
 False))
 False)
 False)
 False) ∧
 (c40 s5 s2
 (fun z12 => br (eqT (.int .i64) s2 s2)
 (br (true && true)
 (br (eqT (.int .i64) s2 s2)
 (br (decide (0 ≤ s2 ∧ s2 < (↑(List.length s7))))
 ((br (eqT (.int .i64) s2 s2)
 (br (eqT (.int .i64) s2 s2)
 (br (decide (0 ≤ s2 ∧ s2 < (↑(List.length s7))))
 (br ((decide ((Int.toNat s2) = (Int.toNat s2))) && true)
 (need False (s7)[(Int.toNat s2)]? fun y13 =>
 br (eqT (.int .i64) s2 s2)
 (br (decide (0 ≤ s2 ∧ s2 < (↑(List.length s8))))
 (need False (s8)[(Int.toNat s2)]? fun y14 =>
 I1 s1 (IntKind.wrap .i64 (s2 + 1)) s3 s4 s5 s6 (List.set s7 (Int.toNat s2) (-1)) (List.set s8 (Int.toNat s2) z12))
 False)
 False)
 False)
 False)
 False)
 False) ∧
 (need False (s7)[(Int.toNat s2)]? fun y15 =>
 br (true && true)
 (br (eqT (.int .i64) s2 s2)
 (br (eqT (.int .i64) s2 s2)
 (br (decide (0 ≤ s2 ∧ s2 < (↑(List.length s8))))
 (need False (s8)[(Int.toNat s2)]? fun y16 =>
 I1 s1 (IntKind.wrap .i64 (s2 + 1)) s3 s4 s5 s6 (List.set s7 (Int.toNat s2) (-1)) (List.set s8 (Int.toNat s2) z12))
 False)
 False)
 False)
 False))
 False)
 False)
 False)
 False)))
 False)
 False)
 False)
 False) ∧
 ((br (true && true)
 (br (eqT (.int .i64) s2 s2)
 (br (eqT (.int .i64) s2 s2)
 (br (eqT (.int .i64) s2 s2)
 ((br (eqT (.int .i64) s2 s2)
 (br (eqT (.int .i64) s2 s2)
 (br (eqT (.int .i64) s2 s2)
 (c40 s5 s2
 (fun z17 => br (eqT (.int .i64) s2 s2)
 (br (eqT (.int .i64) s2 s2)
 (br (decide (0 ≤ s2 ∧ s2 < (↑(List.length s7))))
 (need False (s7)[(Int.toNat s2)]? fun y18 =>
 br (eqT (.int .i64) s2 s2)
 (br (decide (0 ≤ s2 ∧ s2 < (↑(List.length s8))))
 (need False (s8)[(Int.toNat s2)]? fun y19 =>
 I1 s1 (IntKind.wrap .i64 (s2 + 1)) s3 s4 s5 s6 (List.set s7 (Int.toNat s2) (-1)) (List.set s8 (Int.toNat s2) z17))
 False)
 False)
 False)
 False)
 False))
 False)
 False)
 False) ∧
 (c40 s5 s2
 (fun z20 => br (true && true)
 (br (eqT (.int .i64) s2 s2)
 (br (eqT (.int .i64) s2 s2)
 (br (eqT (.int .i64) s2 s2)
 (br (eqT (.int .i64) s2 s2)
 (br (decide (0 ≤ s2 ∧ s2 < (↑(List.length s7))))
 (need False (s7)[(Int.toNat s2)]? fun y21 =>
 br (eqT (.int .i64) s2 s2)
 (br (decide (0 ≤ s2 ∧ s2 < (↑(List.length s8))))
 (need False (s8)[(Int.toNat s2)]? fun y22 =>
 I1 s1 (IntKind.wrap .i64 (s2 + 1)) s3 s4 s5 s6 (List.set s7 (Int.toNat s2) (-1)) (List.set s8 (Int.toNat s2) z20))
 False)
 False)
 False)
 False)
 False)
 False)
 False)
 False)))
 False)
 False)
 False)
 False) ∧
 (c40 s5 s2
 (fun z23 => br (true && true)
 (br (eqT (.int .i64) s2 s2)
 (br (true && true)
 (br (eqT (.int .i64) s2 s2)
 ((br (eqT (.int .i64) s2 s2)
 (br (true && true)
 (br (eqT (.int .i64) s2 s2)
 (br (decide (0 ≤ s2 ∧ s2 < (↑(List.length s7))))
 ((br (eqT (.int .i64) s2 s2)
 (br (eqT (.int .i64) s2 s2)
 (br (decide (0 ≤ s2 ∧ s2 < (↑(List.length s7))))
 (br ((decide ((Int.toNat s2) = (Int.toNat s2))) && true)
 (need False (s7)[(Int.toNat s2)]? fun y24 =>
 br (eqT (.int .i64) s2 s2)
 (br (decide (0 ≤ s2 ∧ s2 < (↑(List.length s8))))
 (need False (s8)[(Int.toNat s2)]? fun y25 =>
 I1 s1 (IntKind.wrap .i64 (s2 + 1)) s3 s4 s5 s6 (List.set s7 (Int.toNat s2) (-1)) (List.set s8 (Int.toNat s2) z23))
 False)
 False)
 False)
 False)
 False)
 False) ∧
 (need False (s7)[(Int.toNat s2)]? fun y26 =>
 br (true && true)
 (br (eqT (.int .i64) s2 s2)
 (br (eqT (.int .i64) s2 s2)
 (br (decide (0 ≤ s2 ∧ s2 < (↑(List.length s8))))
 (need False (s8)[(Int.toNat s2)]? fun y27 =>
 I1 s1 (IntKind.wrap .i64 (s2 + 1)) s3 s4 s5 s6 (List.set s7 (Int.toNat s2) (-1)) (List.set s8 (Int.toNat s2) z23))
 False)
 False)
 False)
 False))
 False)
 False)
 False)
 False) ∧
 (br (true && true)
 (br (eqT (.int .i64) s2 s2)
 (br (eqT (.int .i64) s2 s2)
 (br (eqT (.int .i64) s2 s2)
 (br (eqT (.int .i64) s2 s2)
 (br (decide (0 ≤ s2 ∧ s2 < (↑(List.length s7))))
 (need False (s7)[(Int.toNat s2)]? fun y28 =>
 br (eqT (.int .i64) s2 s2)
 (br (decide (0 ≤ s2 ∧ s2 < (↑(List.length s8))))
 (need False (s8)[(Int.toNat s2)]? fun y29 =>
 I1 s1 (IntKind.wrap .i64 (s2 + 1)) s3 s4 s5 s6 (List.set s7 (Int.toNat s2) (-1)) (List.set s8 (Int.toNat s2) z23))
 False)
 False)
 False)
 False)
 False)
 False)
 False)
 False))
 False)
 False)
 False)
 False))))
 (k1 s3 s4 s5 s6 s7 s8)) → I1 s1 s2 s3 s4 s5 s6 s7 s8) →
 I1 s1 s2 s3 s4 s5 s6 s7 s8
structure l67r1 (k1 : Int → Prop) (s1 s2 : Int) (s3 : (List Int) × (List Int) × Unit) : Prop where
of :
 ∀ (I1 : Int → Int → ((List Int) × (List Int) × Unit) → Prop),
 (∀ (s1 s2 : Int) (s3 : (List Int) × (List Int) × Unit), (br (s1 != s2)
 ((br (eqT (.int .i64) s1 s1)
 (need False (at? s3.2.1 s1) fun y4 =>
 br (true && true)
 (br (eqT (.int .i64) s2 s2)
 (br (eqT (.int .i64) s1 s1)
 (need False (at? s3.2.1 s1) fun y5 =>
 br (eqT (.int .i64) y4 y5)
 (br (eqT (.int .i64) y4 y4)
 (br (eqT (.int .i64) s2 s2)
 (need False (at? s3.2.1 s2) fun y6 =>
 br (decide (y4 > y6))
 (need False (at? s3.1 s1) fun y7 =>
 I1 y7 s2 s3)
 (need False (at? s3.1 s2) fun y8 =>
 I1 s1 y8 s3))
 False)
 False)
 False)
 False)
 False)
 False)
 False) ∧
 (br (true && true)
 (br (eqT (.int .i64) s1 s1)
 (br (eqT (.int .i64) s2 s2)
 (need False (at? s3.2.1 s2) fun y9 =>
 br (eqT (.int .i64) s1 s1)
 (need False (at? s3.2.1 s1) fun y10 =>
 br (eqT (.int .i64) s2 s2)
 (need False (at? s3.2.1 s2) fun y11 =>
 br (eqT (.int .i64) y9 y11)
 (br (eqT (.int .i64) y9 y9)
 (br (decide (y10 > y9))
 (need False (at? s3.1 s1) fun y12 =>
 I1 y12 s2 s3)
 (need False (at? s3.1 s2) fun y13 =>
 I1 s1 y13 s3))
 False)
 False)
 False)
 False)
 False)
 False)
 False))
 (k1 s1)) → I1 s1 s2 s3) →
 I1 s1 s2 s3
structure c67 (x1 : (List Int) × (List Int) × Unit) (x2 x3 : Int) (k1 : Int → Prop) : Prop where
of :
 l67r1
 (fun z4 => k1 z4)
 x2 x3 x1
structure l47r19 (k1 : Bool → Int → Int → Nat → Nat → Nat → Int → Int → (List Int) → (List Int) → (List Int) → (List (List Int)) → (List Int) → (List Int) → Prop) (s1 : Bool) (s2 s3 : Int) (s4 s5 s6 : Nat) (s7 s8 s9 s10 : Int) (s11 s12 s13 : List Int) (s14 : List (List Int)) (s15 : Nat) (s16 s17 s18 : List Int) : Prop where
of :
 ∀ (I1 : Bool → Int → Int → Nat → Nat → Nat → Int → Int → Int → Int → (List Int) → (List Int) → (List Int) → (List (List Int)) → Nat → (List Int) → (List Int) → (List Int) → Prop),
 (∀ (s1 : Bool) (s2 s3 : Int) (s4 s5 s6 : Nat) (s7 s8 s9 s10 : Int) (s11 s12 s13 : List Int) (s14 : List (List Int)) (s15 : Nat) (s16 s17 s18 : List Int), (br (decide (s10 < s9))
 (br (decide (0 ≤ s10 ∧ s10 < (↑(List.length s16))))
 (need False (s16)[(Int.toNat s10)]? fun y19 =>
 br (decide (0 ≤ y19 ∧ y19 < (↑(List.length s18))))
 (need False (s18)[(Int.toNat y19)]? fun y20 =>
 br (decide (y20 < 0))
 (I1 s1 s2 s3 s4 s5 s6 s7 s8 s9 (IntKind.wrap .i64 (s10 + 1)) s11 s12 s13 s14 s15 s16 s17 s18)
 (br (y19 != 0)
 (br (decide (0 ≤ y19 ∧ y19 < (↑(List.length s17))))
 (need False (s17)[(Int.toNat y19)]? fun y21 =>
 br (decide (y21 < 0))
 (I1 s1 s2 s3 s4 s5 s6 s7 s8 s9 (IntKind.wrap .i64 (s10 + 1)) s11 s12 s13 s14 s15 s16 s17 s18)
 (br (decide (s3 < 0))
 (I1 s1 s2 y19 s4 s5 s6 s7 s8 s9 (IntKind.wrap .i64 (s10 + 1)) s11 s12 s13 s14 s15 s16 s17 s18)
 (c67 (s17, s18, ()) s3 y19
 (fun z22 => I1 s1 s2 z22 s4 s5 s6 s7 s8 s9 (IntKind.wrap .i64 (s10 + 1)) s11 s12 s13 s14 s15 s16 s17 s18))))
 False)
 (br (decide (s3 < 0))
 (I1 s1 s2 y19 s4 s5 s6 s7 s8 s9 (IntKind.wrap .i64 (s10 + 1)) s11 s12 s13 s14 s15 s16 s17 s18)
 (c67 (s17, s18, ()) s3 y19
 (fun z23 => I1 s1 s2 z23 s4 s5 s6 s7 s8 s9 (IntKind.wrap .i64 (s10 + 1)) s11 s12 s13 s14 s15 s16 s17 s18)))))
 False)
 False)
 (k1 s1 s2 s3 s4 s5 s6 s7 s8 s11 s12 s13 (List.set s14 s15 s16) s17 s18)) → I1 s1 s2 s3 s4 s5 s6 s7 s8 s9 s10 s11 s12 s13 s14 s15 s16 s17 s18) →
 I1 s1 s2 s3 s4 s5 s6 s7 s8 s9 s10 s11 s12 s13 s14 s15 s16 s17 s18
structure l47r15 (k1 : Bool → (List Int) → (List Int) → (List Int) → (List (List Int)) → (List Int) → (List Int) → Prop) (s1 : Bool) (s2 s3 s4 : Nat) (s5 s6 : Int) (s7 s8 s9 : List Int) (s10 : List (List Int)) (s11 s12 : List Int) : Prop where
of :
 ∀ (I1 : Bool → Nat → Nat → Nat → Int → Int → (List Int) → (List Int) → (List Int) → (List (List Int)) → (List Int) → (List Int) → Prop),
 (∀ (s1 : Bool) (s2 s3 s4 : Nat) (s5 s6 : Int) (s7 s8 s9 : List Int) (s10 : List (List Int)) (s11 s12 : List Int), (br (decide (s6 < s5))
 (br (decide (0 ≤ s6 ∧ s6 < ((s3 : Nat) : Int)))
 (need False (s9)[(s2 + (Int.toNat s6))]? fun y13 =>
 br (decide (0 ≤ y13 ∧ y13 < (↑(List.length s10))))
 (need False (s10)[(Int.toNat y13)]? fun y14 =>
 need False (s10)[(Int.toNat y13)]? fun y15 =>
 l47r19
 (fun z16 z17 z18 z19 z20 z21 z22 z23 z24 z25 z26 z27 z28 z29 => br (decide (0 ≤ z17 ∧ z17 < (↑(List.length z28))))
 (need False (z28)[(Int.toNat z17)]? fun y30 =>
 br (z18 != y30)
 (br (decide (0 ≤ z17 ∧ z17 < (↑(List.length z28))))
 (need False (z28)[(Int.toNat z17)]? fun y31 =>
 I1 true z19 z20 z21 z22 (IntKind.wrap .i64 (z23 + 1)) z24 z25 z26 z27 (List.set z28 (Int.toNat z17) z18) z29)
 False)
 (I1 z16 z19 z20 z21 z22 (IntKind.wrap .i64 (z23 + 1)) z24 z25 z26 z27 z28 z29))
 False)
 s1 y13 (-1) s2 s3 s4 s5 s6 (↑(List.length y15)) 0 s7 s8 s9 s10 (Int.toNat y13) y15 s11 s12)
 False)
 False)
 (k1 s1 s7 s8 s9 s10 s11 s12)) → I1 s1 s2 s3 s4 s5 s6 s7 s8 s9 s10 s11 s12) →
 I1 s1 s2 s3 s4 s5 s6 s7 s8 s9 s10 s11 s12
structure l47r12 (k1 : (List Int) → (List Int) → (List Int) → (List Int) → Prop) (s1 : Bool) (s2 s3 s4 : List Int) (s5 : List (List Int)) (s6 s7 : List Int) : Prop where
of :
 ∀ (I1 : Bool → (List Int) → (List Int) → (List Int) → (List (List Int)) → (List Int) → (List Int) → Prop),
 (∀ (s1 : Bool) (s2 s3 s4 : List Int) (s5 : List (List Int)) (s6 s7 : List Int), (br (s1)
 (br (decide ((0 : Int) ≤ 1 ∧ (1 : Int) ≤ (↑(List.length s4)) ∧ ((↑(List.length s4)) : Int) ≤ (↑(List.length s4)) ∧ ((↑(List.length s4)) : Int) ≤ (↑(List.length s4))))
 (l47r15
 (fun z8 z9 z10 z11 z12 z13 z14 => I1 z8 z9 z10 z11 z12 z13 z14)
 false 1 (Int.toNat ((↑(List.length s4)) - 1)) (Int.toNat ((↑(List.length s4)) - 1)) (((Int.toNat ((↑(List.length s4)) - 1)) : Nat) : Int) 0 s2 s3 s4 s5 s6 s7)
 False)
 (k1 s2 s3 s6 s7)) → I1 s1 s2 s3 s4 s5 s6 s7) →
 I1 s1 s2 s3 s4 s5 s6 s7
structure j47r6 (k1 : Int → (List Int) → (List Int) → Prop) (s1 s2 s3 : List Int) (s4 : List (List Int)) (s5 s6 : List Int) : Prop where
of :
 l47r7
 (fun z7 z8 z9 z10 z11 z12 => l47r12
 (fun z13 z14 z15 z16 => k1 0 z15 z16)
 true z7 z8 z9 z10 z11 z12)
 (↑(List.length s5)) 0 s1 s2 s3 s4 s5 s6
structure c47 (x1 : tFU) (k1 : Int → (List Int) → (List Int) → Prop) : Prop where
of :
 c36 x1
 (fun z2 z3 => br (z2 != 0)
 (k1 z2 [] [])
 (c18 x1
 (fun z4 z5 => (br (decide ((0 : Int) ≤ (↑(List.length x1.2.1)) ∧ ((↑(List.length x1.2.1)) : Int) ≤ (↑(List.length x1.2.1)) ∧ (((↑(List.length x1.2.1)) * 8) : Int) ≤ 140737488355328))
 (br (true && true)
 (br (eqT (.sl (.pair (.sl (.int .i64)) (.pair (.sl (.pair (.int .i64) (.pair (.int .i64) (.pair (.int .i64) (.pair (.sl (.int .i64)) .unit))))) (.pair (.pair (.int .i64) (.pair (.int .i64) (.pair (.int .i64) (.pair (.sl (.int .i64)) (.pair (.sl (.pair (.int .i64) (.pair (.sl (.int .i64)) .unit))) .unit))))) .unit)))) x1.2.1 x1.2.1)
 (br (eqT (.int .i64) (((List.length x1.2.1) : Nat) : Int) (((List.length x1.2.1) : Nat) : Int))
 ((br (decide ((0 : Int) ≤ (↑(List.length x1.2.1)) ∧ ((↑(List.length x1.2.1)) : Int) ≤ (↑(List.length x1.2.1)) ∧ (((↑(List.length x1.2.1)) * 8) : Int) ≤ 140737488355328))
 (br (true && true)
 (j47r6
 (fun z6 z7 z8 => k1 z6 z7 z8)
 [] [] z3 z5 (List.replicate (Int.toNat (↑(List.length x1.2.1))) (0 : Int)) (List.replicate (Int.toNat (↑(List.length x1.2.1))) (0 : Int)))
 False)
 False) ∧
 (br (true && true)
 (br (eqT (.sl (.pair (.sl (.int .i64)) (.pair (.sl (.pair (.int .i64) (.pair (.int .i64) (.pair (.int .i64) (.pair (.sl (.int .i64)) .unit))))) (.pair (.pair (.int .i64) (.pair (.int .i64) (.pair (.int .i64) (.pair (.sl (.int .i64)) (.pair (.sl (.pair (.int .i64) (.pair (.sl (.int .i64)) .unit))) .unit))))) .unit)))) x1.2.1 x1.2.1)
 (br (eqT (.int .i64) (((List.length x1.2.1) : Nat) : Int) (((List.length x1.2.1) : Nat) : Int))
 (br (decide ((0 : Int) ≤ (↑(List.length x1.2.1)) ∧ ((↑(List.length x1.2.1)) : Int) ≤ (↑(List.length x1.2.1)) ∧ (((↑(List.length x1.2.1)) * 8) : Int) ≤ 140737488355328))
 (j47r6
 (fun z9 z10 z11 => k1 z9 z10 z11)
 [] [] z3 z5 (List.replicate (Int.toNat (↑(List.length x1.2.1))) (0 : Int)) (List.replicate (Int.toNat (↑(List.length x1.2.1))) (0 : Int)))
 False)
 False)
 False)
 False))
 False)
 False)
 False)
 False) ∧
 ((br (decide ((0 : Int) ≤ (↑(List.length x1.2.1)) ∧ ((↑(List.length x1.2.1)) : Int) ≤ (↑(List.length x1.2.1)) ∧ (((↑(List.length x1.2.1)) * 8) : Int) ≤ 140737488355328))
 (br (true && true)
 (br (eqT (.sl (.pair (.sl (.int .i64)) (.pair (.sl (.pair (.int .i64) (.pair (.int .i64) (.pair (.int .i64) (.pair (.sl (.int .i64)) .unit))))) (.pair (.pair (.int .i64) (.pair (.int .i64) (.pair (.int .i64) (.pair (.sl (.int .i64)) (.pair (.sl (.pair (.int .i64) (.pair (.sl (.int .i64)) .unit))) .unit))))) .unit)))) x1.2.1 x1.2.1)
 (br (eqT (.int .i64) (((List.length x1.2.1) : Nat) : Int) (((List.length x1.2.1) : Nat) : Int))
 ((br (decide ((0 : Int) ≤ (↑(List.length x1.2.1)) ∧ ((↑(List.length x1.2.1)) : Int) ≤ (↑(List.length x1.2.1)) ∧ (((↑(List.length x1.2.1)) * 8) : Int) ≤ 140737488355328))
 (br (true && true)
 (j47r6
 (fun z12 z13 z14 => k1 z12 z13 z14)
 [] [] z3 z5 (List.replicate (Int.toNat (↑(List.length x1.2.1))) (0 : Int)) (List.replicate (Int.toNat (↑(List.length x1.2.1))) (0 : Int)))
 False)
 False) ∧
 (br (true && true)
 (br (eqT (.sl (.pair (.sl (.int .i64)) (.pair (.sl (.pair (.int .i64) (.pair (.int .i64) (.pair (.int .i64) (.pair (.sl (.int .i64)) .unit))))) (.pair (.pair (.int .i64) (.pair (.int .i64) (.pair (.int .i64) (.pair (.sl (.int .i64)) (.pair (.sl (.pair (.int .i64) (.pair (.sl (.int .i64)) .unit))) .unit))))) .unit)))) x1.2.1 x1.2.1)
 (br (eqT (.int .i64) (((List.length x1.2.1) : Nat) : Int) (((List.length x1.2.1) : Nat) : Int))
 (br (decide ((0 : Int) ≤ (↑(List.length x1.2.1)) ∧ ((↑(List.length x1.2.1)) : Int) ≤ (↑(List.length x1.2.1)) ∧ (((↑(List.length x1.2.1)) * 8) : Int) ≤ 140737488355328))
 (j47r6
 (fun z15 z16 z17 => k1 z15 z16 z17)
 [] [] z3 z5 (List.replicate (Int.toNat (↑(List.length x1.2.1))) (0 : Int)) (List.replicate (Int.toNat (↑(List.length x1.2.1))) (0 : Int)))
 False)
 False)
 False)
 False))
 False)
 False)
 False)
 False) ∧
 (br (true && true)
 (br (eqT (.sl (.pair (.sl (.int .i64)) (.pair (.sl (.pair (.int .i64) (.pair (.int .i64) (.pair (.int .i64) (.pair (.sl (.int .i64)) .unit))))) (.pair (.pair (.int .i64) (.pair (.int .i64) (.pair (.int .i64) (.pair (.sl (.int .i64)) (.pair (.sl (.pair (.int .i64) (.pair (.sl (.int .i64)) .unit))) .unit))))) .unit)))) x1.2.1 x1.2.1)
 (br (eqT (.int .i64) (((List.length x1.2.1) : Nat) : Int) (((List.length x1.2.1) : Nat) : Int))
 (br (true && true)
 (br (eqT (.sl (.pair (.sl (.int .i64)) (.pair (.sl (.pair (.int .i64) (.pair (.int .i64) (.pair (.int .i64) (.pair (.sl (.int .i64)) .unit))))) (.pair (.pair (.int .i64) (.pair (.int .i64) (.pair (.int .i64) (.pair (.sl (.int .i64)) (.pair (.sl (.pair (.int .i64) (.pair (.sl (.int .i64)) .unit))) .unit))))) .unit)))) x1.2.1 x1.2.1)
 (br (eqT (.int .i64) (((List.length x1.2.1) : Nat) : Int) (((List.length x1.2.1) : Nat) : Int))
 ((br (decide ((0 : Int) ≤ (↑(List.length x1.2.1)) ∧ ((↑(List.length x1.2.1)) : Int) ≤ (↑(List.length x1.2.1)) ∧ (((↑(List.length x1.2.1)) * 8) : Int) ≤ 140737488355328))
 (br (true && true)
 (br (eqT (.sl (.pair (.sl (.int .i64)) (.pair (.sl (.pair (.int .i64) (.pair (.int .i64) (.pair (.int .i64) (.pair (.sl (.int .i64)) .unit))))) (.pair (.pair (.int .i64) (.pair (.int .i64) (.pair (.int .i64) (.pair (.sl (.int .i64)) (.pair (.sl (.pair (.int .i64) (.pair (.sl (.int .i64)) .unit))) .unit))))) .unit)))) x1.2.1 x1.2.1)
 (br (eqT (.int .i64) (((List.length x1.2.1) : Nat) : Int) (((List.length x1.2.1) : Nat) : Int))
 (br (decide ((0 : Int) ≤ (↑(List.length x1.2.1)) ∧ ((↑(List.length x1.2.1)) : Int) ≤ (↑(List.length x1.2.1)) ∧ (((↑(List.length x1.2.1)) * 8) : Int) ≤ 140737488355328))
 (j47r6
 (fun z18 z19 z20 => k1 z18 z19 z20)
 [] [] z3 z5 (List.replicate (Int.toNat (↑(List.length x1.2.1))) (0 : Int)) (List.replicate (Int.toNat (↑(List.length x1.2.1))) (0 : Int)))
 False)
 False)
 False)
 False)
 False) ∧
 (br (decide ((0 : Int) ≤ (↑(List.length x1.2.1)) ∧ ((↑(List.length x1.2.1)) : Int) ≤ (↑(List.length x1.2.1)) ∧ (((↑(List.length x1.2.1)) * 8) : Int) ≤ 140737488355328))
 (br (true && true)
 (br (eqT (.sl (.pair (.sl (.int .i64)) (.pair (.sl (.pair (.int .i64) (.pair (.int .i64) (.pair (.int .i64) (.pair (.sl (.int .i64)) .unit))))) (.pair (.pair (.int .i64) (.pair (.int .i64) (.pair (.int .i64) (.pair (.sl (.int .i64)) (.pair (.sl (.pair (.int .i64) (.pair (.sl (.int .i64)) .unit))) .unit))))) .unit)))) x1.2.1 x1.2.1)
 (br (eqT (.int .i64) (((List.length x1.2.1) : Nat) : Int) (((List.length x1.2.1) : Nat) : Int))
 (br (decide ((0 : Int) ≤ (↑(List.length x1.2.1)) ∧ ((↑(List.length x1.2.1)) : Int) ≤ (↑(List.length x1.2.1)) ∧ (((↑(List.length x1.2.1)) * 8) : Int) ≤ 140737488355328))
 (j47r6
 (fun z21 z22 z23 => k1 z21 z22 z23)
 [] [] z3 z5 (List.replicate (Int.toNat (↑(List.length x1.2.1))) (0 : Int)) (List.replicate (Int.toNat (↑(List.length x1.2.1))) (0 : Int)))
 False)
 False)
 False)
 False)
 False))
 False)
 False)
 False)
 False)
 False)
 False)))))
structure c34 (x1 : tFU) (k1 : Int → (List Int) → Prop) : Prop where
of :
 c47 x1
 (fun z2 z3 z4 => k1 z2 z3)
structure l35r1 (k1 : Int → Int → Prop) (s1 : List Int) (s2 s3 : Int) : Prop where
of :
 ∀ (I1 : (List Int) → Int → Int → Prop),
 (∀ (s1 : List Int) (s2 s3 : Int), (br (decide (s3 ≥ 0))
 (br (s3 != s2)
 (need False (at? s1 s3) fun y4 =>
 I1 s1 s2 y4)
 (k1 s2 s3))
 (k1 s2 s3)) → I1 s1 s2 s3) →
 I1 s1 s2 s3
structure c35 (x1 : List Int) (x2 x3 : Int) (k1 : Bool → Prop) : Prop where
of :
 l35r1
 (fun z4 z5 => k1 ((z4 : Int) == z5))
 x1 x2 x3
structure l16r10 (k1 : Int → Int → tFU → (List Int) → (List q0) → (List Int) → Prop) (s1 s2 s3 : Int) (s4 : List tED) (s5 s6 : Int) (s7 : tFU) (s8 : List Int) (s9 : List q0) (s10 : List Int) : Prop where
of :
 ∀ (I1 : Int → Int → Int → (List tED) → Int → Int → tFU → (List Int) → (List q0) → (List Int) → Prop),
 (∀ (s1 s2 s3 : Int) (s4 : List tED) (s5 s6 : Int) (s7 : tFU) (s8 : List Int) (s9 : List q0) (s10 : List Int), (br (decide (s6 < s5))
 (need False (at? s4 s6) fun y11 =>
 c35 s8 y11.1 s1
 (fun z12 => br (z12)
 (br (roomB ((List.length s9) + 1) 16)
 (I1 s1 s2 s3 s4 s5 (IntKind.wrap .i64 (s6 + 1)) s7 s8 (s9 ++ [(s1, y11.1, ())]) s10)
 False)
 (I1 s1 s2 s3 s4 s5 (IntKind.wrap .i64 (s6 + 1)) s7 s8 s9 s10)))
 (k1 s2 s3 s7 s8 s9 s10)) → I1 s1 s2 s3 s4 s5 s6 s7 s8 s9 s10) →
 I1 s1 s2 s3 s4 s5 s6 s7 s8 s9 s10
structure l16r7 (k1 : (List q0) → Prop) (s1 s2 : Int) (s3 : tFU) (s4 : List Int) (s5 : List q0) (s6 : List Int) : Prop where
of :
 ∀ (I1 : Int → Int → tFU → (List Int) → (List q0) → (List Int) → Prop),
 (∀ (s1 s2 : Int) (s3 : tFU) (s4 : List Int) (s5 : List q0) (s6 : List Int), (br (decide (s2 < s1))
 (br (decide (0 ≤ s2 ∧ s2 < (↑(List.length s6))))
 (need False (s6)[(Int.toNat s2)]? fun y7 =>
 need False (at? s3.2.1 y7) fun y8 =>
 l16r10
 (fun z9 z10 z11 z12 z13 z14 => I1 z9 (IntKind.wrap .i64 (z10 + 1)) z11 z12 z13 z14)
 y7 s1 s2 y8.2.2.1.2.2.2.2.1 (↑(List.length y8.2.2.1.2.2.2.2.1)) 0 s3 s4 s5 s6)
 False)
 (k1 s5)) → I1 s1 s2 s3 s4 s5 s6) →
 I1 s1 s2 s3 s4 s5 s6
structure c16 (x1 : tFU) (k1 : Int → (List q0) → Prop) : Prop where
of :
 c17 x1
 (fun z2 z3 => br (z2 != 0)
 (k1 z2 [])
 (c34 x1
 (fun z4 z5 => l16r7
 (fun z6 => k1 0 z6)
 (↑(List.length z3)) 0 x1 z5 [] z3)))
structure l6r12 (k1 : Int → Int → Int → (List q0) → (List Int) → (List (List Int)) → (List tLO) → (List Int) → Prop) (s1 s2 s3 s4 s5 : Int) (s6 : List q0) (s7 : List Int) (s8 : List (List Int)) (s9 : List tLO) (s10 : List Int) : Prop where
of :
 ∀ (I1 : Int → Int → Int → Int → Int → (List q0) → (List Int) → (List (List Int)) → (List tLO) → (List Int) → Prop),
 (∀ (s1 s2 s3 s4 s5 : Int) (s6 : List q0) (s7 : List Int) (s8 : List (List Int)) (s9 : List tLO) (s10 : List Int), (br (decide (s5 < s4))
 (br (decide (0 ≤ s5 ∧ s5 < (↑(List.length s6))))
 (need False (s6)[(Int.toNat s5)]? fun y11 =>
 br ((y11.2.1 : Int) == s1)
 (br (roomB ((List.length s10) + 1) 8)
 (I1 s1 s2 s3 s4 (IntKind.wrap .i64 (s5 + 1)) s6 s7 s8 s9 (s10 ++ [y11.1]))
 False)
 (I1 s1 s2 s3 s4 (IntKind.wrap .i64 (s5 + 1)) s6 s7 s8 s9 s10))
 False)
 (k1 s1 s2 s3 s6 s7 s8 s9 s10)) → I1 s1 s2 s3 s4 s5 s6 s7 s8 s9 s10) →
 I1 s1 s2 s3 s4 s5 s6 s7 s8 s9 s10
structure l19r3 (k1 : (List Int) → Int → Int → Int → Prop) (s1 : List Int) (s2 s3 s4 s5 : Int) : Prop where
of :
 ∀ (I1 : (List Int) → Int → Int → Int → Int → Prop),
 (∀ (s1 : List Int) (s2 s3 s4 s5 : Int), (br (decide (s4 < s5))
 (need False (at? s1 (IntKind.wrap .i64 (shrI .u64 (IntKind.wrap .u64 (IntKind.wrap .i64 (s4 + s5))) 1))) fun y6 =>
 c38 y6 s2
 (fun z7 => br (z7)
 (I1 s1 s2 s3 (IntKind.wrap .i64 ((IntKind.wrap .i64 (shrI .u64 (IntKind.wrap .u64 (IntKind.wrap .i64 (s4 + s5))) 1)) + 1)) s5)
 (I1 s1 s2 s3 s4 (IntKind.wrap .i64 (shrI .u64 (IntKind.wrap .u64 (IntKind.wrap .i64 (s4 + s5))) 1)))))
 (k1 s1 s2 s3 s4)) → I1 s1 s2 s3 s4 s5) →
 I1 s1 s2 s3 s4 s5
structure c39 (x1 : Int) (k1 : Bool → Prop) : Prop where
of :
 k1 ((x1 : Int) != x1)
structure c19 (x1 : List Int) (x2 : Int) (k1 : Int → Bool → Prop) : Prop where
of :
 l19r3
 (fun z3 z4 z5 z6 => br (decide (z6 < z5))
 (need False (at? z3 z6) fun y7 =>
 br (y7 == z4)
 (k1 z6 true)
 (need False (at? z3 z6) fun y8 =>
 c39 y8
 (fun z9 => br (z9)
 (c39 z4
 (fun z10 => k1 z6 z10))
 (k1 z6 false))))
 (k1 z6 false))
 x1 x2 (↑(List.length x1)) 0 (↑(List.length x1))
structure l6r19 (k1 : Int → Int → Int → (List q0) → (List Int) → (List (List Int)) → (List tLO) → (List Int) → Prop) (s1 s2 s3 : Int) (s4 : List q0) (s5 : List Int) (s6 : List (List Int)) (s7 : List tLO) (s8 s9 : List Int) : Prop where
of :
 ∀ (I1 : Int → Int → Int → (List q0) → (List Int) → (List (List Int)) → (List tLO) → (List Int) → (List Int) → Prop) (I2 : Int → Nat → Nat → Nat → Int → Int → (List q0) → (List Int) → (List (List Int)) → (List tLO) → (List Int) → (List Int) → Prop),
 (∀ (s1 s2 s3 : Int) (s4 : List q0) (s5 : List Int) (s6 : List (List Int)) (s7 : List tLO) (s8 s9 : List Int), (br (decide (((↑(List.length s8)) : Int) > 0))
 (br (decide ((0 : Int) ≤ (IntKind.wrap .i64 ((↑(List.length s8)) - 1)) ∧ ((IntKind.wrap .i64 ((↑(List.length s8)) - 1)) : Int) < (↑(List.length s8))))
 (need False (s8)[(Int.toNat (IntKind.wrap .i64 ((↑(List.length s8)) - 1)))]? fun y10 =>
 br (decide ((0 : Int) ≤ 0 ∧ (0 : Int) ≤ (IntKind.wrap .i64 ((↑(List.length s8)) - 1)) ∧ ((IntKind.wrap .i64 ((↑(List.length s8)) - 1)) : Int) ≤ (↑(List.length s8)) ∧ ((↑(List.length s8)) : Int) ≤ (↑(List.length s8))))
 (c19 s5 y10
 (fun z11 z12 => br (z12)
 (c20 s9 y10
 (fun z13 => br (!z13)
 (br (roomB ((List.length s9) + 1) 8)
 (br (decide (0 ≤ y10 ∧ y10 < (↑(List.length s6))))
 (need False (s6)[(Int.toNat y10)]? fun y14 =>
 need False (s6)[(Int.toNat y10)]? fun y15 =>
 br (decide (((Int.toNat ((IntKind.wrap .i64 ((↑(List.length s8)) - 1)) - 0)) + (List.length y15)) ≤ (Int.toNat ((↑(List.length s8)) - 0))))
 (I2 s1 0 ((Int.toNat ((IntKind.wrap .i64 ((↑(List.length s8)) - 1)) - 0)) + (List.length y15)) (Int.toNat ((↑(List.length s8)) - 0)) s2 s3 s4 s5 (List.set s6 (Int.toNat y10) y15) s7 (((List.take (0 + (Int.toNat ((IntKind.wrap .i64 ((↑(List.length s8)) - 1)) - 0))) s8) ++ y15) ++ (List.drop ((0 + (Int.toNat ((IntKind.wrap .i64 ((↑(List.length s8)) - 1)) - 0))) + (List.length y15)) s8)) (s9 ++ [y10]))
 (br (roomB ((Int.toNat ((IntKind.wrap .i64 ((↑(List.length s8)) - 1)) - 0)) + (List.length y15)) 8)
 (I1 s1 s2 s3 s4 s5 (List.set s6 (Int.toNat y10) y15) s7 ((List.take (Int.toNat ((IntKind.wrap .i64 ((↑(List.length s8)) - 1)) - 0)) s8) ++ y15) (s9 ++ [y10]))
 False))
 False)
 False)
 (I2 s1 0 (Int.toNat ((IntKind.wrap .i64 ((↑(List.length s8)) - 1)) - 0)) (Int.toNat ((↑(List.length s8)) - 0)) s2 s3 s4 s5 s6 s7 s8 s9)))
 (I2 s1 0 (Int.toNat ((IntKind.wrap .i64 ((↑(List.length s8)) - 1)) - 0)) (Int.toNat ((↑(List.length s8)) - 0)) s2 s3 s4 s5 s6 s7 s8 s9)))
 False)
 False)
 (k1 s1 s2 s3 s4 s5 s6 s7 s9)) → I1 s1 s2 s3 s4 s5 s6 s7 s8 s9) →
 (∀ (s16 : Int) (s17 s18 s19 : Nat) (s20 s21 : Int) (s22 : List q0) (s23 : List Int) (s24 : List (List Int)) (s25 : List tLO) (s26 s27 : List Int), (br (decide ((((s18 : Nat) : Int) : Int) > 0))
 (br (decide ((0 : Int) ≤ (IntKind.wrap .i64 (((s18 : Nat) : Int) - 1)) ∧ ((IntKind.wrap .i64 (((s18 : Nat) : Int) - 1)) : Int) < ((s18 : Nat) : Int)))
 (need False (s26)[(s17 + (Int.toNat (IntKind.wrap .i64 (((s18 : Nat) : Int) - 1))))]? fun y28 =>
 br (decide ((0 : Int) ≤ 0 ∧ (0 : Int) ≤ (IntKind.wrap .i64 (((s18 : Nat) : Int) - 1)) ∧ ((IntKind.wrap .i64 (((s18 : Nat) : Int) - 1)) : Int) ≤ ((s19 : Nat) : Int) ∧ (((s19 : Nat) : Int) : Int) ≤ ((s19 : Nat) : Int)))
 (c19 s23 y28
 (fun z29 z30 => br (z30)
 (c20 s27 y28
 (fun z31 => br (!z31)
 (br (roomB ((List.length s27) + 1) 8)
 (br (decide (0 ≤ y28 ∧ y28 < (↑(List.length s24))))
 (need False (s24)[(Int.toNat y28)]? fun y32 =>
 need False (s24)[(Int.toNat y28)]? fun y33 =>
 br (decide (((Int.toNat ((IntKind.wrap .i64 (((s18 : Nat) : Int) - 1)) - 0)) + (List.length y33)) ≤ (Int.toNat (((s19 : Nat) : Int) - 0))))
 (I2 s16 (s17 + 0) ((Int.toNat ((IntKind.wrap .i64 (((s18 : Nat) : Int) - 1)) - 0)) + (List.length y33)) (Int.toNat (((s19 : Nat) : Int) - 0)) s20 s21 s22 s23 (List.set s24 (Int.toNat y28) y33) s25 (((List.take ((s17 + 0) + (Int.toNat ((IntKind.wrap .i64 (((s18 : Nat) : Int) - 1)) - 0))) s26) ++ y33) ++ (List.drop (((s17 + 0) + (Int.toNat ((IntKind.wrap .i64 (((s18 : Nat) : Int) - 1)) - 0))) + (List.length y33)) s26)) (s27 ++ [y28]))
 (br (roomB ((Int.toNat ((IntKind.wrap .i64 (((s18 : Nat) : Int) - 1)) - 0)) + (List.length y33)) 8)
 (br (decide ((s17 + 0) = 0))
 (I1 s16 s20 s21 s22 s23 (List.set s24 (Int.toNat y28) y33) s25 ((List.take (Int.toNat ((IntKind.wrap .i64 (((s18 : Nat) : Int) - 1)) - 0)) s26) ++ y33) (s27 ++ [y28]))
 ((I1 s16 s20 s21 s22 s23 (List.set s24 (Int.toNat y28) y33) s25 ((List.take (Int.toNat ((IntKind.wrap .i64 (((s18 : Nat) : Int) - 1)) - 0)) (List.drop (s17 + 0) s26)) ++ y33) (s27 ++ [y28])) ∧
 (I2 s16 (s17 + 0) ((Int.toNat ((IntKind.wrap .i64 (((s18 : Nat) : Int) - 1)) - 0)) + (List.length y33)) ((Int.toNat ((IntKind.wrap .i64 (((s18 : Nat) : Int) - 1)) - 0)) + (List.length y33)) s20 s21 s22 s23 (List.set s24 (Int.toNat y28) y33) s25 ((List.take ((s17 + 0) + (Int.toNat ((IntKind.wrap .i64 (((s18 : Nat) : Int) - 1)) - 0))) s26) ++ y33) (s27 ++ [y28]))))
 False))
 False)
 False)
 (I2 s16 (s17 + 0) (Int.toNat ((IntKind.wrap .i64 (((s18 : Nat) : Int) - 1)) - 0)) (Int.toNat (((s19 : Nat) : Int) - 0)) s20 s21 s22 s23 s24 s25 s26 s27)))
 (I2 s16 (s17 + 0) (Int.toNat ((IntKind.wrap .i64 (((s18 : Nat) : Int) - 1)) - 0)) (Int.toNat (((s19 : Nat) : Int) - 0)) s20 s21 s22 s23 s24 s25 s26 s27)))
 False)
 False)
 (k1 s16 s20 s21 s22 s23 s24 s25 s27)) → I2 s16 s17 s18 s19 s20 s21 s22 s23 s24 s25 s26 s27) →
 I1 s1 s2 s3 s4 s5 s6 s7 s8 s9
structure l6r8 (k1 : (List tLO) → Prop) (s1 s2 : Int) (s3 : List q0) (s4 : List Int) (s5 : List (List Int)) (s6 : List tLO) : Prop where
of :
 ∀ (I1 : Int → Int → (List q0) → (List Int) → (List (List Int)) → (List tLO) → Prop),
 (∀ (s1 s2 : Int) (s3 : List q0) (s4 : List Int) (s5 : List (List Int)) (s6 : List tLO), (br (decide (s2 < s1))
 (l6r12
 (fun z7 z8 z9 z10 z11 z12 z13 z14 => br (((↑(List.length z14)) : Int) == 0)
 (I1 z8 (IntKind.wrap .i64 (z9 + 1)) z10 z11 z12 z13)
 (l6r19
 (fun z15 z16 z17 z18 z19 z20 z21 z22 => c21 z22
 (fun z23 => br (roomB ((List.length z21) + 1) 40)
 (I1 z16 (IntKind.wrap .i64 (z17 + 1)) z18 z19 z20 (z21 ++ [(z15, z23, (-1), ())]))
 False))
 z7 z8 z9 z10 z11 z12 z13 z14 [z7]))
 s2 s1 s2 (↑(List.length s3)) 0 s3 s4 s5 s6 [])
 (k1 s6)) → I1 s1 s2 s3 s4 s5 s6) →
 I1 s1 s2 s3 s4 s5 s6
structure l22r4 (k1 : Int → Int → (List tLO) → Prop) (s1 s2 s3 s4 s5 : Int) (s6 : List tLO) : Prop where
of :
 ∀ (I1 : Int → Int → Int → Int → Int → (List tLO) → Prop),
 (∀ (s1 s2 s3 s4 s5 : Int) (s6 : List tLO), (br (decide (s5 < s4))
 (br (decide (0 ≤ s5 ∧ s5 < (↑(List.length s6))))
 (need False (s6)[(Int.toNat s5)]? fun y7 =>
 br (s5 == s1)
 (I1 s1 s2 s3 s4 (IntKind.wrap .i64 (s5 + 1)) s6)
 (br (decide (0 ≤ s1 ∧ s1 < (↑(List.length s6))))
 (need False (s6)[(Int.toNat s1)]? fun y8 =>
 br (eqT (.int .i64) s1 s1)
 (br (decide (0 ≤ s1 ∧ s1 < (↑(List.length s6))))
 (br ((decide ((Int.toNat s1) = (Int.toNat s1))) && true)
 (br ((decide ((Int.toNat s1) = (Int.toNat s1))) && true)
 (need False (s6)[(Int.toNat s1)]? fun y9 =>
 br (eqT (.int .i64) y8.1 y9.1)
 (c20 y7.2.1 y8.1
 (fun z10 => br (!z10)
 (I1 s1 s2 s3 s4 (IntKind.wrap .i64 (s5 + 1)) s6)
 (br (decide (0 ≤ s1 ∧ s1 < (↑(List.length s6))))
 (need False (s6)[(Int.toNat s1)]? fun y11 =>
 br (decide ((y11.2.2.1 : Int) < 0))
 ((br (decide (0 ≤ s1 ∧ s1 < (↑(List.length s6))))
 (need False (s6)[(Int.toNat s1)]? fun y12 =>
 I1 s1 s2 s3 s4 (IntKind.wrap .i64 (s5 + 1)) (List.set s6 (Int.toNat s1) (y12.1, y12.2.1, s5, y12.2.2.2)))
 False) ∧
 (br (decide (0 ≤ s1 ∧ s1 < (↑(List.length s6))))
 (need False (s6)[(Int.toNat s1)]? fun y13 =>
 I1 s1 s2 s3 s4 (IntKind.wrap .i64 (s5 + 1)) (List.set s6 (Int.toNat s1) (y13.1, y13.2.1, s5, y13.2.2.2)))
 False))
 (br (decide ((0 : Int) ≤ y11.2.2.1 ∧ (y11.2.2.1 : Int) < (↑(List.length s6))))
 ((br (eqT (.int .i64) y11.2.2.1 y11.2.2.1)
 (br (decide ((0 : Int) ≤ y11.2.2.1 ∧ (y11.2.2.1 : Int) < (↑(List.length s6))))
 (br ((decide ((Int.toNat y11.2.2.1) = (Int.toNat y11.2.2.1))) && true)
 (br ((decide ((Int.toNat y11.2.2.1) = (Int.toNat y11.2.2.1))) && true)
 (need False (s6)[(Int.toNat y11.2.2.1)]? fun y14 =>
 br (eqT (.int .i64) (((List.length y7.2.1) : Nat) : Int) (((List.length y7.2.1) : Nat) : Int))
 (br (decide (((↑(List.length y7.2.1)) : Int) < (↑(List.length y14.2.1))))
 (br (decide (0 ≤ s1 ∧ s1 < (↑(List.length s6))))
 (need False (s6)[(Int.toNat s1)]? fun y15 =>
 I1 s1 s2 s3 s4 (IntKind.wrap .i64 (s5 + 1)) (List.set s6 (Int.toNat s1) (y15.1, y15.2.1, s5, y15.2.2.2)))
 False)
 (I1 s1 s2 s3 s4 (IntKind.wrap .i64 (s5 + 1)) s6))
 False)
 False)
 False)
 False)
 False) ∧
 (need False (s6)[(Int.toNat y11.2.2.1)]? fun y16 =>
 br (true && true)
 (br (eqT (.int .i64) (((List.length y16.2.1) : Nat) : Int) (((List.length y16.2.1) : Nat) : Int))
 (br (decide (((↑(List.length y7.2.1)) : Int) < (↑(List.length y16.2.1))))
 (br (decide (0 ≤ s1 ∧ s1 < (↑(List.length s6))))
 (need False (s6)[(Int.toNat s1)]? fun y17 =>
 I1 s1 s2 s3 s4 (IntKind.wrap .i64 (s5 + 1)) (List.set s6 (Int.toNat s1) (y17.1, y17.2.1, s5, y17.2.2.2)))
 False)
 (I1 s1 s2 s3 s4 (IntKind.wrap .i64 (s5 + 1)) s6))
 False)
 False))
 False))
 False)))
 False)
 False)
 False)
 False)
 False)
 False))
 False)
 (k1 s2 s3 s6)) → I1 s1 s2 s3 s4 s5 s6) →
 I1 s1 s2 s3 s4 s5 s6
structure l22r1 (k1 : (List tLO) → Prop) (s1 s2 : Int) (s3 : List tLO) : Prop where
of :
 ∀ (I1 : Int → Int → (List tLO) → Prop),
 (∀ (s1 s2 : Int) (s3 : List tLO), (br (decide (s2 < s1))
 (l22r4
 (fun z4 z5 z6 => I1 z4 (IntKind.wrap .i64 (z5 + 1)) z6)
 s2 s1 s2 (↑(List.length s3)) 0 s3)
 (k1 s3)) → I1 s1 s2 s3) →
 I1 s1 s2 s3
structure c22 (x1 : List tLO) (k1 : (List tLO) → Prop) : Prop where
of :
 l22r1
 (fun z2 => k1 z2)
 (↑(List.length x1)) 0 x1
structure c6 (x1 : tFU) (k1 : Int → (List tLO) → Prop) : Prop where
of :
 c16 x1
 (fun z2 z3 => br (z2 != 0)
 (k1 z2 [])
 (c17 x1
 (fun z4 z5 => c18 x1
 (fun z6 z7 => l6r8
 (fun z8 => c22 z8
 (fun z9 => k1 0 z9))
 (↑(List.length x1.2.1)) 0 z3 z5 z7 []))))
structure l46r2 (k1 : Int → Prop) (k2 : Prop) (s1 : List q0) (s2 s3 : Int) (s4 : Int × Int × Unit) : Prop where
of :
 ∀ (I1 : (List q0) → Int → Int → q0 → Prop),
 (∀ (s1 : List q0) (s2 s3 : Int) (s4 : Int × Int × Unit), (br (decide (s3 < s2))
 (need False (at? s1 s3) fun y5 =>
 br (((s4.1 : Int) == y5.1) && (((s4.2.1 : Int) == y5.2.1) && true))
 (k1 s3)
 (I1 s1 s2 (IntKind.wrap .i64 (s3 + 1)) s4))
 (k2)) → I1 s1 s2 s3 s4) →
 I1 s1 s2 s3 s4
structure c46 (x1 : List q0) (x2 : Int × Int × Unit) (k1 : Int → Prop) : Prop where
of :
 l46r2
 (fun z3 => k1 z3)
 (k1 (-1))
 x1 (↑(List.length x1)) 0 x2
structure c31 (x1 : List q0) (x2 : Int × Int × Unit) (k1 : Bool → Prop) : Prop where
of :
 c46 x1 x2
 (fun z3 => k1 (decide ((z3 : Int) ≥ 0)))
structure c32 (x1 : Int) (x2 : List Int) (k1 : (List Int) → Prop) : Prop where
of :
 br (decide (0 ≤ x1 ∧ x1 < (↑(List.length x2))))
 (need False (x2)[(Int.toNat x1)]? fun y3 =>
 br (decide (0 ≤ x1 ∧ x1 < (↑(List.length x2))))
 (need False (x2)[(Int.toNat x1)]? fun y4 =>
 k1 (List.set x2 (Int.toNat x1) (IntKind.wrap .i64 (y3 + 1))))
 False)
 False
structure l30r1 (k1 : (List Int) → tFU → (List q0) → Prop) (s1 : Int) (s2 : List tED) (s3 s4 : Int) (s5 : List Int) (s6 : tFU) (s7 : List q0) : Prop where
of :
 ∀ (I1 : Int → (List tED) → Int → Int → (List Int) → tFU → (List q0) → Prop),
 (∀ (s1 : Int) (s2 : List tED) (s3 s4 : Int) (s5 : List Int) (s6 : tFU) (s7 : List q0), (br (decide (s4 < s3))
 (need False (at? s2 s4) fun y8 =>
 c31 s7 (s1, y8.1, ())
 (fun z9 => br (!z9)
 (c32 y8.1 s5
 (fun z10 => I1 s1 s2 s3 (IntKind.wrap .i64 (s4 + 1)) z10 s6 s7))
 (I1 s1 s2 s3 (IntKind.wrap .i64 (s4 + 1)) s5 s6 s7)))
 (k1 s5 s6 s7)) → I1 s1 s2 s3 s4 s5 s6 s7) →
 I1 s1 s2 s3 s4 s5 s6 s7
structure c30 (x1 : Int) (x2 : List Int) (x3 : tFU) (x4 : List q0) (k1 : (List Int) → tFU → (List q0) → Prop) : Prop where
of :
 need False (at? x3.2.1 x1) fun y5 =>
 l30r1
 (fun z6 z7 z8 => k1 z6 z7 z8)
 x1 y5.2.2.1.2.2.2.2.1 (↑(List.length y5.2.2.1.2.2.2.2.1)) 0 x2 x3 x4
structure l14r8 (k1 : (List Int) → (List Int) → tFU → (List q0) → Prop) (s1 s2 : Int) (s3 s4 : List Int) (s5 : tFU) (s6 : List q0) : Prop where
of :
 ∀ (I1 : Int → Int → (List Int) → (List Int) → tFU → (List q0) → Prop),
 (∀ (s1 s2 : Int) (s3 s4 : List Int) (s5 : tFU) (s6 : List q0), (br (decide (s2 < s1))
 (br (decide (0 ≤ s2 ∧ s2 < (↑(List.length s3))))
 (need False (s3)[(Int.toNat s2)]? fun y7 =>
 c30 y7 s4 s5 s6
 (fun z8 z9 z10 => I1 s1 (IntKind.wrap .i64 (s2 + 1)) s3 z8 z9 z10))
 False)
 (k1 s3 s4 s5 s6)) → I1 s1 s2 s3 s4 s5 s6) →
 I1 s1 s2 s3 s4 s5 s6
structure c33 (x1 : Int) (x2 : List Int) (x3 x4 x5 : Nat) (x6 : List Int) (k1 : (List Int) → Nat → Nat → Nat → (List Int) → Prop) (k2 : (List Int) → (List Int) → Prop) (k3 : (List Int) → Nat → Nat → Nat → (List Int) → Prop) : Prop where
of :
 br (decide (0 ≤ x1 ∧ x1 < (↑(List.length x2))))
 (need False (x2)[(Int.toNat x1)]? fun y7 =>
 br (decide (0 ≤ x1 ∧ x1 < (↑(List.length x2))))
 (need False (x2)[(Int.toNat x1)]? fun y8 =>
 br (decide (0 ≤ x1 ∧ x1 < (↑(List.length (List.set x2 (Int.toNat x1) (IntKind.wrap .i64 (y7 - 1)))))))
 (need False ((List.set x2 (Int.toNat x1) (IntKind.wrap .i64 (y7 - 1))))[(Int.toNat x1)]? fun y9 =>
 br (y9 == 0)
 (br (decide ((x4 + 1) ≤ x5))
 (k1 (List.set x2 (Int.toNat x1) (IntKind.wrap .i64 (y7 - 1))) x3 (x4 + 1) x5 (((List.take (x3 + x4) x6) ++ [x1]) ++ (List.drop ((x3 + x4) + 1) x6)))
 (br (roomB (x4 + 1) 8)
 (br (decide (x3 = 0))
 (k2 (List.set x2 (Int.toNat x1) (IntKind.wrap .i64 (y7 - 1))) ((List.take x4 x6) ++ [x1]))
 ((k2 (List.set x2 (Int.toNat x1) (IntKind.wrap .i64 (y7 - 1))) ((List.take x4 (List.drop x3 x6)) ++ [x1])) ∧
 (k3 (List.set x2 (Int.toNat x1) (IntKind.wrap .i64 (y7 - 1))) x3 (x4 + 1) (x4 + 1) ((List.take (x3 + x4) x6) ++ [x1]))))
 False))
 (k1 (List.set x2 (Int.toNat x1) (IntKind.wrap .i64 (y7 - 1))) x3 x4 x5 x6))
 False)
 False)
 False
structure c33v2 (x1 : Int) (x2 x3 : List Int) (k1 k2 : (List Int) → (List Int) → Prop) : Prop where
of :
 br (decide (0 ≤ x1 ∧ x1 < (↑(List.length x2))))
 (need False (x2)[(Int.toNat x1)]? fun y4 =>
 br (decide (0 ≤ x1 ∧ x1 < (↑(List.length x2))))
 (need False (x2)[(Int.toNat x1)]? fun y5 =>
 br (decide (0 ≤ x1 ∧ x1 < (↑(List.length (List.set x2 (Int.toNat x1) (IntKind.wrap .i64 (y4 - 1)))))))
 (need False ((List.set x2 (Int.toNat x1) (IntKind.wrap .i64 (y4 - 1))))[(Int.toNat x1)]? fun y6 =>
 br (y6 == 0)
 (br (roomB ((List.length x3) + 1) 8)
 (k1 (List.set x2 (Int.toNat x1) (IntKind.wrap .i64 (y4 - 1))) (x3 ++ [x1]))
 False)
 (k2 (List.set x2 (Int.toNat x1) (IntKind.wrap .i64 (y4 - 1))) x3))
 False)
 False)
 False
structure l30r1v2 (k1 : (List Int) → Nat → Nat → Nat → (List Int) → tFU → (List q0) → Prop) (k2 : (List Int) → tFU → (List q0) → (List Int) → Prop) (k3 : (List Int) → Nat → Nat → Nat → tFU → (List q0) → (List Int) → Prop) (s1 : Int) (s2 : List tED) (s3 s4 : Int) (s5 : List Int) (s6 s7 s8 : Nat) (s9 : List Int) (s10 : tFU) (s11 : List q0) : Prop where
of :
 ∀ (I1 : Int → (List tED) → Int → Int → (List Int) → Nat → Nat → Nat → (List Int) → tFU → (List q0) → Prop) (I2 : Int → (List tED) → Int → Int → (List Int) → tFU → (List q0) → (List Int) → Prop) (I3 : Int → (List tED) → Int → Int → (List Int) → Nat → Nat → Nat → tFU → (List q0) → (List Int) → Prop),
 (∀ (s1 : Int) (s2 : List tED) (s3 s4 : Int) (s5 : List Int) (s6 s7 s8 : Nat) (s9 : List Int) (s10 : tFU) (s11 : List q0), (br (decide (s4 < s3))
 (need False (at? s2 s4) fun y12 =>
 c31 s11 (s1, y12.1, ())
 (fun z13 => br (!z13)
 (c33 y12.1 s5 s6 s7 s8 s9
 (fun z14 z15 z16 z17 z18 => I1 s1 s2 s3 (IntKind.wrap .i64 (s4 + 1)) z14 z15 z16 z17 z18 s10 s11)
 (fun z19 z20 => I2 s1 s2 s3 (IntKind.wrap .i64 (s4 + 1)) z19 s10 s11 z20)
 (fun z21 z22 z23 z24 z25 => I3 s1 s2 s3 (IntKind.wrap .i64 (s4 + 1)) z21 z22 z23 z24 s10 s11 z25))
 (I1 s1 s2 s3 (IntKind.wrap .i64 (s4 + 1)) s5 s6 s7 s8 s9 s10 s11)))
 (k1 s5 s6 s7 s8 s9 s10 s11)) → I1 s1 s2 s3 s4 s5 s6 s7 s8 s9 s10 s11) →
 (∀ (s26 : Int) (s27 : List tED) (s28 s29 : Int) (s30 : List Int) (s31 : tFU) (s32 : List q0) (s33 : List Int), (br (decide (s29 < s28))
 (need False (at? s27 s29) fun y34 =>
 c31 s32 (s26, y34.1, ())
 (fun z35 => br (!z35)
 (c33v2 y34.1 s30 s33
 (fun z36 z37 => I2 s26 s27 s28 (IntKind.wrap .i64 (s29 + 1)) z36 s31 s32 z37)
 (fun z38 z39 => I2 s26 s27 s28 (IntKind.wrap .i64 (s29 + 1)) z38 s31 s32 z39))
 (I2 s26 s27 s28 (IntKind.wrap .i64 (s29 + 1)) s30 s31 s32 s33)))
 (k2 s30 s31 s32 s33)) → I2 s26 s27 s28 s29 s30 s31 s32 s33) →
 (∀ (s40 : Int) (s41 : List tED) (s42 s43 : Int) (s44 : List Int) (s45 s46 s47 : Nat) (s48 : tFU) (s49 : List q0) (s50 : List Int), (br (decide (s43 < s42))
 (need False (at? s41 s43) fun y51 =>
 c31 s49 (s40, y51.1, ())
 (fun z52 => br (!z52)
 (c33 y51.1 s44 s45 s46 s47 s50
 (fun z53 z54 z55 z56 z57 => I3 s40 s41 s42 (IntKind.wrap .i64 (s43 + 1)) z53 z54 z55 z56 s48 s49 z57)
 (fun z58 z59 => I2 s40 s41 s42 (IntKind.wrap .i64 (s43 + 1)) z58 s48 s49 z59)
 (fun z60 z61 z62 z63 z64 => I3 s40 s41 s42 (IntKind.wrap .i64 (s43 + 1)) z60 z61 z62 z63 s48 s49 z64))
 (I3 s40 s41 s42 (IntKind.wrap .i64 (s43 + 1)) s44 s45 s46 s47 s48 s49 s50)))
 (k3 s44 s45 s46 s47 s48 s49 s50)) → I3 s40 s41 s42 s43 s44 s45 s46 s47 s48 s49 s50) →
 I1 s1 s2 s3 s4 s5 s6 s7 s8 s9 s10 s11
structure c30v2 (x1 : Int) (x2 : List Int) (x3 x4 x5 : Nat) (x6 : List Int) (x7 : tFU) (x8 : List q0) (k1 : (List Int) → Nat → Nat → Nat → (List Int) → tFU → (List q0) → Prop) (k2 : (List Int) → tFU → (List q0) → (List Int) → Prop) (k3 : (List Int) → Nat → Nat → Nat → tFU → (List q0) → (List Int) → Prop) : Prop where
of :
 need False (at? x7.2.1 x1) fun y9 =>
 l30r1v2
 (fun z10 z11 z12 z13 z14 z15 z16 => k1 z10 z11 z12 z13 z14 z15 z16)
 (fun z17 z18 z19 z20 => k2 z17 z18 z19 z20)
 (fun z21 z22 z23 z24 z25 z26 z27 => k3 z21 z22 z23 z24 z25 z26 z27)
 x1 y9.2.2.1.2.2.2.2.1 (↑(List.length y9.2.2.1.2.2.2.2.1)) 0 x2 x3 x4 x5 x6 x7 x8
structure l14r14 (k1 : Int → (List Int) → Prop) (s1 : Int) (s2 s3 : List Int) (s4 : tFU) (s5 : List q0) (s6 : List Int) : Prop where
of :
 ∀ (I1 : Int → (List Int) → (List Int) → tFU → (List q0) → (List Int) → Prop) (I2 : Int → (List Int) → (List Int) → tFU → (List q0) → Nat → Nat → Nat → (List Int) → Prop),
 (∀ (s1 : Int) (s2 s3 : List Int) (s4 : tFU) (s5 : List q0) (s6 : List Int), (br (decide (((↑(List.length s6)) : Int) > 0))
 (br (decide ((0 : Int) ≤ (IntKind.wrap .i64 ((↑(List.length s6)) - 1)) ∧ ((IntKind.wrap .i64 ((↑(List.length s6)) - 1)) : Int) < (↑(List.length s6))))
 (need False (s6)[(Int.toNat (IntKind.wrap .i64 ((↑(List.length s6)) - 1)))]? fun y7 =>
 br (decide ((0 : Int) ≤ 0 ∧ (0 : Int) ≤ (IntKind.wrap .i64 ((↑(List.length s6)) - 1)) ∧ ((IntKind.wrap .i64 ((↑(List.length s6)) - 1)) : Int) ≤ (↑(List.length s6)) ∧ ((↑(List.length s6)) : Int) ≤ (↑(List.length s6))))
 (c30v2 y7 s3 0 (Int.toNat ((IntKind.wrap .i64 ((↑(List.length s6)) - 1)) - 0)) (Int.toNat ((↑(List.length s6)) - 0)) s6 s4 s5
 (fun z8 z9 z10 z11 z12 z13 z14 => I2 (IntKind.wrap .i64 (s1 + 1)) s2 z8 z13 z14 z9 z10 z11 z12)
 (fun z15 z16 z17 z18 => I1 (IntKind.wrap .i64 (s1 + 1)) s2 z15 z16 z17 z18)
 (fun z19 z20 z21 z22 z23 z24 z25 => I2 (IntKind.wrap .i64 (s1 + 1)) s2 z19 z23 z24 z20 z21 z22 z25))
 False)
 False)
 (k1 s1 s2)) → I1 s1 s2 s3 s4 s5 s6) →
 (∀ (s26 : Int) (s27 s28 : List Int) (s29 : tFU) (s30 : List q0) (s31 s32 s33 : Nat) (s34 : List Int), (br (decide ((((s32 : Nat) : Int) : Int) > 0))
 (br (decide ((0 : Int) ≤ (IntKind.wrap .i64 (((s32 : Nat) : Int) - 1)) ∧ ((IntKind.wrap .i64 (((s32 : Nat) : Int) - 1)) : Int) < ((s32 : Nat) : Int)))
 (need False (s34)[(s31 + (Int.toNat (IntKind.wrap .i64 (((s32 : Nat) : Int) - 1))))]? fun y35 =>
 br (decide ((0 : Int) ≤ 0 ∧ (0 : Int) ≤ (IntKind.wrap .i64 (((s32 : Nat) : Int) - 1)) ∧ ((IntKind.wrap .i64 (((s32 : Nat) : Int) - 1)) : Int) ≤ ((s33 : Nat) : Int) ∧ (((s33 : Nat) : Int) : Int) ≤ ((s33 : Nat) : Int)))
 (c30v2 y35 s28 (s31 + 0) (Int.toNat ((IntKind.wrap .i64 (((s32 : Nat) : Int) - 1)) - 0)) (Int.toNat (((s33 : Nat) : Int) - 0)) s34 s29 s30
 (fun z36 z37 z38 z39 z40 z41 z42 => I2 (IntKind.wrap .i64 (s26 + 1)) s27 z36 z41 z42 z37 z38 z39 z40)
 (fun z43 z44 z45 z46 => I1 (IntKind.wrap .i64 (s26 + 1)) s27 z43 z44 z45 z46)
 (fun z47 z48 z49 z50 z51 z52 z53 => I2 (IntKind.wrap .i64 (s26 + 1)) s27 z47 z51 z52 z48 z49 z50 z53))
 False)
 False)
 (k1 s26 s27)) → I2 s26 s27 s28 s29 s30 s31 s32 s33 s34) →
 I1 s1 s2 s3 s4 s5 s6
structure c14 (x1 : tFU) (k1 : Bool → Int → Prop) : Prop where
of :
 c16 x1
 (fun z2 z3 => br (z2 != 0)
 (k1 false z2)
 (c17 x1
 (fun z4 z5 => br (decide ((0 : Int) ≤ (↑(List.length x1.2.1)) ∧ ((↑(List.length x1.2.1)) : Int) ≤ (↑(List.length x1.2.1)) ∧ (((↑(List.length x1.2.1)) * 8) : Int) ≤ 140737488355328))
 (l14r8
 (fun z6 z7 z8 z9 => l14r14
 (fun z10 z11 => k1 ((z10 : Int) == (↑(List.length z11))) 0)
 0 z6 z7 z8 z9 [0])
 (↑(List.length z5)) 0 z5 (List.replicate (Int.toNat (↑(List.length x1.2.1))) (0 : Int)) x1 z3)
 False)))
structure l11r4 (k1 : Bool → Prop) (k2 : Prop) (s1 s2 : List Int) (s3 s4 : Int) : Prop where
of :
 ∀ (I1 : (List Int) → (List Int) → Int → Int → Prop),
 (∀ (s1 s2 : List Int) (s3 s4 : Int), (br (decide (s4 < s3))
 (need False (at? s2 s4) fun y5 =>
 need False (at? s1 s4) fun y6 =>
 br (y6 != y5)
 (k1 false)
 (I1 s1 s2 s3 (IntKind.wrap .i64 (s4 + 1))))
 (k2)) → I1 s1 s2 s3 s4) →
 I1 s1 s2 s3 s4
structure c11 (x1 x2 : List Int) (k1 : Bool → Prop) : Prop where
of :
 br (((↑(List.length x1)) : Int) != (↑(List.length x2)))
 (k1 false)
 (l11r4
 (fun z3 => k1 z3)
 (k1 true)
 x2 x1 (↑(List.length x1)) 0)
structure c4 (k1 : Bool → Prop) : Prop where
of :
 c13 
 (fun z1 z2 => br (decide ((0 : Int) ≤ 3 ∧ (3 : Int) < (↑(List.length z2))))
 (need False (z2)[3]? fun y3 =>
 br (roomB ((List.length (List.set z2 3 (y3.1, y3.2.1, (2, 1, 0, [], [(3, [], ()), (4, [], ())], ()), y3.2.2.2))) + 1) 120)
 (c6 (z1, ((List.set z2 3 (y3.1, y3.2.1, (2, 1, 0, [], [(3, [], ()), (4, [], ())], ()), y3.2.2.2)) ++ [([], [], (0, 1, 0, [], [], ()), ())]), ())
 (fun z4 z5 => c14 (z1, ((List.set z2 3 (y3.1, y3.2.1, (2, 1, 0, [], [(3, [], ()), (4, [], ())], ()), y3.2.2.2)) ++ [([], [], (0, 1, 0, [], [], ()), ())]), ())
 (fun z6 z7 => br (z4 == 0)
 (br (((↑(List.length z5)) : Int) == 1)
 (br (decide ((0 : Int) ≤ 0 ∧ (0 : Int) < (↑(List.length z5))))
 (need False (z5)[0]? fun y8 =>
 br ((y8.1 : Int) == 3)
 (br (decide ((0 : Int) ≤ 0 ∧ (0 : Int) < (↑(List.length z5))))
 (need False (z5)[0]? fun y9 =>
 br ((y9.2.2.1 : Int) == (-1))
 (br (decide ((0 : Int) ≤ 0 ∧ (0 : Int) < (↑(List.length z5))))
 (need False (z5)[0]? fun y10 =>
 c11 y10.2.1 [3]
 (fun z11 => br (z11)
 (br (z7 == 0)
 (k1 z6)
 (k1 false))
 (k1 false)))
 False)
 (k1 false))
 False)
 (k1 false))
 False)
 (k1 false))
 (k1 false))))
 False)
 False)
structure l15r6 (k1 : Int → (List tBK) → Int → Int → tBK → Prop) (s1 : Int) (s2 : List tBK) (s3 s4 : Int) (s5 : List Int) (s6 s7 : Int) (s8 : tBK) : Prop where
of :
 ∀ (I1 : Int → (List tBK) → Int → Int → (List Int) → Int → Int → tBK → Prop),
 (∀ (s1 : Int) (s2 : List tBK) (s3 s4 : Int) (s5 : List Int) (s6 s7 : Int) (s8 : tBK), (br (decide (s7 < s6))
 (need False (at? s5 s7) fun y9 =>
 I1 (maxI s1 (IntKind.wrap .i64 (y9 + 1))) s2 s3 s4 s5 s6 (IntKind.wrap .i64 (s7 + 1)) s8)
 (k1 s1 s2 s3 s4 s8)) → I1 s1 s2 s3 s4 s5 s6 s7 s8) →
 I1 s1 s2 s3 s4 s5 s6 s7 s8
structure l15r11 (k1 : Int → (List tBK) → Int → Int → Prop) (s1 : Int) (s2 : List tBK) (s3 s4 : Int) (s5 : List tIN) (s6 s7 : Int) : Prop where
of :
 ∀ (I1 : Int → (List tBK) → Int → Int → (List tIN) → Int → Int → Prop),
 (∀ (s1 : Int) (s2 : List tBK) (s3 s4 : Int) (s5 : List tIN) (s6 s7 : Int), (br (decide (s7 < s6))
 (need False (at? s5 s7) fun y8 =>
 I1 (maxI s1 (IntKind.wrap .i64 (y8.1 + 1))) s2 s3 s4 s5 s6 (IntKind.wrap .i64 (s7 + 1)))
 (k1 s1 s2 s3 s4)) → I1 s1 s2 s3 s4 s5 s6 s7) →
 I1 s1 s2 s3 s4 s5 s6 s7
structure l15r3 (k1 : Int → Prop) (s1 : Int) (s2 : List tBK) (s3 s4 : Int) : Prop where
of :
 ∀ (I1 : Int → (List tBK) → Int → Int → Prop),
 (∀ (s1 : Int) (s2 : List tBK) (s3 s4 : Int), (br (decide (s4 < s3))
 (need False (at? s2 s4) fun y5 =>
 l15r6
 (fun z6 z7 z8 z9 z10 => l15r11
 (fun z11 z12 z13 z14 => I1 z11 z12 z13 (IntKind.wrap .i64 (z14 + 1)))
 z6 z7 z8 z9 z10.2.1 (↑(List.length z10.2.1)) 0)
 s1 s2 s3 s4 y5.1 (↑(List.length y5.1)) 0 y5)
 (k1 s1)) → I1 s1 s2 s3 s4) →
 I1 s1 s2 s3 s4
structure c15 (x1 : tFU) (k1 : Int → Prop) : Prop where
of :
 l15r3
 (fun z2 => k1 z2)
 0 x1.2.1 (↑(List.length x1.2.1)) 0
structure c5 (x1 : tFU) (k1 : Bool → Prop) : Prop where
of :
 br (decide (((↑(List.length x1.2.1)) : Int) ≤ 12))
 (c15 x1
 (fun z2 => k1 (decide ((z2 : Int) ≤ 200))))
 (k1 false)
structure l7r9 (k1 : Int → Int → (List Int) → (List tLO) → Prop) (s1 s2 : Int) (s3 : List Int) (s4 s5 : Int) (s6 : List Int) (s7 : List tLO) : Prop where
of :
 ∀ (I1 : Int → Int → (List Int) → Int → Int → (List Int) → (List tLO) → Prop),
 (∀ (s1 s2 : Int) (s3 : List Int) (s4 s5 : Int) (s6 : List Int) (s7 : List tLO), (br (decide (s5 < s4))
 (need False (at? s3 s5) fun y8 =>
 br (decide (0 ≤ y8 ∧ y8 < (↑(List.length s6))))
 (need False (s6)[(Int.toNat y8)]? fun y9 =>
 br (decide (0 ≤ y8 ∧ y8 < (↑(List.length s6))))
 (need False (s6)[(Int.toNat y8)]? fun y10 =>
 I1 s1 s2 s3 s4 (IntKind.wrap .i64 (s5 + 1)) (List.set s6 (Int.toNat y8) (IntKind.wrap .i64 (y9 + 1))) s7)
 False)
 False)
 (k1 s1 s2 s6 s7)) → I1 s1 s2 s3 s4 s5 s6 s7) →
 I1 s1 s2 s3 s4 s5 s6 s7
structure l7r6 (k1 : (List Int) → Prop) (s1 s2 : Int) (s3 : List Int) (s4 : List tLO) : Prop where
of :
 ∀ (I1 : Int → Int → (List Int) → (List tLO) → Prop),
 (∀ (s1 s2 : Int) (s3 : List Int) (s4 : List tLO), (br (decide (s2 < s1))
 (br (decide (0 ≤ s2 ∧ s2 < (↑(List.length s4))))
 (need False (s4)[(Int.toNat s2)]? fun y5 =>
 l7r9
 (fun z6 z7 z8 z9 => I1 z6 (IntKind.wrap .i64 (z7 + 1)) z8 z9)
 s1 s2 y5.2.1 (↑(List.length y5.2.1)) 0 s3 s4)
 False)
 (k1 s3)) → I1 s1 s2 s3 s4) →
 I1 s1 s2 s3 s4
structure c7 (x1 : tFU) (k1 : Int → (List Int) → Prop) : Prop where
of :
 c6 x1
 (fun z2 z3 => br (z2 != 0)
 (k1 z2 [])
 (br (decide ((0 : Int) ≤ (↑(List.length x1.2.1)) ∧ ((↑(List.length x1.2.1)) : Int) ≤ (↑(List.length x1.2.1)) ∧ (((↑(List.length x1.2.1)) * 8) : Int) ≤ 140737488355328))
 (l7r6
 (fun z4 => k1 0 z4)
 (↑(List.length z3)) 0 (List.replicate (Int.toNat (↑(List.length x1.2.1))) (0 : Int)) z3)
 False))
structure l8r3 (k1 : Int → tFU → Prop) (s1 : Int) (s2 : List tBK) (s3 s4 : Int) (s5 : tFU) : Prop where
of :
 ∀ (I1 : Int → (List tBK) → Int → Int → tFU → Prop),
 (∀ (s1 : Int) (s2 : List tBK) (s3 s4 : Int) (s5 : tFU), (br (decide (s4 < s3))
 (need False (at? s2 s4) fun y6 =>
 I1 (IntKind.wrap .i64 (s1 + (↑(List.length y6.2.1)))) s2 s3 (IntKind.wrap .i64 (s4 + 1)) s5)
 (k1 s1 s5)) → I1 s1 s2 s3 s4 s5) →
 I1 s1 s2 s3 s4 s5
structure c23 (x1 x2 x3 : Int) (k1 : Bool → Prop) : Prop where
of :
 br (decide (x1 ≥ x2))
 (k1 (decide ((x1 : Int) ≤ x3)))
 (k1 false)
structure l12r2 (k1 : Bool → Prop) (k2 : Prop) (s1 : Int) (s2 : List Int) (s3 s4 : Int) : Prop where
of :
 ∀ (I1 : Int → (List Int) → Int → Int → Prop),
 (∀ (s1 : Int) (s2 : List Int) (s3 s4 : Int), (br (decide (s4 < s3))
 (need False (at? s2 s4) fun y5 =>
 br (y5 == s1)
 (k1 true)
 (I1 s1 s2 s3 (IntKind.wrap .i64 (s4 + 1))))
 (k2)) → I1 s1 s2 s3 s4) →
 I1 s1 s2 s3 s4
structure c12 (x1 : List Int) (x2 : Int) (k1 : Bool → Prop) : Prop where
of :
 l12r2
 (fun z3 => k1 z3)
 (k1 false)
 x2 x1 (↑(List.length x1)) 0
structure c43 (x1 : Int) (x2 : List Int) (k1 : Int → Prop) : Prop where
of :
 c23 x1 0 4095
 (fun z3 => br (!z3)
 (k1 4)
 (c12 x2 x1
 (fun z4 => br (z4)
 (k1 7)
 (k1 0))))
structure l24r6 (k1 : Int → Prop) (k2 : (List tBK) → Int → Int → tFU → (List Int) → tBK → Prop) (s1 : List tBK) (s2 s3 : Int) (s4 : List Int) (s5 s6 : Int) (s7 : tFU) (s8 : List Int) (s9 : tBK) : Prop where
of :
 ∀ (I1 : (List tBK) → Int → Int → (List Int) → Int → Int → tFU → (List Int) → tBK → Prop),
 (∀ (s1 : List tBK) (s2 s3 : Int) (s4 : List Int) (s5 s6 : Int) (s7 : tFU) (s8 : List Int) (s9 : tBK), (br (decide (s6 < s5))
 (need False (at? s4 s6) fun y10 =>
 c43 y10 s8
 (fun z11 => br (z11 != 0)
 (k1 z11)
 (br (roomB ((List.length s8) + 1) 8)
 (I1 s1 s2 s3 s4 s5 (IntKind.wrap .i64 (s6 + 1)) s7 (s8 ++ [y10]) s9)
 False)))
 (k2 s1 s2 s3 s7 s8 s9)) → I1 s1 s2 s3 s4 s5 s6 s7 s8 s9) →
 I1 s1 s2 s3 s4 s5 s6 s7 s8 s9
structure c65 (x1 : tIN) (k1 : Int → Prop) : Prop where
of :
 br ((x1.2.1 : Int) == 0)
 (k1 0)
 (br ((x1.2.1 : Int) == 10)
 (k1 1)
 (br ((x1.2.1 : Int) == 11)
 (k1 1)
 (br ((x1.2.1 : Int) == 12)
 (k1 1)
 (br ((x1.2.1 : Int) == 15)
 (k1 1)
 (br ((x1.2.1 : Int) == 17)
 (k1 1)
 (br ((x1.2.1 : Int) == 24)
 (k1 1)
 (br ((x1.2.1 : Int) == 1)
 (k1 2)
 (br ((x1.2.1 : Int) == 2)
 (k1 2)
 (br ((x1.2.1 : Int) == 3)
 (k1 2)
 (br ((x1.2.1 : Int) == 4)
 (k1 2)
 (br ((x1.2.1 : Int) == 5)
 (k1 2)
 (br ((x1.2.1 : Int) == 6)
 (k1 2)
 (br ((x1.2.1 : Int) == 7)
 (k1 2)
 (br ((x1.2.1 : Int) == 16)
 (k1 2)
 (br ((x1.2.1 : Int) == 18)
 (k1 2)
 (br ((x1.2.1 : Int) == 19)
 (k1 2)
 (br ((x1.2.1 : Int) == 21)
 (k1 2)
 (br ((x1.2.1 : Int) == 23)
 (k1 2)
 (br ((x1.2.1 : Int) == 20)
 (k1 3)
 (br ((x1.2.1 : Int) == 8)
 (k1 (-1))
 (br ((x1.2.1 : Int) == 9)
 (k1 (-1))
 (br ((x1.2.1 : Int) == 13)
 (k1 (-1))
 (br ((x1.2.1 : Int) == 14)
 (k1 (-1))
 (br ((x1.2.1 : Int) == 22)
 (br ((x1.2.2.1 : Int) == 2)
 (k1 x1.2.2.1)
 (br ((x1.2.2.1 : Int) == 4)
 (k1 x1.2.2.1)
 (k1 (-2))))
 (k1 (-2))))))))))))))))))))))))))
structure j44s4 (k1 : Int → Prop) (k2 : tIN → Prop) (s1 : Bool) (s2 : tIN) : Prop where
of :
 br (s1)
 (k1 2)
 (k2 s2)
structure c66 (x1 : Int) (k1 : Bool → Prop) : Prop where
of :
 c23 x1 (-1073741824) 1073741823
 (fun z2 => k1 z2)
structure j44r6 (k1 : Int → Prop) (s1 : tIN) : Prop where
of :
 br ((s1.2.1 : Int) == 0)
 (c66 s1.2.2.1
 (fun z2 => br (!z2)
 (k1 4)
 (k1 0)))
 (br ((s1.2.1 : Int) == 8)
 (c23 s1.2.2.1 0 255
 (fun z3 => br (!z3)
 (k1 4)
 (k1 0)))
 (br ((s1.2.1 : Int) == 9)
 (c23 s1.2.2.1 0 255
 (fun z4 => br (!z4)
 (k1 4)
 (k1 0)))
 (br ((s1.2.1 : Int) == 13)
 (c23 s1.2.2.1 0 255
 (fun z5 => br (!z5)
 (k1 4)
 (k1 0)))
 (br ((s1.2.1 : Int) == 11)
 (c23 s1.2.2.1 0 15
 (fun z6 => br (!z6)
 (k1 4)
 (k1 0)))
 (br ((s1.2.1 : Int) == 23)
 (br ((s1.2.2.1 : Int) == 1)
 (k1 0)
 (br ((s1.2.2.1 : Int) == 2)
 (k1 0)
 (br (!((s1.2.2.1 : Int) == 3))
 (k1 4)
 (k1 0))))
 (br ((s1.2.1 : Int) == 24)
 (c23 s1.2.2.1 0 3
 (fun z7 => br (!z7)
 (k1 4)
 (k1 0)))
 (br ((s1.2.1 : Int) == 22)
 (k1 0)
 (br (!((s1.2.2.1 : Int) == 0))
 (k1 4)
 (k1 0)))))))))
structure j44r4 (k1 : Int → Prop) (s1 : tIN) : Prop where
of :
 br ((s1.2.1 : Int) == 8)
 (br (decide (((↑(List.length s1.2.2.2.1)) : Int) > 16))
 (j44s4
 (fun z2 => k1 z2)
 (fun z3 => j44r6
 (fun z4 => k1 z4)
 z3)
 true s1)
 (br ((s1.2.1 : Int) == 13)
 (j44s4
 (fun z5 => k1 z5)
 (fun z6 => j44r6
 (fun z7 => k1 z7)
 z6)
 (decide (((↑(List.length s1.2.2.2.1)) : Int) > 6)) s1)
 (br ((s1.2.1 : Int) == 14)
 (j44s4
 (fun z8 => k1 z8)
 (fun z9 => j44r6
 (fun z10 => k1 z10)
 z9)
 (decide (((↑(List.length s1.2.2.2.1)) : Int) > 6)) s1)
 (j44s4
 (fun z11 => k1 z11)
 (fun z12 => j44r6
 (fun z13 => k1 z13)
 z12)
 false s1))))
 (br ((s1.2.1 : Int) == 9)
 (br (decide (((↑(List.length s1.2.2.2.1)) : Int) > 16))
 (j44s4
 (fun z14 => k1 z14)
 (fun z15 => j44r6
 (fun z16 => k1 z16)
 z15)
 true s1)
 (br ((s1.2.1 : Int) == 13)
 (j44s4
 (fun z17 => k1 z17)
 (fun z18 => j44r6
 (fun z19 => k1 z19)
 z18)
 (decide (((↑(List.length s1.2.2.2.1)) : Int) > 6)) s1)
 (br ((s1.2.1 : Int) == 14)
 (j44s4
 (fun z20 => k1 z20)
 (fun z21 => j44r6
 (fun z22 => k1 z22)
 z21)
 (decide (((↑(List.length s1.2.2.2.1)) : Int) > 6)) s1)
 (j44s4
 (fun z23 => k1 z23)
 (fun z24 => j44r6
 (fun z25 => k1 z25)
 z24)
 false s1))))
 (br ((s1.2.1 : Int) == 13)
 (j44s4
 (fun z26 => k1 z26)
 (fun z27 => j44r6
 (fun z28 => k1 z28)
 z27)
 (decide (((↑(List.length s1.2.2.2.1)) : Int) > 6)) s1)
 (br ((s1.2.1 : Int) == 14)
 (j44s4
 (fun z29 => k1 z29)
 (fun z30 => j44r6
 (fun z31 => k1 z31)
 z30)
 (decide (((↑(List.length s1.2.2.2.1)) : Int) > 6)) s1)
 (j44s4
 (fun z32 => k1 z32)
 (fun z33 => j44r6
 (fun z34 => k1 z34)
 z33)
 false s1))))
structure c44 (x1 : tIN) (k1 : Int → Prop) : Prop where
of :
 c65 x1
 (fun z2 => br (z2 == (-2))
 (k1 3)
 (br (decide (z2 ≥ 0))
 (br (z2 != (↑(List.length x1.2.2.2.1)))
 (k1 3)
 (br ((x1.2.1 : Int) == 14)
 (br (decide (((↑(List.length x1.2.2.2.1)) : Int) < 1))
 (k1 3)
 (j44r4
 (fun z3 => k1 z3)
 x1))
 (j44r4
 (fun z4 => k1 z4)
 x1)))
 (br ((x1.2.1 : Int) == 14)
 (br (decide (((↑(List.length x1.2.2.2.1)) : Int) < 1))
 (k1 3)
 (j44r4
 (fun z5 => k1 z5)
 x1))
 (j44r4
 (fun z6 => k1 z6)
 x1))))
structure l24r14 (k1 : Int → Prop) (k2 : (List tBK) → Int → Int → tFU → (List Int) → tBK → Prop) (s1 : List tBK) (s2 s3 : Int) (s4 : List tIN) (s5 s6 : Int) (s7 : tFU) (s8 : List Int) (s9 : tBK) : Prop where
of :
 ∀ (I1 : (List tBK) → Int → Int → (List tIN) → Int → Int → tFU → (List Int) → tBK → Prop),
 (∀ (s1 : List tBK) (s2 s3 : Int) (s4 : List tIN) (s5 s6 : Int) (s7 : tFU) (s8 : List Int) (s9 : tBK), (br (decide (s6 < s5))
 (need False (at? s4 s6) fun y10 =>
 c43 y10.1 s8
 (fun z11 => br (z11 != 0)
 (k1 z11)
 (br (roomB ((List.length s8) + 1) 8)
 (c44 y10
 (fun z12 => br (z12 != 0)
 (k1 z12)
 (I1 s1 s2 s3 s4 s5 (IntKind.wrap .i64 (s6 + 1)) s7 (s8 ++ [y10.1]) s9)))
 False)))
 (k2 s1 s2 s3 s7 s8 s9)) → I1 s1 s2 s3 s4 s5 s6 s7 s8 s9) →
 I1 s1 s2 s3 s4 s5 s6 s7 s8 s9
structure j45s4 (k1 : Int → Prop) (k2 : tFU → tTM → Prop) (s1 : Bool) (s2 : tFU) (s3 : tTM) : Prop where
of :
 br (s1)
 (k1 3)
 (k2 s2 s3)
structure l45r11 (k1 : Int → Prop) (k2 : tFU → tTM → Prop) (s1 : List Int) (s2 s3 : Int) (s4 : tFU) (s5 : tTM) : Prop where
of :
 ∀ (I1 : (List Int) → Int → Int → tFU → tTM → Prop),
 (∀ (s1 : List Int) (s2 s3 : Int) (s4 : tFU) (s5 : tTM), (br (decide (s3 < s2))
 (need False (at? s1 s3) fun y6 =>
 c66 y6
 (fun z7 => br (!z7)
 (k1 4)
 (br (decide ((0 : Int) ≤ 0 ∧ (0 : Int) ≤ s3 ∧ (s3 : Int) ≤ (↑(List.length s5.2.2.2.1))))
 (c12 (List.drop 0 (List.take (Int.toNat s3) s5.2.2.2.1)) y6
 (fun z8 => br (z8)
 (k1 7)
 (I1 s1 s2 (IntKind.wrap .i64 (s3 + 1)) s4 s5)))
 False)))
 (k2 s4 s5)) → I1 s1 s2 s3 s4 s5) →
 I1 s1 s2 s3 s4 s5
structure l45r19 (k1 : Int → Prop) (k2 : Prop) (s1 : List tED) (s2 s3 : Int) (s4 : tFU) : Prop where
of :
 ∀ (I1 : (List tED) → Int → Int → tFU → Prop),
 (∀ (s1 : List tED) (s2 s3 : Int) (s4 : tFU), (br (decide (s3 < s2))
 (need False (at? s1 s3) fun y5 =>
 c23 y5.1 1 (IntKind.wrap .i64 ((↑(List.length s4.2.1)) - 1))
 (fun z6 => br (!z6)
 (k1 4)
 (need False (at? s4.2.1 y5.1) fun y7 =>
 (br (true && true)
 (br (eqT (.sl (.pair (.sl (.int .i64)) (.pair (.sl (.pair (.int .i64) (.pair (.int .i64) (.pair (.int .i64) (.pair (.sl (.int .i64)) .unit))))) (.pair (.pair (.int .i64) (.pair (.int .i64) (.pair (.int .i64) (.pair (.sl (.int .i64)) (.pair (.sl (.pair (.int .i64) (.pair (.sl (.int .i64)) .unit))) .unit))))) .unit)))) s4.2.1 s4.2.1)
 (br (true && true)
 (br (eqT (.int .i64) y5.1 y5.1)
 (need False (at? s4.2.1 y5.1) fun y8 =>
 br (eqT (.pair (.sl (.int .i64)) (.pair (.sl (.pair (.int .i64) (.pair (.int .i64) (.pair (.int .i64) (.pair (.sl (.int .i64)) .unit))))) (.pair (.pair (.int .i64) (.pair (.int .i64) (.pair (.int .i64) (.pair (.sl (.int .i64)) (.pair (.sl (.pair (.int .i64) (.pair (.sl (.int .i64)) .unit))) .unit))))) .unit))) y7 y8)
 (br (eqT (.sl (.int .i64)) y7.1 y7.1)
 (br (eqT (.int .i64) (((List.length y5.2.1) : Nat) : Int) (((List.length y5.2.1) : Nat) : Int))
 (br (((↑(List.length y5.2.1)) : Int) != (↑(List.length y7.1)))
 (k1 3)
 (I1 s1 s2 (IntKind.wrap .i64 (s3 + 1)) s4))
 False)
 False)
 False)
 False)
 False)
 False)
 False) ∧
 (br (true && true)
 (br (eqT (.int .i64) (((List.length y7.1) : Nat) : Int) (((List.length y7.1) : Nat) : Int))
 (br (((↑(List.length y5.2.1)) : Int) != (↑(List.length y7.1)))
 (k1 3)
 (I1 s1 s2 (IntKind.wrap .i64 (s3 + 1)) s4))
 False)
 False))))
 (k2)) → I1 s1 s2 s3 s4) →
 I1 s1 s2 s3 s4
structure j45r6 (k1 : Int → Prop) (s1 : tFU) (s2 : tTM) : Prop where
of :
 br (decide (((↑(List.length s2.2.2.2.1)) : Int) > 256))
 (k1 2)
 (br ((s2.1 : Int) == 4)
 (c23 s2.2.2.1 1 6
 (fun z3 => br (!z3)
 (k1 4)
 (l45r11
 (fun z4 => k1 z4)
 (fun z5 z6 => l45r19
 (fun z7 => k1 z7)
 (k1 0)
 z6.2.2.2.2.1 (↑(List.length z6.2.2.2.2.1)) 0 z5)
 s2.2.2.2.1 (↑(List.length s2.2.2.2.1)) 0 s1 s2)))
 (l45r11
 (fun z8 => k1 z8)
 (fun z9 z10 => l45r19
 (fun z11 => k1 z11)
 (k1 0)
 z10.2.2.2.2.1 (↑(List.length z10.2.2.2.2.1)) 0 z9)
 s2.2.2.2.1 (↑(List.length s2.2.2.2.1)) 0 s1 s2))
structure c45 (x1 : tFU) (x2 : tTM) (k1 : Int → Prop) : Prop where
of :
 c23 x2.1 0 4
 (fun z3 => br (!z3)
 (k1 3)
 (br (decide ((0 : Int) ≤ x2.1 ∧ (x2.1 : Int) < ((5 : Nat) : Int)))
 (need False ([0, 1, 2, (IntKind.wrap .i64 ((↑(List.length x2.2.2.2.1)) + 1)), 0])[(Int.toNat x2.1)]? fun y4 =>
 br (((↑(List.length x2.2.2.2.2.1)) : Int) != y4)
 (k1 3)
 (br ((x2.1 : Int) != 3)
 (br (decide (((↑(List.length x2.2.2.2.1)) : Int) > 0))
 (j45s4
 (fun z5 => k1 z5)
 (fun z6 z7 => j45r6
 (fun z8 => k1 z8)
 z6 z7)
 true x1 x2)
 (br ((x2.1 : Int) != 4)
 (br ((x2.2.2.1 : Int) != 0)
 (j45s4
 (fun z9 => k1 z9)
 (fun z10 z11 => j45r6
 (fun z12 => k1 z12)
 z10 z11)
 true x1 x2)
 (br ((x2.1 : Int) == 1)
 (j45s4
 (fun z13 => k1 z13)
 (fun z14 z15 => j45r6
 (fun z16 => k1 z16)
 z14 z15)
 ((x2.2.1 : Int) != 0) x1 x2)
 (br ((x2.1 : Int) == 4)
 (j45s4
 (fun z17 => k1 z17)
 (fun z18 z19 => j45r6
 (fun z20 => k1 z20)
 z18 z19)
 ((x2.2.1 : Int) != 0) x1 x2)
 (j45s4
 (fun z21 => k1 z21)
 (fun z22 z23 => j45r6
 (fun z24 => k1 z24)
 z22 z23)
 false x1 x2))))
 (br ((x2.1 : Int) == 1)
 (j45s4
 (fun z25 => k1 z25)
 (fun z26 z27 => j45r6
 (fun z28 => k1 z28)
 z26 z27)
 ((x2.2.1 : Int) != 0) x1 x2)
 (br ((x2.1 : Int) == 4)
 (j45s4
 (fun z29 => k1 z29)
 (fun z30 z31 => j45r6
 (fun z32 => k1 z32)
 z30 z31)
 ((x2.2.1 : Int) != 0) x1 x2)
 (j45s4
 (fun z33 => k1 z33)
 (fun z34 z35 => j45r6
 (fun z36 => k1 z36)
 z34 z35)
 false x1 x2)))))
 (br ((x2.1 : Int) != 4)
 (br ((x2.2.2.1 : Int) != 0)
 (j45s4
 (fun z37 => k1 z37)
 (fun z38 z39 => j45r6
 (fun z40 => k1 z40)
 z38 z39)
 true x1 x2)
 (br ((x2.1 : Int) == 1)
 (j45s4
 (fun z41 => k1 z41)
 (fun z42 z43 => j45r6
 (fun z44 => k1 z44)
 z42 z43)
 ((x2.2.1 : Int) != 0) x1 x2)
 (br ((x2.1 : Int) == 4)
 (j45s4
 (fun z45 => k1 z45)
 (fun z46 z47 => j45r6
 (fun z48 => k1 z48)
 z46 z47)
 ((x2.2.1 : Int) != 0) x1 x2)
 (j45s4
 (fun z49 => k1 z49)
 (fun z50 z51 => j45r6
 (fun z52 => k1 z52)
 z50 z51)
 false x1 x2))))
 (br ((x2.1 : Int) == 1)
 (j45s4
 (fun z53 => k1 z53)
 (fun z54 z55 => j45r6
 (fun z56 => k1 z56)
 z54 z55)
 ((x2.2.1 : Int) != 0) x1 x2)
 (br ((x2.1 : Int) == 4)
 (j45s4
 (fun z57 => k1 z57)
 (fun z58 z59 => j45r6
 (fun z60 => k1 z60)
 z58 z59)
 ((x2.2.1 : Int) != 0) x1 x2)
 (j45s4
 (fun z61 => k1 z61)
 (fun z62 z63 => j45r6
 (fun z64 => k1 z64)
 z62 z63)
 false x1 x2))))))
 False))
structure l24r3 (k1 : Int → Prop) (k2 : Prop) (s1 : List tBK) (s2 s3 : Int) (s4 : tFU) (s5 : List Int) : Prop where
of :
 ∀ (I1 : (List tBK) → Int → Int → tFU → (List Int) → Prop),
 (∀ (s1 : List tBK) (s2 s3 : Int) (s4 : tFU) (s5 : List Int), (br (decide (s3 < s2))
 (need False (at? s1 s3) fun y6 =>
 l24r6
 (fun z7 => k1 z7)
 (fun z8 z9 z10 z11 z12 z13 => l24r14
 (fun z14 => k1 z14)
 (fun z15 z16 z17 z18 z19 z20 => c45 z18 z20.2.2.1
 (fun z21 => br (z21 != 0)
 (k1 z21)
 (I1 z15 z16 (IntKind.wrap .i64 (z17 + 1)) z18 z19)))
 z8 z9 z10 z13.2.1 (↑(List.length z13.2.1)) 0 z11 z12 z13)
 s1 s2 s3 y6.1 (↑(List.length y6.1)) 0 s4 s5 y6)
 (k2)) → I1 s1 s2 s3 s4 s5) →
 I1 s1 s2 s3 s4 s5
structure c24 (x1 : tFU) (k1 : Int → Prop) : Prop where
of :
 l24r3
 (fun z2 => k1 z2)
 (k1 0)
 x1.2.1 (↑(List.length x1.2.1)) 0 x1 []
structure l25r11 (k1 : Int → Int → Int → (List tBK) → Int → Int → tFU → (List Bool) → Prop) (s1 s2 s3 s4 : Int) (s5 : List tBK) (s6 s7 : Int) (s8 : List tED) (s9 s10 : Int) (s11 : tFU) (s12 : List Bool) : Prop where
of :
 ∀ (I1 : Int → Int → Int → Int → (List tBK) → Int → Int → (List tED) → Int → Int → tFU → (List Bool) → Prop),
 (∀ (s1 s2 s3 s4 : Int) (s5 : List tBK) (s6 s7 : Int) (s8 : List tED) (s9 s10 : Int) (s11 : tFU) (s12 : List Bool), (br (decide (s10 < s9))
 (need False (at? s8 s10) fun y13 =>
 br (decide (0 ≤ s2 ∧ s2 < (↑(List.length s12))))
 (need False (s12)[(Int.toNat s2)]? fun y14 =>
 br (y14)
 (br ((y13.1 : Int) != s1)
 (c23 y13.1 0 (IntKind.wrap .i64 ((↑(List.length s11.2.1)) - 1))
 (fun z15 => br (z15)
 (br (decide ((0 : Int) ≤ y13.1 ∧ (y13.1 : Int) < (↑(List.length s12))))
 (need False (s12)[(Int.toNat y13.1)]? fun y16 =>
 I1 s1 s2 s3 s4 s5 s6 s7 s8 s9 (IntKind.wrap .i64 (s10 + 1)) s11 (List.set s12 (Int.toNat y13.1) true))
 False)
 (I1 s1 s2 s3 s4 s5 s6 s7 s8 s9 (IntKind.wrap .i64 (s10 + 1)) s11 s12)))
 (I1 s1 s2 s3 s4 s5 s6 s7 s8 s9 (IntKind.wrap .i64 (s10 + 1)) s11 s12))
 (I1 s1 s2 s3 s4 s5 s6 s7 s8 s9 (IntKind.wrap .i64 (s10 + 1)) s11 s12))
 False)
 (k1 s1 s3 s4 s5 s6 s7 s11 s12)) → I1 s1 s2 s3 s4 s5 s6 s7 s8 s9 s10 s11 s12) →
 I1 s1 s2 s3 s4 s5 s6 s7 s8 s9 s10 s11 s12
structure l25r8 (k1 : Int → Int → Int → tFU → (List Bool) → Prop) (s1 s2 s3 : Int) (s4 : List tBK) (s5 s6 : Int) (s7 : tFU) (s8 : List Bool) : Prop where
of :
 ∀ (I1 : Int → Int → Int → (List tBK) → Int → Int → tFU → (List Bool) → Prop),
 (∀ (s1 s2 s3 : Int) (s4 : List tBK) (s5 s6 : Int) (s7 : tFU) (s8 : List Bool), (br (decide (s6 < s5))
 (need False (at? s4 s6) fun y9 =>
 l25r11
 (fun z10 z11 z12 z13 z14 z15 z16 z17 => I1 z10 z11 z12 z13 z14 (IntKind.wrap .i64 (z15 + 1)) z16 z17)
 s1 s6 s2 s3 s4 s5 s6 y9.2.2.1.2.2.2.2.1 (↑(List.length y9.2.2.1.2.2.2.2.1)) 0 s7 s8)
 (k1 s1 s2 s3 s7 s8)) → I1 s1 s2 s3 s4 s5 s6 s7 s8) →
 I1 s1 s2 s3 s4 s5 s6 s7 s8
structure l25r6 (k1 : (List Bool) → Prop) (s1 s2 s3 : Int) (s4 : tFU) (s5 : List Bool) : Prop where
of :
 ∀ (I1 : Int → Int → Int → tFU → (List Bool) → Prop),
 (∀ (s1 s2 s3 : Int) (s4 : tFU) (s5 : List Bool), (br (decide (s3 < s2))
 (l25r8
 (fun z6 z7 z8 z9 z10 => I1 z6 z7 (IntKind.wrap .i64 (z8 + 1)) z9 z10)
 s1 s2 s3 s4.2.1 (↑(List.length s4.2.1)) 0 s4 s5)
 (k1 s5)) → I1 s1 s2 s3 s4 s5) →
 I1 s1 s2 s3 s4 s5
structure c25 (x1 : tFU) (x2 : Int) (k1 : (List Bool) → Prop) : Prop where
of :
 br (decide ((0 : Int) ≤ (↑(List.length x1.2.1)) ∧ ((↑(List.length x1.2.1)) : Int) ≤ (↑(List.length x1.2.1)) ∧ (((↑(List.length x1.2.1)) * 1) : Int) ≤ 140737488355328))
 (br (x2 == 0)
 (k1 (List.replicate (Int.toNat (↑(List.length x1.2.1))) (false : Bool)))
 (br (((↑(List.length x1.2.1)) : Int) == 0)
 (k1 (List.replicate (Int.toNat (↑(List.length x1.2.1))) (false : Bool)))
 (br (decide ((0 : Int) ≤ 0 ∧ (0 : Int) < (↑(List.length (List.replicate (Int.toNat (↑(List.length x1.2.1))) (false : Bool))))))
 (need False ((List.replicate (Int.toNat (↑(List.length x1.2.1))) (false : Bool)))[0]? fun y3 =>
 l25r6
 (fun z4 => k1 z4)
 x2 (↑(List.length x1.2.1)) 0 x1 (List.set (List.replicate (Int.toNat (↑(List.length x1.2.1))) (false : Bool)) 0 true))
 False)))
 False
structure l26r6 (k1 : Int → Int → Int → (List Bool) → Int → Bool → (List tBK) → Int → Int → tFU → Prop) (s1 s2 s3 : Int) (s4 : List Bool) (s5 : Int) (s6 : Bool) (s7 : List tBK) (s8 s9 : Int) (s10 : List tIN) (s11 s12 : Int) (s13 : tFU) : Prop where
of :
 ∀ (I1 : Int → Int → Int → (List Bool) → Int → Bool → (List tBK) → Int → Int → (List tIN) → Int → Int → tFU → Prop),
 (∀ (s1 s2 s3 : Int) (s4 : List Bool) (s5 : Int) (s6 : Bool) (s7 : List tBK) (s8 s9 : Int) (s10 : List tIN) (s11 s12 : Int) (s13 : tFU), (br (decide (s12 < s11))
 (need False (at? s10 s12) fun y14 =>
 br (s6)
 (I1 s1 s2 s3 s4 s5 true s7 s8 s9 s10 s11 (IntKind.wrap .i64 (s12 + 1)) s13)
 (br ((y14.1 : Int) == s1)
 (br (s5 != s2)
 (I1 s1 s2 s3 s4 s5 true s7 s8 s9 s10 s11 (IntKind.wrap .i64 (s12 + 1)) s13)
 (br (decide (s12 < s3))
 (I1 s1 s2 s3 s4 s5 true s7 s8 s9 s10 s11 (IntKind.wrap .i64 (s12 + 1)) s13)
 (need False (at? s4 s2) fun y15 =>
 I1 s1 s2 s3 s4 s5 (!y15) s7 s8 s9 s10 s11 (IntKind.wrap .i64 (s12 + 1)) s13)))
 (I1 s1 s2 s3 s4 s5 false s7 s8 s9 s10 s11 (IntKind.wrap .i64 (s12 + 1)) s13)))
 (k1 s1 s2 s3 s4 s5 s6 s7 s8 s9 s13)) → I1 s1 s2 s3 s4 s5 s6 s7 s8 s9 s10 s11 s12 s13) →
 I1 s1 s2 s3 s4 s5 s6 s7 s8 s9 s10 s11 s12 s13
structure c29 (x1 : tFU) (x2 x3 : Int) (k1 : Bool → Prop) : Prop where
of :
 br (x2 == x3)
 (k1 true)
 (c25 x1 x2
 (fun z4 => br (decide (0 ≤ x3 ∧ x3 < (↑(List.length z4))))
 (need False (z4)[(Int.toNat x3)]? fun y5 =>
 k1 (!y5))
 False))
structure l26r2 (k1 : Bool → Prop) (k2 : Prop) (s1 s2 s3 : Int) (s4 : List Bool) (s5 : List tBK) (s6 s7 : Int) (s8 : tFU) : Prop where
of :
 ∀ (I1 : Int → Int → Int → (List Bool) → (List tBK) → Int → Int → tFU → Prop),
 (∀ (s1 s2 s3 : Int) (s4 : List Bool) (s5 : List tBK) (s6 s7 : Int) (s8 : tFU), (br (decide (s7 < s6))
 (need False (at? s5 s7) fun y9 =>
 c12 y9.1 s1
 (fun z10 => l26r6
 (fun z11 z12 z13 z14 z15 z16 z17 z18 z19 z20 => br (z16)
 (need False (at? z14 z12) fun y21 =>
 br (!y21)
 (k1 true)
 (c29 z20 z15 z12
 (fun z22 => k1 z22)))
 (I1 z11 z12 z13 z14 z17 z18 (IntKind.wrap .i64 (z19 + 1)) z20))
 s1 s2 s3 s4 s7 z10 s5 s6 s7 y9.2.1 (↑(List.length y9.2.1)) 0 s8))
 (k2)) → I1 s1 s2 s3 s4 s5 s6 s7 s8) →
 I1 s1 s2 s3 s4 s5 s6 s7 s8
structure c26 (x1 : tFU) (x2 x3 x4 : Int) (x5 : List Bool) (k1 : Bool → Prop) : Prop where
of :
 l26r2
 (fun z6 => k1 z6)
 (k1 false)
 x2 x3 x4 x5 x1.2.1 (↑(List.length x1.2.1)) 0 x1
structure l8r24 (k1 : Int → Prop) (k2 : Int → (List tBK) → Int → Int → (List tIN) → Int → Int → tFU → (List Bool) → tBK → Prop) (s1 s2 : Int) (s3 : List tBK) (s4 s5 : Int) (s6 : List tIN) (s7 s8 : Int) (s9 : List Int) (s10 s11 : Int) (s12 : tFU) (s13 : List Bool) (s14 : tBK) : Prop where
of :
 ∀ (I1 : Int → Int → (List tBK) → Int → Int → (List tIN) → Int → Int → (List Int) → Int → Int → tFU → (List Bool) → tBK → Prop),
 (∀ (s1 s2 : Int) (s3 : List tBK) (s4 s5 : Int) (s6 : List tIN) (s7 s8 : Int) (s9 : List Int) (s10 s11 : Int) (s12 : tFU) (s13 : List Bool) (s14 : tBK), (br (decide (s11 < s10))
 (need False (at? s9 s11) fun y15 =>
 c26 s12 y15 s1 s2 s13
 (fun z16 => br (!z16)
 (k1 6)
 (I1 s1 s2 s3 s4 s5 s6 s7 s8 s9 s10 (IntKind.wrap .i64 (s11 + 1)) s12 s13 s14)))
 (k2 s1 s3 s4 s5 s6 s7 s8 s12 s13 s14)) → I1 s1 s2 s3 s4 s5 s6 s7 s8 s9 s10 s11 s12 s13 s14) →
 I1 s1 s2 s3 s4 s5 s6 s7 s8 s9 s10 s11 s12 s13 s14
structure l8r21 (k1 : Int → Prop) (k2 : Int → (List tBK) → Int → Int → tFU → (List Bool) → tBK → Prop) (s1 : Int) (s2 : List tBK) (s3 s4 : Int) (s5 : List tIN) (s6 s7 : Int) (s8 : tFU) (s9 : List Bool) (s10 : tBK) : Prop where
of :
 ∀ (I1 : Int → (List tBK) → Int → Int → (List tIN) → Int → Int → tFU → (List Bool) → tBK → Prop),
 (∀ (s1 : Int) (s2 : List tBK) (s3 s4 : Int) (s5 : List tIN) (s6 s7 : Int) (s8 : tFU) (s9 : List Bool) (s10 : tBK), (br (decide (s7 < s6))
 (need False (at? s5 s7) fun y11 =>
 l8r24
 (fun z12 => k1 z12)
 (fun z13 z14 z15 z16 z17 z18 z19 z20 z21 z22 => I1 z13 z14 z15 z16 z17 z18 (IntKind.wrap .i64 (z19 + 1)) z20 z21 z22)
 s1 s7 s2 s3 s4 s5 s6 s7 y11.2.2.2.1 (↑(List.length y11.2.2.2.1)) 0 s8 s9 s10)
 (k2 s1 s2 s3 s4 s8 s9 s10)) → I1 s1 s2 s3 s4 s5 s6 s7 s8 s9 s10) →
 I1 s1 s2 s3 s4 s5 s6 s7 s8 s9 s10
structure l27r5 (k1 : (List Int) → Prop) (s1 : List tED) (s2 s3 : Int) (s4 : List Int) : Prop where
of :
 ∀ (I1 : (List tED) → Int → Int → (List Int) → Prop),
 (∀ (s1 : List tED) (s2 s3 : Int) (s4 : List Int), (br (decide (s3 < s2))
 (need False (at? s1 s3) fun y5 =>
 br (List.isEmpty y5.2.1)
 (I1 s1 s2 (IntKind.wrap .i64 (s3 + 1)) s4)
 (br (roomB ((List.length s4) + (List.length y5.2.1)) 8)
 (I1 s1 s2 (IntKind.wrap .i64 (s3 + 1)) (s4 ++ y5.2.1))
 False))
 (k1 s4)) → I1 s1 s2 s3 s4) →
 I1 s1 s2 s3 s4
structure c27 (x1 : tTM) (k1 : (List Int) → Prop) : Prop where
of :
 br ((x1.1 : Int) == 0)
 (br (true)
 (l27r5
 (fun z2 => k1 z2)
 x1.2.2.2.2.1 (↑(List.length x1.2.2.2.2.1)) 0 ([] ++ [x1.2.1]))
 False)
 (br ((x1.1 : Int) == 2)
 (br (true)
 (l27r5
 (fun z3 => k1 z3)
 x1.2.2.2.2.1 (↑(List.length x1.2.2.2.2.1)) 0 ([] ++ [x1.2.1]))
 False)
 (br ((x1.1 : Int) == 3)
 (br (true)
 (l27r5
 (fun z4 => k1 z4)
 x1.2.2.2.2.1 (↑(List.length x1.2.2.2.2.1)) 0 ([] ++ [x1.2.1]))
 False)
 (l27r5
 (fun z5 => k1 z5)
 x1.2.2.2.2.1 (↑(List.length x1.2.2.2.2.1)) 0 [])))
structure l8r31 (k1 : Int → Prop) (k2 : (List tBK) → Int → Int → tFU → (List Bool) → Prop) (s1 : Int) (s2 : List tBK) (s3 s4 s5 s6 : Int) (s7 : tFU) (s8 : List Bool) (s9 : tBK) (s10 : List Int) : Prop where
of :
 ∀ (I1 : Int → (List tBK) → Int → Int → Int → Int → tFU → (List Bool) → tBK → (List Int) → Prop),
 (∀ (s1 : Int) (s2 : List tBK) (s3 s4 s5 s6 : Int) (s7 : tFU) (s8 : List Bool) (s9 : tBK) (s10 : List Int), (br (decide (s6 < s5))
 (br (decide (0 ≤ s6 ∧ s6 < (↑(List.length s10))))
 (need False (s10)[(Int.toNat s6)]? fun y11 =>
 c26 s7 y11 s1 (↑(List.length s9.2.1)) s8
 (fun z12 => br (!z12)
 (k1 6)
 (I1 s1 s2 s3 s4 s5 (IntKind.wrap .i64 (s6 + 1)) s7 s8 s9 s10)))
 False)
 (k2 s2 s3 s4 s7 s8)) → I1 s1 s2 s3 s4 s5 s6 s7 s8 s9 s10) →
 I1 s1 s2 s3 s4 s5 s6 s7 s8 s9 s10
structure l8r18 (k1 : Int → Prop) (k2 : Prop) (s1 : List tBK) (s2 s3 : Int) (s4 : tFU) (s5 : List Bool) : Prop where
of :
 ∀ (I1 : (List tBK) → Int → Int → tFU → (List Bool) → Prop),
 (∀ (s1 : List tBK) (s2 s3 : Int) (s4 : tFU) (s5 : List Bool), (br (decide (s3 < s2))
 (need False (at? s1 s3) fun y6 =>
 l8r21
 (fun z7 => k1 z7)
 (fun z8 z9 z10 z11 z12 z13 z14 => c27 z14.2.2.1
 (fun z15 => l8r31
 (fun z16 => k1 z16)
 (fun z17 z18 z19 z20 z21 => I1 z17 z18 (IntKind.wrap .i64 (z19 + 1)) z20 z21)
 z8 z9 z10 z11 (↑(List.length z15)) 0 z12 z13 z14 z15))
 s3 s1 s2 s3 y6.2.1 (↑(List.length y6.2.1)) 0 s4 s5 y6)
 (k2)) → I1 s1 s2 s3 s4 s5) →
 I1 s1 s2 s3 s4 s5
structure c8 (x1 : tFU) (k1 : Int → Prop) : Prop where
of :
 l8r3
 (fun z2 z3 => br (((↑(List.length z3.2.1)) : Int) == 0)
 (k1 3)
 (br (decide (((↑(List.length z3.2.1)) : Int) > 128))
 (k1 2)
 (br (decide (z2 > 1024))
 (k1 2)
 (need False (at? z3.2.1 0) fun y4 =>
 br (decide (((↑(List.length y4.1)) : Int) > 6))
 (k1 2)
 (c23 z3.1 (-1) 1048575
 (fun z5 => br (!z5)
 (k1 4)
 (c24 z3
 (fun z6 => br (z6 != 0)
 (k1 z6)
 (c25 z3 (-1)
 (fun z7 => l8r18
 (fun z8 => k1 z8)
 (k1 0)
 z3.2.1 (↑(List.length z3.2.1)) 0 z3 z7))))))))))
 0 x1.2.1 (↑(List.length x1.2.1)) 0 x1
structure l28r6 (k1 : Int → (List tBK) → Int → Int → (List Int) → Prop) (s1 s2 : Int) (s3 : List tBK) (s4 s5 : Int) (s6 : List tED) (s7 s8 : Int) (s9 : List Int) : Prop where
of :
 ∀ (I1 : Int → Int → (List tBK) → Int → Int → (List tED) → Int → Int → (List Int) → Prop),
 (∀ (s1 s2 : Int) (s3 : List tBK) (s4 s5 : Int) (s6 : List tED) (s7 s8 : Int) (s9 : List Int), (br (decide (s8 < s7))
 (need False (at? s6 s8) fun y10 =>
 br ((y10.1 : Int) == s1)
 (br (roomB ((List.length s9) + 1) 8)
 (I1 s1 s2 s3 s4 s5 s6 s7 (IntKind.wrap .i64 (s8 + 1)) (s9 ++ [s2]))
 False)
 (I1 s1 s2 s3 s4 s5 s6 s7 (IntKind.wrap .i64 (s8 + 1)) s9))
 (k1 s1 s3 s4 s5 s9)) → I1 s1 s2 s3 s4 s5 s6 s7 s8 s9) →
 I1 s1 s2 s3 s4 s5 s6 s7 s8 s9
structure l28r3 (k1 : (List Int) → Prop) (s1 : Int) (s2 : List tBK) (s3 s4 : Int) (s5 : List Int) : Prop where
of :
 ∀ (I1 : Int → (List tBK) → Int → Int → (List Int) → Prop),
 (∀ (s1 : Int) (s2 : List tBK) (s3 s4 : Int) (s5 : List Int), (br (decide (s4 < s3))
 (need False (at? s2 s4) fun y6 =>
 l28r6
 (fun z7 z8 z9 z10 z11 => I1 z7 z8 z9 (IntKind.wrap .i64 (z10 + 1)) z11)
 s1 s4 s2 s3 s4 y6.2.2.1.2.2.2.2.1 (↑(List.length y6.2.2.1.2.2.2.2.1)) 0 s5)
 (k1 s5)) → I1 s1 s2 s3 s4 s5) →
 I1 s1 s2 s3 s4 s5
structure c28 (x1 : tFU) (x2 : Int) (k1 : (List Int) → Prop) : Prop where
of :
 l28r3
 (fun z3 => k1 z3)
 x2 x1.2.1 (↑(List.length x1.2.1)) 0 []
structure l9r3 (k1 : Bool → Prop) (k2 : Prop) (s1 s2 s3 : Int) (s4 : tFU) (s5 : List Bool) (s6 : List Int) : Prop where
of :
 ∀ (I1 : Int → Int → Int → tFU → (List Bool) → (List Int) → Prop),
 (∀ (s1 s2 s3 : Int) (s4 : tFU) (s5 : List Bool) (s6 : List Int), (br (decide (s3 < s2))
 (br (decide (0 ≤ s3 ∧ s3 < (↑(List.length s6))))
 (need False (s6)[(Int.toNat s3)]? fun y7 =>
 br (decide (0 ≤ s1 ∧ s1 < (↑(List.length s5))))
 (need False (s5)[(Int.toNat s1)]? fun y8 =>
 br (y8)
 (br (decide (0 ≤ y7 ∧ y7 < (↑(List.length s5))))
 (need False (s5)[(Int.toNat y7)]? fun y9 =>
 br (y9)
 (c29 s4 s1 y7
 (fun z10 => br (z10)
 (k1 true)
 (I1 s1 s2 (IntKind.wrap .i64 (s3 + 1)) s4 s5 s6)))
 (I1 s1 s2 (IntKind.wrap .i64 (s3 + 1)) s4 s5 s6))
 False)
 (I1 s1 s2 (IntKind.wrap .i64 (s3 + 1)) s4 s5 s6))
 False)
 False)
 (k2)) → I1 s1 s2 s3 s4 s5 s6) →
 I1 s1 s2 s3 s4 s5 s6
structure c9 (x1 : tFU) (x2 : Int) (k1 : Bool → Prop) : Prop where
of :
 c25 x1 (-1)
 (fun z3 => c28 x1 x2
 (fun z4 => l9r3
 (fun z5 => k1 z5)
 (k1 false)
 x2 (↑(List.length z4)) 0 x1 z3 z4))
structure l3r13 (k1 : Int → Int → tFU → (List tLO) → (List Int) → (List Int) → (List Int) → Prop) (s1 s2 s3 s4 : Int) (s5 : tFU) (s6 : List tLO) (s7 s8 s9 : List Int) : Prop where
of :
 ∀ (I1 : Int → Int → Int → Int → tFU → (List tLO) → (List Int) → (List Int) → (List Int) → Prop),
 (∀ (s1 s2 s3 s4 : Int) (s5 : tFU) (s6 : List tLO) (s7 s8 s9 : List Int), (br (decide (s4 < s3))
 (c9 s5 s4
 (fun z10 => br (z10)
 (br (roomB ((List.length s8) + 1) 8)
 (I1 s1 s2 s3 (IntKind.wrap .i64 (s4 + 1)) s5 s6 s7 (s8 ++ [s4]) s9)
 False)
 (I1 s1 s2 s3 (IntKind.wrap .i64 (s4 + 1)) s5 s6 s7 s8 s9)))
 (k1 s1 s2 s5 s6 s7 s8 s9)) → I1 s1 s2 s3 s4 s5 s6 s7 s8 s9) →
 I1 s1 s2 s3 s4 s5 s6 s7 s8 s9
structure l10r12 (k1 : Int → Int → Int → (List tBK) → Int → Int → tFU → (List Bool) → Prop) (s1 s2 s3 s4 : Int) (s5 : List tBK) (s6 s7 : Int) (s8 : List tED) (s9 s10 : Int) (s11 : tFU) (s12 : List Bool) : Prop where
of :
 ∀ (I1 : Int → Int → Int → Int → (List tBK) → Int → Int → (List tED) → Int → Int → tFU → (List Bool) → Prop),
 (∀ (s1 s2 s3 s4 : Int) (s5 : List tBK) (s6 s7 : Int) (s8 : List tED) (s9 s10 : Int) (s11 : tFU) (s12 : List Bool), (br (decide (s10 < s9))
 (need False (at? s8 s10) fun y13 =>
 br (decide (0 ≤ s2 ∧ s2 < (↑(List.length s12))))
 (need False (s12)[(Int.toNat s2)]? fun y14 =>
 br (y14)
 (br ((y13.1 : Int) != s1)
 (br (decide ((0 : Int) ≤ y13.1 ∧ (y13.1 : Int) < (↑(List.length s12))))
 (need False (s12)[(Int.toNat y13.1)]? fun y15 =>
 I1 s1 s2 s3 s4 s5 s6 s7 s8 s9 (IntKind.wrap .i64 (s10 + 1)) s11 (List.set s12 (Int.toNat y13.1) true))
 False)
 (I1 s1 s2 s3 s4 s5 s6 s7 s8 s9 (IntKind.wrap .i64 (s10 + 1)) s11 s12))
 (I1 s1 s2 s3 s4 s5 s6 s7 s8 s9 (IntKind.wrap .i64 (s10 + 1)) s11 s12))
 False)
 (k1 s1 s3 s4 s5 s6 s7 s11 s12)) → I1 s1 s2 s3 s4 s5 s6 s7 s8 s9 s10 s11 s12) →
 I1 s1 s2 s3 s4 s5 s6 s7 s8 s9 s10 s11 s12
structure l10r9 (k1 : Int → Int → Int → tFU → (List Bool) → Prop) (s1 s2 s3 : Int) (s4 : List tBK) (s5 s6 : Int) (s7 : tFU) (s8 : List Bool) : Prop where
of :
 ∀ (I1 : Int → Int → Int → (List tBK) → Int → Int → tFU → (List Bool) → Prop),
 (∀ (s1 s2 s3 : Int) (s4 : List tBK) (s5 s6 : Int) (s7 : tFU) (s8 : List Bool), (br (decide (s6 < s5))
 (need False (at? s4 s6) fun y9 =>
 l10r12
 (fun z10 z11 z12 z13 z14 z15 z16 z17 => I1 z10 z11 z12 z13 z14 (IntKind.wrap .i64 (z15 + 1)) z16 z17)
 s1 s6 s2 s3 s4 s5 s6 y9.2.2.1.2.2.2.2.1 (↑(List.length y9.2.2.1.2.2.2.2.1)) 0 s7 s8)
 (k1 s1 s2 s3 s7 s8)) → I1 s1 s2 s3 s4 s5 s6 s7 s8) →
 I1 s1 s2 s3 s4 s5 s6 s7 s8
structure l10r7 (k1 : Int → tFU → (List Bool) → Prop) (s1 s2 s3 : Int) (s4 : tFU) (s5 : List Bool) : Prop where
of :
 ∀ (I1 : Int → Int → Int → tFU → (List Bool) → Prop),
 (∀ (s1 s2 s3 : Int) (s4 : tFU) (s5 : List Bool), (br (decide (s3 < s2))
 (l10r9
 (fun z6 z7 z8 z9 z10 => I1 z6 z7 (IntKind.wrap .i64 (z8 + 1)) z9 z10)
 s1 s2 s3 s4.2.1 (↑(List.length s4.2.1)) 0 s4 s5)
 (k1 s1 s4 s5)) → I1 s1 s2 s3 s4 s5) →
 I1 s1 s2 s3 s4 s5
structure l10r20 (k1 : Bool → Prop) (k2 : Prop) (s1 s2 s3 : Int) (s4 : tFU) (s5 : List Bool) (s6 : List Int) : Prop where
of :
 ∀ (I1 : Int → Int → Int → tFU → (List Bool) → (List Int) → Prop),
 (∀ (s1 s2 s3 : Int) (s4 : tFU) (s5 : List Bool) (s6 : List Int), (br (decide (s3 < s2))
 (br (decide (0 ≤ s3 ∧ s3 < (↑(List.length s6))))
 (need False (s6)[(Int.toNat s3)]? fun y7 =>
 br (decide (0 ≤ y7 ∧ y7 < (↑(List.length s5))))
 (need False (s5)[(Int.toNat y7)]? fun y8 =>
 br (y8)
 (c29 s4 s1 y7
 (fun z9 => br (z9)
 (k1 true)
 (I1 s1 s2 (IntKind.wrap .i64 (s3 + 1)) s4 s5 s6)))
 (I1 s1 s2 (IntKind.wrap .i64 (s3 + 1)) s4 s5 s6))
 False)
 False)
 (k2)) → I1 s1 s2 s3 s4 s5 s6) →
 I1 s1 s2 s3 s4 s5 s6
structure c10 (x1 : tFU) (x2 x3 : Int) (k1 : Bool → Prop) : Prop where
of :
 c25 x1 (-1)
 (fun z4 => br (decide (0 ≤ x3 ∧ x3 < (↑(List.length z4))))
 (need False (z4)[(Int.toNat x3)]? fun y5 =>
 br (!y5)
 (k1 ((x3 : Int) == x2))
 (br (x3 == x2)
 (k1 ((x3 : Int) == x2))
 (br (decide ((0 : Int) ≤ (↑(List.length x1.2.1)) ∧ ((↑(List.length x1.2.1)) : Int) ≤ (↑(List.length x1.2.1)) ∧ (((↑(List.length x1.2.1)) * 1) : Int) ≤ 140737488355328))
 (br (decide (0 ≤ x3 ∧ x3 < (↑(List.length (List.replicate (Int.toNat (↑(List.length x1.2.1))) (false : Bool))))))
 (need False ((List.replicate (Int.toNat (↑(List.length x1.2.1))) (false : Bool)))[(Int.toNat x3)]? fun y6 =>
 l10r7
 (fun z7 z8 z9 => c28 z8 z7
 (fun z10 => l10r20
 (fun z11 => k1 z11)
 (k1 false)
 z7 (↑(List.length z10)) 0 z8 z9 z10))
 x2 (↑(List.length x1.2.1)) 0 x1 (List.set (List.replicate (Int.toNat (↑(List.length x1.2.1))) (false : Bool)) (Int.toNat x3) true))
 False)
 False)))
 False)
structure l3r25 (k1 : Int → Int → Int → Int → tFU → (List tLO) → (List Int) → (List Int) → (List Int) → (List Int) → Prop) (s1 s2 s3 s4 s5 s6 : Int) (s7 : tFU) (s8 : List tLO) (s9 s10 s11 s12 : List Int) : Prop where
of :
 ∀ (I1 : Int → Int → Int → Int → Int → Int → tFU → (List tLO) → (List Int) → (List Int) → (List Int) → (List Int) → Prop),
 (∀ (s1 s2 s3 s4 s5 s6 : Int) (s7 : tFU) (s8 : List tLO) (s9 s10 s11 s12 : List Int), (br (decide (s6 < s5))
 (c10 s7 s2 s6
 (fun z13 => br (z13)
 (br (roomB ((List.length s11) + 1) 8)
 (br (decide (0 ≤ s6 ∧ s6 < (↑(List.length s10))))
 (need False (s10)[(Int.toNat s6)]? fun y14 =>
 br (decide (0 ≤ s6 ∧ s6 < (↑(List.length s10))))
 (need False (s10)[(Int.toNat s6)]? fun y15 =>
 I1 s1 s2 s3 s4 s5 (IntKind.wrap .i64 (s6 + 1)) s7 s8 s9 (List.set s10 (Int.toNat s6) (IntKind.wrap .i64 (y14 + 1))) (s11 ++ [s6]) s12)
 False)
 False)
 False)
 (I1 s1 s2 s3 s4 s5 (IntKind.wrap .i64 (s6 + 1)) s7 s8 s9 s10 s11 s12)))
 (k1 s1 s2 s3 s4 s7 s8 s9 s10 s11 s12)) → I1 s1 s2 s3 s4 s5 s6 s7 s8 s9 s10 s11 s12) →
 I1 s1 s2 s3 s4 s5 s6 s7 s8 s9 s10 s11 s12
structure l3r21 (k1 : Bool → Prop) (k2 : (List tLO) → (List Int) → (List Int) → Prop) (s1 s2 : Int) (s3 : tFU) (s4 : List tLO) (s5 s6 s7 : List Int) : Prop where
of :
 ∀ (I1 : Int → Int → tFU → (List tLO) → (List Int) → (List Int) → (List Int) → Prop),
 (∀ (s1 s2 : Int) (s3 : tFU) (s4 : List tLO) (s5 s6 s7 : List Int), (br (decide (s2 < s1))
 (br (decide (0 ≤ s2 ∧ s2 < (↑(List.length s7))))
 (need False (s7)[(Int.toNat s2)]? fun y8 =>
 l3r25
 (fun z9 z10 z11 z12 z13 z14 z15 z16 z17 z18 => br (decide (0 ≤ z9 ∧ z9 < (↑(List.length z14))))
 (need False (z14)[(Int.toNat z9)]? fun y19 =>
 br ((y19.1 : Int) != z10)
 (k1 false)
 (br (decide (0 ≤ z9 ∧ z9 < (↑(List.length z14))))
 (need False (z14)[(Int.toNat z9)]? fun y20 =>
 c11 y20.2.1 z17
 (fun z21 => br (!z21)
 (k1 false)
 (I1 z11 (IntKind.wrap .i64 (z12 + 1)) z13 z14 z15 z16 z18)))
 False))
 False)
 s2 y8 s1 s2 (↑(List.length s3.2.1)) 0 s3 s4 s5 s6 [] s7)
 False)
 (k2 s4 s5 s6)) → I1 s1 s2 s3 s4 s5 s6 s7) →
 I1 s1 s2 s3 s4 s5 s6 s7
structure l3r39 (k1 : Int → Int → Int → (List tLO) → (List Int) → (List Int) → tLO → Prop) (s1 s2 s3 s4 s5 s6 : Int) (s7 : List tLO) (s8 s9 : List Int) (s10 : tLO) : Prop where
of :
 ∀ (I1 : Int → Int → Int → Int → Int → Int → (List tLO) → (List Int) → (List Int) → tLO → Prop),
 (∀ (s1 s2 s3 s4 s5 s6 : Int) (s7 : List tLO) (s8 s9 : List Int) (s10 : tLO), (br (decide (s6 < s5))
 (br (decide (0 ≤ s6 ∧ s6 < (↑(List.length s7))))
 (need False (s7)[(Int.toNat s6)]? fun y11 =>
 br (s6 != s1)
 (br (true && true)
 (br (eqT (.int .i64) s10.1 s10.1)
 (c12 y11.2.1 s10.1
 (fun z12 => br (z12)
 (br (decide (s2 < 0))
 ((I1 s1 s6 s3 s4 s5 (IntKind.wrap .i64 (s6 + 1)) s7 s8 s9 s10) ∧
 (I1 s1 s6 s3 s4 s5 (IntKind.wrap .i64 (s6 + 1)) s7 s8 s9 s10))
 (br (decide (0 ≤ s2 ∧ s2 < (↑(List.length s7))))
 ((br (eqT (.int .i64) s2 s2)
 (br (decide (0 ≤ s2 ∧ s2 < (↑(List.length s7))))
 (br ((decide ((Int.toNat s2) = (Int.toNat s2))) && true)
 (br ((decide ((Int.toNat s2) = (Int.toNat s2))) && true)
 (need False (s7)[(Int.toNat s2)]? fun y13 =>
 br (eqT (.int .i64) (((List.length y11.2.1) : Nat) : Int) (((List.length y11.2.1) : Nat) : Int))
 (br (decide (((↑(List.length y11.2.1)) : Int) < (↑(List.length y13.2.1))))
 (I1 s1 s6 s3 s4 s5 (IntKind.wrap .i64 (s6 + 1)) s7 s8 s9 s10)
 (I1 s1 s2 s3 s4 s5 (IntKind.wrap .i64 (s6 + 1)) s7 s8 s9 s10))
 False)
 False)
 False)
 False)
 False) ∧
 (need False (s7)[(Int.toNat s2)]? fun y14 =>
 br (true && true)
 (br (eqT (.int .i64) (((List.length y14.2.1) : Nat) : Int) (((List.length y14.2.1) : Nat) : Int))
 (br (decide (((↑(List.length y11.2.1)) : Int) < (↑(List.length y14.2.1))))
 (I1 s1 s6 s3 s4 s5 (IntKind.wrap .i64 (s6 + 1)) s7 s8 s9 s10)
 (I1 s1 s2 s3 s4 s5 (IntKind.wrap .i64 (s6 + 1)) s7 s8 s9 s10))
 False)
 False))
 False))
 ((I1 s1 s2 s3 s4 s5 (IntKind.wrap .i64 (s6 + 1)) s7 s8 s9 s10) ∧
 (I1 s1 s2 s3 s4 s5 (IntKind.wrap .i64 (s6 + 1)) s7 s8 s9 s10))))
 False)
 False)
 ((I1 s1 s2 s3 s4 s5 (IntKind.wrap .i64 (s6 + 1)) s7 s8 s9 s10) ∧
 (I1 s1 s2 s3 s4 s5 (IntKind.wrap .i64 (s6 + 1)) s7 s8 s9 s10)))
 False)
 (k1 s2 s3 s4 s7 s8 s9 s10)) → I1 s1 s2 s3 s4 s5 s6 s7 s8 s9 s10) →
 I1 s1 s2 s3 s4 s5 s6 s7 s8 s9 s10
structure l3r35 (k1 : Bool → Prop) (k2 : (List Int) → (List Int) → Prop) (s1 s2 : Int) (s3 : List tLO) (s4 s5 : List Int) : Prop where
of :
 ∀ (I1 : Int → Int → (List tLO) → (List Int) → (List Int) → Prop),
 (∀ (s1 s2 : Int) (s3 : List tLO) (s4 s5 : List Int), (br (decide (s2 < s1))
 (br (decide (0 ≤ s2 ∧ s2 < (↑(List.length s3))))
 (need False (s3)[(Int.toNat s2)]? fun y6 =>
 l3r39
 (fun z7 z8 z9 z10 z11 z12 z13 => br ((z13.2.2.1 : Int) != z7)
 (k1 false)
 (I1 z8 (IntKind.wrap .i64 (z9 + 1)) z10 z11 z12))
 s2 (-1) s1 s2 (↑(List.length s3)) 0 s3 s4 s5 y6)
 False)
 (k2 s4 s5)) → I1 s1 s2 s3 s4 s5) →
 I1 s1 s2 s3 s4 s5
structure c3 (x1 : tFU) (k1 : Bool → Prop) : Prop where
of :
 c4 
 (fun z2 => br (!z2)
 (k1 false)
 (c5 x1
 (fun z3 => br (!z3)
 (k1 true)
 (c6 x1
 (fun z4 z5 => c7 x1
 (fun z6 z7 => c8 x1
 (fun z8 => br (z8 != 0)
 (br (z4 == z8)
 (br (z6 == z8)
 (k1 (((IntKind.wrap .i64 ((↑(List.length z5)) + (↑(List.length z7)))) : Int) == 0))
 (k1 false))
 (k1 false))
 (br (decide ((0 : Int) ≤ (↑(List.length x1.2.1)) ∧ ((↑(List.length x1.2.1)) : Int) ≤ (↑(List.length x1.2.1)) ∧ (((↑(List.length x1.2.1)) * 8) : Int) ≤ 140737488355328))
 (l3r13
 (fun z9 z10 z11 z12 z13 z14 z15 => br (z9 != 0)
 (k1 false)
 (br (z10 != 0)
 (k1 false)
 (br (((↑(List.length z12)) : Int) != (↑(List.length z14)))
 (k1 false)
 (l3r21
 (fun z16 => k1 z16)
 (fun z17 z18 z19 => l3r35
 (fun z20 => k1 z20)
 (fun z21 z22 => c11 z21 z22
 (fun z23 => k1 z23))
 (↑(List.length z17)) 0 z17 z18 z19)
 (↑(List.length z14)) 0 z11 z12 z13 z15 z14))))
 z4 z6 (↑(List.length x1.2.1)) 0 x1 z5 z7 [] (List.replicate (Int.toNat (↑(List.length x1.2.1))) (0 : Int)))
 False))))))))
end Go.Proofs.Yteeigkbjjoedoac
