/- What the functions compute, as plain Lean (printed by a program). -/
import Derived.Test.YtgbmfhchieahjaaATypT
namespace Go.Proofs.Ytgbmfhchieahjaa
open Go.Abs
abbrev tFU := Int × (List ((List Int) × (List (Int × Int × Int × (List Int) × Unit)) × (Int × Int × Int × (List Int) × (List (Int × (List Int) × Unit)) × Unit) × Unit)) × Unit
abbrev tBK := (List Int) × (List (Int × Int × Int × (List Int) × Unit)) × (Int × Int × Int × (List Int) × (List (Int × (List Int) × Unit)) × Unit) × Unit
abbrev tTM := Int × Int × Int × (List Int) × (List (Int × (List Int) × Unit)) × Unit
abbrev tIN := Int × Int × Int × (List Int) × Unit
abbrev tED := Int × (List Int) × Unit
abbrev q0 := (Int × Int × Int × Int × Unit)
abbrev q1 := (List (List Bool))
abbrev q2 := (Int × (Int × Int × Unit))
set_option linter.unusedVariables false
structure l30r3 (k1 : Int → tFU → Prop) (s1 : Int) (s2 : List tBK) (s3 s4 : Int) (s5 : tFU) : Prop where
of :
 ∀ (I1 : Int → (List tBK) → Int → Int → tFU → Prop),
 (∀ (s1 : Int) (s2 : List tBK) (s3 s4 : Int) (s5 : tFU), (br (decide (s4 < s3))
 (need False (at? s2 s4) fun y6 =>
 I1 (IntKind.wrap .i64 (s1 + (↑(List.length y6.2.1)))) s2 s3 (IntKind.wrap .i64 (s4 + 1)) s5)
 (k1 s1 s5)) → I1 s1 s2 s3 s4 s5) →
 I1 s1 s2 s3 s4 s5
structure c38 (x1 x2 x3 : Int) (k1 : Bool → Prop) : Prop where
of :
 br (decide (x1 ≥ x2))
 (k1 (decide ((x1 : Int) ≤ x3)))
 (k1 false)
structure c44 (x1 : Int) (x2 : Int × Int × Unit) (x3 : tFU) (x4 : List q2) (k1 : Int → tFU → (List q2) → Prop) : Prop where
of :
 c38 x1 0 4095
 (fun z5 => br (!z5)
 (k1 4 x3 x4)
 (br (mhas x4 x1)
 (k1 7 x3 x4)
 (k1 0 x3 (mput x4 x1 x2))))
structure l39r3 (k1 : Int → tFU → (List q2) → Prop) (k2 : Int → tFU → (List q2) → tBK → Prop) (s1 : Int) (s2 : List Int) (s3 s4 : Int) (s5 : tFU) (s6 : List q2) (s7 : tBK) : Prop where
of :
 ∀ (I1 : Int → (List Int) → Int → Int → tFU → (List q2) → tBK → Prop),
 (∀ (s1 : Int) (s2 : List Int) (s3 s4 : Int) (s5 : tFU) (s6 : List q2) (s7 : tBK), (br (decide (s4 < s3))
 (need False (at? s2 s4) fun y8 =>
 c44 y8 (s1, 0, ()) s5 s6
 (fun z9 z10 z11 => br (z9 != 0)
 (k1 z9 z10 z11)
 (I1 s1 s2 s3 (IntKind.wrap .i64 (s4 + 1)) z10 z11 s7)))
 (k2 s1 s5 s6 s7)) → I1 s1 s2 s3 s4 s5 s6 s7) →
 I1 s1 s2 s3 s4 s5 s6 s7
structure c52 (x1 : tIN) (k1 : Int → Bool → Prop) : Prop where
of :
 br ((x1.2.1 : Int) == 0)
 (k1 0 true)
 (br ((x1.2.1 : Int) == 1)
 (k1 2 true)
 (br ((x1.2.1 : Int) == 2)
 (k1 2 true)
 (br ((x1.2.1 : Int) == 3)
 (k1 2 true)
 (br ((x1.2.1 : Int) == 4)
 (k1 2 true)
 (br ((x1.2.1 : Int) == 5)
 (k1 2 true)
 (br ((x1.2.1 : Int) == 6)
 (k1 2 true)
 (br ((x1.2.1 : Int) == 7)
 (k1 2 true)
 (br ((x1.2.1 : Int) == 16)
 (k1 2 true)
 (br ((x1.2.1 : Int) == 18)
 (k1 2 true)
 (br ((x1.2.1 : Int) == 19)
 (k1 2 true)
 (br ((x1.2.1 : Int) == 21)
 (k1 2 true)
 (br ((x1.2.1 : Int) == 23)
 (k1 2 true)
 (br ((x1.2.1 : Int) == 20)
 (k1 3 true)
 (br ((x1.2.1 : Int) == 10)
 (k1 1 true)
 (br ((x1.2.1 : Int) == 11)
 (k1 1 true)
 (br ((x1.2.1 : Int) == 12)
 (k1 1 true)
 (br ((x1.2.1 : Int) == 15)
 (k1 1 true)
 (br ((x1.2.1 : Int) == 17)
 (k1 1 true)
 (br ((x1.2.1 : Int) == 24)
 (k1 1 true)
 (br ((x1.2.1 : Int) == 8)
 (k1 (-1) true)
 (br ((x1.2.1 : Int) == 9)
 (k1 (-1) true)
 (br ((x1.2.1 : Int) == 13)
 (k1 (-1) true)
 (br ((x1.2.1 : Int) == 14)
 (k1 (-1) true)
 (br ((x1.2.1 : Int) == 22)
 (br ((x1.2.2.1 : Int) == 2)
 (k1 x1.2.2.1 true)
 (k1 x1.2.2.1 ((x1.2.2.1 : Int) == 4)))
 (k1 0 false)))))))))))))))))))))))))
structure c55 (x1 : Int) (k1 : Bool → Prop) : Prop where
of :
 c38 x1 (-1073741824) 1073741823
 (fun z2 => k1 z2)
structure c53 (x1 : tIN) (k1 : Bool → Prop) : Prop where
of :
 br ((x1.2.1 : Int) == 0)
 (c55 x1.2.2.1
 (fun z2 => k1 z2))
 (br ((x1.2.1 : Int) == 8)
 (c38 x1.2.2.1 0 255
 (fun z3 => k1 z3))
 (br ((x1.2.1 : Int) == 11)
 (c38 x1.2.2.1 0 15
 (fun z4 => k1 z4))
 (br ((x1.2.1 : Int) == 9)
 (c38 x1.2.2.1 0 255
 (fun z5 => k1 z5))
 (br ((x1.2.1 : Int) == 13)
 (c38 x1.2.2.1 0 255
 (fun z6 => k1 z6))
 (br ((x1.2.1 : Int) == 23)
 (br ((x1.2.2.1 : Int) == 1)
 (k1 true)
 (br ((x1.2.2.1 : Int) == 2)
 (k1 true)
 (k1 ((x1.2.2.1 : Int) == 3))))
 (br ((x1.2.1 : Int) == 24)
 (c38 x1.2.2.1 0 3
 (fun z7 => k1 z7))
 (br ((x1.2.1 : Int) == 22)
 (k1 true)
 (k1 ((x1.2.2.1 : Int) == 0)))))))))
structure j45s5 (k1 : Int → Prop) (k2 : Prop) (s1 : Bool) (s2 : tIN) : Prop where
of :
 br (s1)
 (k1 2)
 (c53 s2
 (fun z3 => br (!z3)
 (k1 4)
 (k2)))
structure j45s2 (k1 : Int → Prop) (k2 : Prop) (s1 : Bool) (s2 : tIN) : Prop where
of :
 br (s1)
 (k1 3)
 (br ((s2.2.1 : Int) == 8)
 (br (decide (((↑(List.length s2.2.2.2.1)) : Int) > 16))
 (j45s5
 (fun z3 => k1 z3)
 (k2)
 true s2)
 (br ((s2.2.1 : Int) == 13)
 (j45s5
 (fun z4 => k1 z4)
 (k2)
 (decide (((↑(List.length s2.2.2.2.1)) : Int) > 6)) s2)
 (br ((s2.2.1 : Int) == 14)
 (j45s5
 (fun z5 => k1 z5)
 (k2)
 (decide (((↑(List.length s2.2.2.2.1)) : Int) > 6)) s2)
 (j45s5
 (fun z6 => k1 z6)
 (k2)
 false s2))))
 (br ((s2.2.1 : Int) == 9)
 (br (decide (((↑(List.length s2.2.2.2.1)) : Int) > 16))
 (j45s5
 (fun z7 => k1 z7)
 (k2)
 true s2)
 (br ((s2.2.1 : Int) == 13)
 (j45s5
 (fun z8 => k1 z8)
 (k2)
 (decide (((↑(List.length s2.2.2.2.1)) : Int) > 6)) s2)
 (br ((s2.2.1 : Int) == 14)
 (j45s5
 (fun z9 => k1 z9)
 (k2)
 (decide (((↑(List.length s2.2.2.2.1)) : Int) > 6)) s2)
 (j45s5
 (fun z10 => k1 z10)
 (k2)
 false s2))))
 (br ((s2.2.1 : Int) == 13)
 (j45s5
 (fun z11 => k1 z11)
 (k2)
 (decide (((↑(List.length s2.2.2.2.1)) : Int) > 6)) s2)
 (br ((s2.2.1 : Int) == 14)
 (j45s5
 (fun z12 => k1 z12)
 (k2)
 (decide (((↑(List.length s2.2.2.2.1)) : Int) > 6)) s2)
 (j45s5
 (fun z13 => k1 z13)
 (k2)
 false s2)))))
structure j45r9 (k1 : Int → Prop) : Prop where
of :
 k1 0
structure c45 (x1 : tIN) (k1 : Int → Prop) : Prop where
of :
 c52 x1
 (fun z2 z3 => br (!z3)
 (j45s2
 (fun z4 => k1 z4)
 (j45r9
 (fun z5 => k1 z5)
 )
 true x1)
 (br (decide (z2 ≥ 0))
 (br (((↑(List.length x1.2.2.2.1)) : Int) != z2)
 (j45s2
 (fun z6 => k1 z6)
 (j45r9
 (fun z7 => k1 z7)
 )
 true x1)
 (br ((x1.2.1 : Int) == 14)
 (j45s2
 (fun z8 => k1 z8)
 (j45r9
 (fun z9 => k1 z9)
 )
 (((↑(List.length x1.2.2.2.1)) : Int) == 0) x1)
 (j45s2
 (fun z10 => k1 z10)
 (j45r9
 (fun z11 => k1 z11)
 )
 false x1)))
 (br ((x1.2.1 : Int) == 14)
 (j45s2
 (fun z12 => k1 z12)
 (j45r9
 (fun z13 => k1 z13)
 )
 (((↑(List.length x1.2.2.2.1)) : Int) == 0) x1)
 (j45s2
 (fun z14 => k1 z14)
 (j45r9
 (fun z15 => k1 z15)
 )
 false x1))))
structure l39r10 (k1 : Int → tFU → (List q2) → Prop) (k2 : tFU → (List q2) → tBK → Prop) (s1 : Int) (s2 : List tIN) (s3 s4 : Int) (s5 : tFU) (s6 : List q2) (s7 : tBK) : Prop where
of :
 ∀ (I1 : Int → (List tIN) → Int → Int → tFU → (List q2) → tBK → Prop),
 (∀ (s1 : Int) (s2 : List tIN) (s3 s4 : Int) (s5 : tFU) (s6 : List q2) (s7 : tBK), (br (decide (s4 < s3))
 (need False (at? s2 s4) fun y8 =>
 c44 y8.1 (s1, (IntKind.wrap .i64 (s4 + 1)), ()) s5 s6
 (fun z9 z10 z11 => br (z9 != 0)
 (k1 z9 z10 z11)
 (c45 y8
 (fun z12 => br (z12 != 0)
 (k1 z12 z10 z11)
 (I1 s1 s2 s3 (IntKind.wrap .i64 (s4 + 1)) z10 z11 s7)))))
 (k2 s5 s6 s7)) → I1 s1 s2 s3 s4 s5 s6 s7) →
 I1 s1 s2 s3 s4 s5 s6 s7
structure j54r14 (k1 : Bool → Prop) (s1 : Int) (s2 s3 s4 : Bool) (s5 : tTM) : Prop where
of :
 br (((↑(List.length s5.2.2.2.2.1)) : Int) == s1)
 (br (s2)
 (br (s3)
 (br (s4)
 (k1 true)
 (k1 (((↑(List.length s5.2.2.2.1)) : Int) == 0)))
 (br ((s5.2.2.1 : Int) == 0)
 (br (s4)
 (k1 true)
 (k1 (((↑(List.length s5.2.2.2.1)) : Int) == 0)))
 (k1 false)))
 (br ((s5.2.1 : Int) == 0)
 (br (s3)
 (br (s4)
 (k1 true)
 (k1 (((↑(List.length s5.2.2.2.1)) : Int) == 0)))
 (br ((s5.2.2.1 : Int) == 0)
 (br (s4)
 (k1 true)
 (k1 (((↑(List.length s5.2.2.2.1)) : Int) == 0)))
 (k1 false)))
 (k1 false)))
 (k1 false)
structure c54 (x1 : tTM) (k1 : Bool → Prop) : Prop where
of :
 br ((x1.1 : Int) == 0)
 (j54r14
 (fun z2 => k1 z2)
 0 true false false x1)
 (br ((x1.1 : Int) == 1)
 (j54r14
 (fun z3 => k1 z3)
 1 false false false x1)
 (br ((x1.1 : Int) == 2)
 (j54r14
 (fun z4 => k1 z4)
 2 true false false x1)
 (br ((x1.1 : Int) == 3)
 (j54r14
 (fun z5 => k1 z5)
 (IntKind.wrap .i64 ((↑(List.length x1.2.2.2.1)) + 1)) true false true x1)
 (br ((x1.1 : Int) == 4)
 (j54r14
 (fun z6 => k1 z6)
 0 false true false x1)
 (k1 false)))))
structure l51r2 (k1 : Int → Prop) (k2 : Prop) (s1 : List Int) (s2 s3 s4 : Int) : Prop where
of :
 ∀ (I1 : (List Int) → Int → Int → Int → Prop),
 (∀ (s1 : List Int) (s2 s3 s4 : Int), (br (decide (s4 < s3))
 (need False (at? s1 s4) fun y5 =>
 br (s2 == y5)
 (k1 s4)
 (I1 s1 s2 s3 (IntKind.wrap .i64 (s4 + 1))))
 (k2)) → I1 s1 s2 s3 s4) →
 I1 s1 s2 s3 s4
structure c51 (x1 : List Int) (x2 : Int) (k1 : Int → Prop) : Prop where
of :
 l51r2
 (fun z3 => k1 z3)
 (k1 (-1))
 x1 x2 (↑(List.length x1)) 0
structure c43 (x1 : List Int) (x2 : Int) (k1 : Bool → Prop) : Prop where
of :
 c51 x1 x2
 (fun z3 => k1 (decide ((z3 : Int) ≥ 0)))
structure l46r8 (k1 : Int → Prop) (k2 : tFU → tTM → Prop) (s1 : List Int) (s2 s3 : Int) (s4 : tFU) (s5 : tTM) : Prop where
of :
 ∀ (I1 : (List Int) → Int → Int → tFU → tTM → Prop),
 (∀ (s1 : List Int) (s2 s3 : Int) (s4 : tFU) (s5 : tTM), (br (decide (s3 < s2))
 (need False (at? s1 s3) fun y6 =>
 c55 y6
 (fun z7 => br (!z7)
 (k1 4)
 (br (decide ((0 : Int) ≤ 0 ∧ (0 : Int) ≤ s3 ∧ (s3 : Int) ≤ (↑(List.length s5.2.2.2.1))))
 (c43 (List.drop 0 (List.take (Int.toNat s3) s5.2.2.2.1)) y6
 (fun z8 => br (z8)
 (k1 7)
 (I1 s1 s2 (IntKind.wrap .i64 (s3 + 1)) s4 s5)))
 False)))
 (k2 s4 s5)) → I1 s1 s2 s3 s4 s5) →
 I1 s1 s2 s3 s4 s5
structure l46r16 (k1 : Int → Prop) (k2 : Prop) (s1 : List tED) (s2 s3 : Int) (s4 : tFU) : Prop where
of :
 ∀ (I1 : (List tED) → Int → Int → tFU → Prop),
 (∀ (s1 : List tED) (s2 s3 : Int) (s4 : tFU), (br (decide (s3 < s2))
 (need False (at? s1 s3) fun y5 =>
 c38 y5.1 1 (IntKind.wrap .i64 ((↑(List.length s4.2.1)) - 1))
 (fun z6 => br (!z6)
 (k1 4)
 (need False (at? s4.2.1 y5.1) fun y7 =>
 (br (true && true)
 (br (eqT (.sl (.pair (.sl (.int .i64)) (.pair (.sl (.pair (.int .i64) (.pair (.int .i64) (.pair (.int .i64) (.pair (.sl (.int .i64)) .unit))))) (.pair (.pair (.int .i64) (.pair (.int .i64) (.pair (.int .i64) (.pair (.sl (.int .i64)) (.pair (.sl (.pair (.int .i64) (.pair (.sl (.int .i64)) .unit))) .unit))))) .unit)))) s4.2.1 s4.2.1)
 (br (true && true)
 (br (eqT (.int .i64) y5.1 y5.1)
 (need False (at? s4.2.1 y5.1) fun y8 =>
 br (eqT (.pair (.sl (.int .i64)) (.pair (.sl (.pair (.int .i64) (.pair (.int .i64) (.pair (.int .i64) (.pair (.sl (.int .i64)) .unit))))) (.pair (.pair (.int .i64) (.pair (.int .i64) (.pair (.int .i64) (.pair (.sl (.int .i64)) (.pair (.sl (.pair (.int .i64) (.pair (.sl (.int .i64)) .unit))) .unit))))) .unit))) y7 y8)
 (br (eqT (.sl (.int .i64)) y7.1 y7.1)
 (br (eqT (.int .i64) (((List.length y5.2.1) : Nat) : Int) (((List.length y5.2.1) : Nat) : Int))
 (br (((↑(List.length y5.2.1)) : Int) != (↑(List.length y7.1)))
 (k1 3)
 (I1 s1 s2 (IntKind.wrap .i64 (s3 + 1)) s4))
 False)
 False)
 False)
 False)
 False)
 False)
 False) ∧
 (br (true && true)
 (br (eqT (.int .i64) (((List.length y7.1) : Nat) : Int) (((List.length y7.1) : Nat) : Int))
 (br (((↑(List.length y5.2.1)) : Int) != (↑(List.length y7.1)))
 (k1 3)
 (I1 s1 s2 (IntKind.wrap .i64 (s3 + 1)) s4))
 False)
 False))))
 (k2)) → I1 s1 s2 s3 s4) →
 I1 s1 s2 s3 s4
structure c46 (x1 : tFU) (x2 : tTM) (k1 : Int → Prop) : Prop where
of :
 c54 x2
 (fun z3 => br (!z3)
 (k1 3)
 (br (decide (((↑(List.length x2.2.2.2.1)) : Int) > 256))
 (k1 2)
 (br ((x2.1 : Int) == 4)
 (c38 x2.2.2.1 1 6
 (fun z4 => br (!z4)
 (k1 4)
 (l46r8
 (fun z5 => k1 z5)
 (fun z6 z7 => l46r16
 (fun z8 => k1 z8)
 (k1 0)
 z7.2.2.2.2.1 (↑(List.length z7.2.2.2.2.1)) 0 z6)
 x2.2.2.2.1 (↑(List.length x2.2.2.2.1)) 0 x1 x2)))
 (l46r8
 (fun z9 => k1 z9)
 (fun z10 z11 => l46r16
 (fun z12 => k1 z12)
 (k1 0)
 z11.2.2.2.2.1 (↑(List.length z11.2.2.2.2.1)) 0 z10)
 x2.2.2.2.1 (↑(List.length x2.2.2.2.1)) 0 x1 x2))))
structure c39 (x1 : Int) (x2 : tFU) (x3 : List q2) (k1 : Int → tFU → (List q2) → Prop) : Prop where
of :
 need False (at? x2.2.1 x1) fun y4 =>
 l39r3
 (fun z5 z6 z7 => k1 z5 z6 z7)
 (fun z8 z9 z10 z11 => l39r10
 (fun z12 z13 z14 => k1 z12 z13 z14)
 (fun z15 z16 z17 => c46 z15 z17.2.2.1
 (fun z18 => k1 z18 z15 z16))
 z8 z11.2.1 (↑(List.length z11.2.1)) 0 z9 z10 z11)
 x1 y4.1 (↑(List.length y4.1)) 0 x2 x3 y4
structure l30r15 (k1 : Int → Prop) (k2 : tFU → (List q2) → Prop) (s1 s2 : Int) (s3 : tFU) (s4 : List q2) : Prop where
of :
 ∀ (I1 : Int → Int → tFU → (List q2) → Prop),
 (∀ (s1 s2 : Int) (s3 : tFU) (s4 : List q2), (br (decide (s2 < s1))
 (c39 s2 s3 s4
 (fun z5 z6 z7 => br (z5 != 0)
 (k1 z5)
 (I1 s1 (IntKind.wrap .i64 (s2 + 1)) z6 z7)))
 (k2 s3 s4)) → I1 s1 s2 s3 s4) →
 I1 s1 s2 s3 s4
structure c56 (x1 : List Int) (x2 : Int) (k1 : (List Int) → Prop) : Prop where
of :
 br (decide ((0 : Int) ≤ (IntKind.wrap .i64 (Int.tdiv x2 64)) ∧ ((IntKind.wrap .i64 (Int.tdiv x2 64)) : Int) < 2))
 (need False (x1)[(Int.toNat (IntKind.wrap .i64 (Int.tdiv x2 64)))]? fun y3 =>
 br (decide (((Int.tmod x2 64) : Int) < 0))
 False
 (br (decide ((0 : Int) ≤ (IntKind.wrap .i64 (Int.tdiv x2 64)) ∧ ((IntKind.wrap .i64 (Int.tdiv x2 64)) : Int) < 2))
 (need False (x1)[(Int.toNat (IntKind.wrap .i64 (Int.tdiv x2 64)))]? fun y4 =>
 k1 (List.set x1 (Int.toNat (IntKind.wrap .i64 (Int.tdiv x2 64))) (bitop .or .u64 y3 (shlI .u64 1 (Int.tmod x2 64)))))
 False))
 False
structure l47r3 (k1 : tFU → (List Int) → (List Int) → Prop) (s1 s2 : Int) (s3 : tFU) (s4 s5 : List Int) : Prop where
of :
 ∀ (I1 : Int → Int → tFU → (List Int) → (List Int) → Prop),
 (∀ (s1 s2 : Int) (s3 : tFU) (s4 s5 : List Int), (br (decide (s2 < s1))
 (c56 s5 s2
 (fun z6 => I1 s1 (IntKind.wrap .i64 (s2 + 1)) s3 s4 z6))
 (k1 s3 s4 s5)) → I1 s1 s2 s3 s4 s5) →
 I1 s1 s2 s3 s4 s5
structure l47r9 (k1 : tFU → (List Int) → (List (List Int)) → Prop) (s1 s2 : Int) (s3 : tFU) (s4 s5 : List Int) (s6 : List (List Int)) : Prop where
of :
 ∀ (I1 : Int → Int → tFU → (List Int) → (List Int) → (List (List Int)) → Prop),
 (∀ (s1 s2 : Int) (s3 : tFU) (s4 s5 : List Int) (s6 : List (List Int)), (br (decide (s2 < s1))
 (br (decide (0 ≤ s2 ∧ s2 < (↑(List.length s6))))
 (need False (s6)[(Int.toNat s2)]? fun y7 =>
 I1 s1 (IntKind.wrap .i64 (s2 + 1)) s3 s4 s5 (List.set s6 (Int.toNat s2) s5))
 False)
 (k1 s3 s4 s6)) → I1 s1 s2 s3 s4 s5 s6) →
 I1 s1 s2 s3 s4 s5 s6
structure c49 (x1 : List Int) (x2 : Int) (k1 : Bool → Prop) : Prop where
of :
 br (decide ((0 : Int) ≤ (IntKind.wrap .i64 (Int.tdiv x2 64)) ∧ ((IntKind.wrap .i64 (Int.tdiv x2 64)) : Int) < 2))
 (need False (x1)[(Int.toNat (IntKind.wrap .i64 (Int.tdiv x2 64)))]? fun y3 =>
 br (decide (((Int.tmod x2 64) : Int) < 0))
 False
 (k1 (((bitop .and .u64 (shrI .u64 y3 (Int.tmod x2 64)) 1) : Int) == 1)))
 False
structure c57 (x1 x2 : List Int) (k1 : (List Int) → Prop) : Prop where
of :
 need False (x1)[0]? fun y3 =>
 need False (x2)[0]? fun y4 =>
 need False (x1)[1]? fun y5 =>
 need False (x2)[1]? fun y6 =>
 k1 [(bitop .and .u64 y3 y4), (bitop .and .u64 y5 y6)]
structure j47r26 (k1 : Bool → Int → (List tBK) → Int → Int → (List tED) → Int → Int → tFU → (List Int) → (List (List Int)) → (List Int) → Prop) (s1 : Bool) (s2 : Int) (s3 : List tBK) (s4 s5 : Int) (s6 : List tED) (s7 s8 : Int) (s9 : tFU) (s10 : List Int) (s11 : List (List Int)) (s12 : List Int) (s13 : tED) (s14 : List Int) : Prop where
of :
 br (decide ((0 : Int) ≤ s13.1 ∧ (s13.1 : Int) < (↑(List.length s11))))
 (need False (s11)[(Int.toNat s13.1)]? fun y15 =>
 br (!(eqT (.arr 2 (.int .u64)) s14 y15))
 (c56 s12 s13.1
 (fun z16 => br (true && true)
 (br (eqT (.int .i64) s13.1 s13.1)
 (br (eqT (.arr 2 (.int .u64)) s14 s14)
 (br (decide ((0 : Int) ≤ s13.1 ∧ (s13.1 : Int) < (↑(List.length s11))))
 (need False (s11)[(Int.toNat s13.1)]? fun y17 =>
 k1 true s2 s3 s4 s5 s6 s7 s8 s9 s10 (List.set s11 (Int.toNat s13.1) s14) z16)
 False)
 False)
 False)
 False))
 (c49 s12 s13.1
 (fun z18 => br (!z18)
 (c56 s12 s13.1
 (fun z19 => br (true && true)
 (br (eqT (.int .i64) s13.1 s13.1)
 (br (eqT (.arr 2 (.int .u64)) s14 s14)
 (br (decide ((0 : Int) ≤ s13.1 ∧ (s13.1 : Int) < (↑(List.length s11))))
 (need False (s11)[(Int.toNat s13.1)]? fun y20 =>
 k1 true s2 s3 s4 s5 s6 s7 s8 s9 s10 (List.set s11 (Int.toNat s13.1) s14) z19)
 False)
 False)
 False)
 False))
 (k1 s1 s2 s3 s4 s5 s6 s7 s8 s9 s10 s11 s12))))
 False
structure l47r23 (k1 : Bool → (List tBK) → Int → Int → tFU → (List Int) → (List (List Int)) → (List Int) → Prop) (s1 : Bool) (s2 : Int) (s3 : List tBK) (s4 s5 : Int) (s6 : List tED) (s7 s8 : Int) (s9 : tFU) (s10 : List Int) (s11 : List (List Int)) (s12 : List Int) : Prop where
of :
 ∀ (I1 : Bool → Int → (List tBK) → Int → Int → (List tED) → Int → Int → tFU → (List Int) → (List (List Int)) → (List Int) → Prop),
 (∀ (s1 : Bool) (s2 : Int) (s3 : List tBK) (s4 s5 : Int) (s6 : List tED) (s7 s8 : Int) (s9 : tFU) (s10 : List Int) (s11 : List (List Int)) (s12 : List Int), (br (decide (s8 < s7))
 (need False (at? s6 s8) fun y13 =>
 br (decide ((0 : Int) ≤ y13.1 ∧ (y13.1 : Int) < (↑(List.length s11))))
 (need False (s11)[(Int.toNat y13.1)]? fun y14 =>
 br (decide (0 ≤ s2 ∧ s2 < (↑(List.length s11))))
 (need False (s11)[(Int.toNat s2)]? fun y15 =>
 (c57 y14 y15
 (fun z16 => br (true && true)
 (br (eqT (.int .i64) y13.1 y13.1)
 ((c56 z16 y13.1
 (fun z17 => j47r26
 (fun z18 z19 z20 z21 z22 z23 z24 z25 z26 z27 z28 z29 => I1 z18 z19 z20 z21 z22 z23 z24 (IntKind.wrap .i64 (z25 + 1)) z26 z27 z28 z29)
 s1 s2 s3 s4 s5 s6 s7 s8 s9 s10 s11 s12 y13 z17)) ∧
 (br (true && true)
 (br (eqT (.int .i64) y13.1 y13.1)
 (c56 z16 y13.1
 (fun z30 => j47r26
 (fun z31 z32 z33 z34 z35 z36 z37 z38 z39 z40 z41 z42 => I1 z31 z32 z33 z34 z35 z36 z37 (IntKind.wrap .i64 (z38 + 1)) z39 z40 z41 z42)
 s1 s2 s3 s4 s5 s6 s7 s8 s9 s10 s11 s12 y13 z30))
 False)
 False))
 False)
 False)) ∧
 (br (true && true)
 (br (eqT (.int .i64) y13.1 y13.1)
 (br (decide ((0 : Int) ≤ y13.1 ∧ (y13.1 : Int) < (↑(List.length s11))))
 (br ((decide ((Int.toNat y13.1) = (Int.toNat y13.1))) && true)
 (need False (s11)[(Int.toNat y13.1)]? fun y43 =>
 br (eqT (.arr 2 (.int .u64)) y14 y43)
 (br (eqT (.int .i64) s2 s2)
 (br (decide (0 ≤ s2 ∧ s2 < (↑(List.length s11))))
 (br ((decide ((Int.toNat s2) = (Int.toNat s2))) && true)
 (need False (s11)[(Int.toNat s2)]? fun y44 =>
 br (eqT (.arr 2 (.int .u64)) y15 y44)
 (br (true && true)
 (br (eqT (.int .i64) y13.1 y13.1)
 (c57 y14 y15
 (fun z45 => br (true && true)
 (br (eqT (.int .i64) y13.1 y13.1)
 (c56 z45 y13.1
 (fun z46 => j47r26
 (fun z47 z48 z49 z50 z51 z52 z53 z54 z55 z56 z57 z58 => I1 z47 z48 z49 z50 z51 z52 z53 (IntKind.wrap .i64 (z54 + 1)) z55 z56 z57 z58)
 s1 s2 s3 s4 s5 s6 s7 s8 s9 s10 s11 s12 y13 z46))
 False)
 False))
 False)
 False)
 False)
 False)
 False)
 False)
 False)
 False)
 False)
 False)
 False))
 False)
 False)
 (k1 s1 s3 s4 s5 s9 s10 s11 s12)) → I1 s1 s2 s3 s4 s5 s6 s7 s8 s9 s10 s11 s12) →
 I1 s1 s2 s3 s4 s5 s6 s7 s8 s9 s10 s11 s12
structure l47r19 (k1 : Bool → tFU → (List Int) → (List (List Int)) → (List Int) → Prop) (s1 : Bool) (s2 : List tBK) (s3 s4 : Int) (s5 : tFU) (s6 : List Int) (s7 : List (List Int)) (s8 : List Int) : Prop where
of :
 ∀ (I1 : Bool → (List tBK) → Int → Int → tFU → (List Int) → (List (List Int)) → (List Int) → Prop),
 (∀ (s1 : Bool) (s2 : List tBK) (s3 s4 : Int) (s5 : tFU) (s6 : List Int) (s7 : List (List Int)) (s8 : List Int), (br (decide (s4 < s3))
 (need False (at? s2 s4) fun y9 =>
 c49 s8 s4
 (fun z10 => br (!z10)
 (I1 s1 s2 s3 (IntKind.wrap .i64 (s4 + 1)) s5 s6 s7 s8)
 (l47r23
 (fun z11 z12 z13 z14 z15 z16 z17 z18 => I1 z11 z12 z13 (IntKind.wrap .i64 (z14 + 1)) z15 z16 z17 z18)
 s1 s4 s2 s3 s4 y9.2.2.1.2.2.2.2.1 (↑(List.length y9.2.2.1.2.2.2.2.1)) 0 s5 s6 s7 s8)))
 (k1 s1 s5 s6 s7 s8)) → I1 s1 s2 s3 s4 s5 s6 s7 s8) →
 I1 s1 s2 s3 s4 s5 s6 s7 s8
structure l47r16 (k1 : (List Int) → (List (List Int)) → (List Int) → Prop) (s1 : Bool) (s2 : tFU) (s3 : List Int) (s4 : List (List Int)) (s5 : List Int) : Prop where
of :
 ∀ (I1 : Bool → tFU → (List Int) → (List (List Int)) → (List Int) → Prop),
 (∀ (s1 : Bool) (s2 : tFU) (s3 : List Int) (s4 : List (List Int)) (s5 : List Int), (br (s1)
 (l47r19
 (fun z6 z7 z8 z9 z10 => I1 z6 z7 z8 z9 z10)
 false s2.2.1 (↑(List.length s2.2.1)) 0 s2 s3 s4 s5)
 (k1 s3 s4 s5)) → I1 s1 s2 s3 s4 s5) →
 I1 s1 s2 s3 s4 s5
structure c47 (x1 : tFU) (k1 : (List Int) → (List (List Int)) → Prop) : Prop where
of :
 l47r3
 (fun z2 z3 z4 => br (decide ((0 : Int) ≤ (↑(List.length z2.2.1)) ∧ ((↑(List.length z2.2.1)) : Int) ≤ (↑(List.length z2.2.1)) ∧ (((↑(List.length z2.2.1)) * 16) : Int) ≤ 140737488355328))
 (l47r9
 (fun z5 z6 z7 => c56 [0, 0] 0
 (fun z8 => br (decide ((0 : Int) ≤ 0 ∧ (0 : Int) < (↑(List.length z7))))
 (need False (z7)[0]? fun y9 =>
 c56 [0, 0] 0
 (fun z10 => l47r16
 (fun z11 z12 z13 => k1 z13 z12)
 true z5 z6 (List.set z7 0 z8) z10))
 False))
 (↑(List.length (List.replicate (Int.toNat (↑(List.length z2.2.1))) ([0, 0] : List (Int))))) 0 z2 z3 z4 (List.replicate (Int.toNat (↑(List.length z2.2.1))) ([0, 0] : List (Int))))
 False)
 (↑(List.length x1.2.1)) 0 x1 [0, 0] [0, 0]
structure c48 (x1 : Int) (x2 : tFU) (x3 : List q2) (x4 x5 : Int) (x6 : List (List Int)) (x7 : List Int) (k1 : Bool → tFU → (List q2) → Int → Int → (List (List Int)) → (List Int) → Prop) : Prop where
of :
 br (mhas x3 x1)
 (br (((mval (0, 0, ()) x3 x1).1 : Int) == x4)
 (br (decide (((mval (0, 0, ()) x3 x1).2.1 : Int) ≤ x5))
 (k1 true x2 x3 x4 x5 x6 x7)
 (br (((mval (0, 0, ()) x3 x1).1 : Int) != x4)
 (br (decide (0 ≤ x4 ∧ x4 < (↑(List.length x6))))
 (need False (x6)[(Int.toNat x4)]? fun y8 =>
 c49 y8 (mval (0, 0, ()) x3 x1).1
 (fun z9 => br (z9)
 (k1 true x2 x3 x4 x5 x6 x7)
 (c49 x7 x4
 (fun z10 => k1 (!z10) x2 x3 x4 x5 x6 x7))))
 False)
 (c49 x7 x4
 (fun z11 => k1 (!z11) x2 x3 x4 x5 x6 x7))))
 (br (((mval (0, 0, ()) x3 x1).1 : Int) != x4)
 (br (decide (0 ≤ x4 ∧ x4 < (↑(List.length x6))))
 (need False (x6)[(Int.toNat x4)]? fun y12 =>
 c49 y12 (mval (0, 0, ()) x3 x1).1
 (fun z13 => br (z13)
 (k1 true x2 x3 x4 x5 x6 x7)
 (c49 x7 x4
 (fun z14 => k1 (!z14) x2 x3 x4 x5 x6 x7))))
 False)
 (c49 x7 x4
 (fun z15 => k1 (!z15) x2 x3 x4 x5 x6 x7))))
 (k1 false x2 x3 x4 x5 x6 x7)
structure l40r12 (k1 : Int → tFU → (List q2) → Prop) (k2 : (List tBK) → Int → Int → (List tIN) → Int → Int → tFU → (List q2) → (List (List Int)) → (List Int) → tBK → Int → Int → Prop) (s1 : List tBK) (s2 s3 : Int) (s4 : List tIN) (s5 s6 : Int) (s7 : List Int) (s8 s9 : Int) (s10 : tFU) (s11 : List q2) (s12 : List (List Int)) (s13 : List Int) (s14 : tBK) (s15 s16 : Int) : Prop where
of :
 ∀ (I1 : (List tBK) → Int → Int → (List tIN) → Int → Int → (List Int) → Int → Int → tFU → (List q2) → (List (List Int)) → (List Int) → tBK → Int → Int → Prop),
 (∀ (s1 : List tBK) (s2 s3 : Int) (s4 : List tIN) (s5 s6 : Int) (s7 : List Int) (s8 s9 : Int) (s10 : tFU) (s11 : List q2) (s12 : List (List Int)) (s13 : List Int) (s14 : tBK) (s15 s16 : Int), (br (decide (s9 < s8))
 (need False (at? s7 s9) fun y17 =>
 c48 y17 s10 s11 s16 s15 s12 s13
 (fun z18 z19 z20 z21 z22 z23 z24 => br (!z18)
 (k1 6 z19 z20)
 (I1 s1 s2 s3 s4 s5 s6 s7 s8 (IntKind.wrap .i64 (s9 + 1)) z19 z20 z23 z24 s14 z22 z21)))
 (k2 s1 s2 s3 s4 s5 s6 s10 s11 s12 s13 s14 s15 s16)) → I1 s1 s2 s3 s4 s5 s6 s7 s8 s9 s10 s11 s12 s13 s14 s15 s16) →
 I1 s1 s2 s3 s4 s5 s6 s7 s8 s9 s10 s11 s12 s13 s14 s15 s16
structure l40r8 (k1 : Int → tFU → (List q2) → Prop) (k2 : (List tBK) → Int → Int → tFU → (List q2) → (List (List Int)) → (List Int) → tBK → Int → Int → Prop) (s1 : List tBK) (s2 s3 : Int) (s4 : List tIN) (s5 s6 : Int) (s7 : tFU) (s8 : List q2) (s9 : List (List Int)) (s10 : List Int) (s11 : tBK) (s12 s13 : Int) : Prop where
of :
 ∀ (I1 : (List tBK) → Int → Int → (List tIN) → Int → Int → tFU → (List q2) → (List (List Int)) → (List Int) → tBK → Int → Int → Prop),
 (∀ (s1 : List tBK) (s2 s3 : Int) (s4 : List tIN) (s5 s6 : Int) (s7 : tFU) (s8 : List q2) (s9 : List (List Int)) (s10 : List Int) (s11 : tBK) (s12 s13 : Int), (br (decide (s6 < s5))
 (need False (at? s4 s6) fun y14 =>
 l40r12
 (fun z15 z16 z17 => k1 z15 z16 z17)
 (fun z18 z19 z20 z21 z22 z23 z24 z25 z26 z27 z28 z29 z30 => I1 z18 z19 z20 z21 z22 (IntKind.wrap .i64 (z23 + 1)) z24 z25 z26 z27 z28 z29 z30)
 s1 s2 s3 s4 s5 s6 y14.2.2.2.1 (↑(List.length y14.2.2.2.1)) 0 s7 s8 s9 s10 s11 s6 s13)
 (k2 s1 s2 s3 s7 s8 s9 s10 s11 s12 s13)) → I1 s1 s2 s3 s4 s5 s6 s7 s8 s9 s10 s11 s12 s13) →
 I1 s1 s2 s3 s4 s5 s6 s7 s8 s9 s10 s11 s12 s13
structure l50r7 (k1 : Bool → tFU → (List q2) → Int → Int → (List (List Int)) → (List Int) → Prop) (k2 : (List tED) → Int → Int → tFU → (List q2) → Int → Int → (List (List Int)) → (List Int) → Prop) (s1 : List tED) (s2 s3 : Int) (s4 : List Int) (s5 s6 : Int) (s7 : tFU) (s8 : List q2) (s9 s10 : Int) (s11 : List (List Int)) (s12 : List Int) : Prop where
of :
 ∀ (I1 : (List tED) → Int → Int → (List Int) → Int → Int → tFU → (List q2) → Int → Int → (List (List Int)) → (List Int) → Prop),
 (∀ (s1 : List tED) (s2 s3 : Int) (s4 : List Int) (s5 s6 : Int) (s7 : tFU) (s8 : List q2) (s9 s10 : Int) (s11 : List (List Int)) (s12 : List Int), (br (decide (s6 < s5))
 (need False (at? s4 s6) fun y13 =>
 c48 y13 s7 s8 s9 s10 s11 s12
 (fun z14 z15 z16 z17 z18 z19 z20 => br (!z14)
 (k1 false z15 z16 z17 z18 z19 z20)
 (I1 s1 s2 s3 s4 s5 (IntKind.wrap .i64 (s6 + 1)) z15 z16 z17 z18 z19 z20)))
 (k2 s1 s2 s3 s7 s8 s9 s10 s11 s12)) → I1 s1 s2 s3 s4 s5 s6 s7 s8 s9 s10 s11 s12) →
 I1 s1 s2 s3 s4 s5 s6 s7 s8 s9 s10 s11 s12
structure l50r4 (k1 : Bool → tFU → (List q2) → Int → Int → (List (List Int)) → (List Int) → Prop) (k2 : tFU → (List q2) → Int → Int → (List (List Int)) → (List Int) → Prop) (s1 : List tED) (s2 s3 : Int) (s4 : tFU) (s5 : List q2) (s6 s7 : Int) (s8 : List (List Int)) (s9 : List Int) : Prop where
of :
 ∀ (I1 : (List tED) → Int → Int → tFU → (List q2) → Int → Int → (List (List Int)) → (List Int) → Prop),
 (∀ (s1 : List tED) (s2 s3 : Int) (s4 : tFU) (s5 : List q2) (s6 s7 : Int) (s8 : List (List Int)) (s9 : List Int), (br (decide (s3 < s2))
 (need False (at? s1 s3) fun y10 =>
 l50r7
 (fun z11 z12 z13 z14 z15 z16 z17 => k1 z11 z12 z13 z14 z15 z16 z17)
 (fun z18 z19 z20 z21 z22 z23 z24 z25 z26 => I1 z18 z19 (IntKind.wrap .i64 (z20 + 1)) z21 z22 z23 z24 z25 z26)
 s1 s2 s3 y10.2.1 (↑(List.length y10.2.1)) 0 s4 s5 s6 s7 s8 s9)
 (k2 s4 s5 s6 s7 s8 s9)) → I1 s1 s2 s3 s4 s5 s6 s7 s8 s9) →
 I1 s1 s2 s3 s4 s5 s6 s7 s8 s9
structure c50 (x1 : tTM) (x2 : tFU) (x3 : List q2) (x4 x5 : Int) (x6 : List (List Int)) (x7 : List Int) (k1 : Bool → tFU → (List q2) → Int → Int → (List (List Int)) → (List Int) → Prop) : Prop where
of :
 br ((x1.1 : Int) != 1)
 (br ((x1.1 : Int) != 4)
 (c48 x1.2.1 x2 x3 x4 x5 x6 x7
 (fun z8 z9 z10 z11 z12 z13 z14 => br (!z8)
 (k1 false z9 z10 z11 z12 z13 z14)
 (l50r4
 (fun z15 z16 z17 z18 z19 z20 z21 => k1 z15 z16 z17 z18 z19 z20 z21)
 (fun z22 z23 z24 z25 z26 z27 => k1 true z22 z23 z24 z25 z26 z27)
 x1.2.2.2.2.1 (↑(List.length x1.2.2.2.2.1)) 0 z9 z10 z11 z12 z13 z14)))
 (l50r4
 (fun z28 z29 z30 z31 z32 z33 z34 => k1 z28 z29 z30 z31 z32 z33 z34)
 (fun z35 z36 z37 z38 z39 z40 => k1 true z35 z36 z37 z38 z39 z40)
 x1.2.2.2.2.1 (↑(List.length x1.2.2.2.2.1)) 0 x2 x3 x4 x5 x6 x7))
 (l50r4
 (fun z41 z42 z43 z44 z45 z46 z47 => k1 z41 z42 z43 z44 z45 z46 z47)
 (fun z48 z49 z50 z51 z52 z53 => k1 true z48 z49 z50 z51 z52 z53)
 x1.2.2.2.2.1 (↑(List.length x1.2.2.2.2.1)) 0 x2 x3 x4 x5 x6 x7)
structure l40r3 (k1 : Int → tFU → (List q2) → Prop) (k2 : tFU → (List q2) → Prop) (s1 : List tBK) (s2 s3 : Int) (s4 : tFU) (s5 : List q2) (s6 : List (List Int)) (s7 : List Int) : Prop where
of :
 ∀ (I1 : (List tBK) → Int → Int → tFU → (List q2) → (List (List Int)) → (List Int) → Prop),
 (∀ (s1 : List tBK) (s2 s3 : Int) (s4 : tFU) (s5 : List q2) (s6 : List (List Int)) (s7 : List Int), (br (decide (s3 < s2))
 (need False (at? s1 s3) fun y8 =>
 l40r8
 (fun z9 z10 z11 => k1 z9 z10 z11)
 (fun z12 z13 z14 z15 z16 z17 z18 z19 z20 z21 => c50 z19.2.2.1 z15 z16 z21 (↑(List.length z19.2.1)) z17 z18
 (fun z22 z23 z24 z25 z26 z27 z28 => br (!z22)
 (k1 6 z23 z24)
 (I1 z12 z13 (IntKind.wrap .i64 (z14 + 1)) z23 z24 z27 z28)))
 s1 s2 s3 y8.2.1 (↑(List.length y8.2.1)) 0 s4 s5 s6 s7 y8 0 s3)
 (k2 s4 s5)) → I1 s1 s2 s3 s4 s5 s6 s7) →
 I1 s1 s2 s3 s4 s5 s6 s7
structure c40 (x1 : tFU) (x2 : List q2) (k1 : Int → tFU → (List q2) → Prop) : Prop where
of :
 c47 x1
 (fun z3 z4 => l40r3
 (fun z5 z6 z7 => k1 z5 z6 z7)
 (fun z8 z9 => k1 0 z8 z9)
 x1.2.1 (↑(List.length x1.2.1)) 0 x1 x2 z4 z3)
structure c30 (x1 : tFU) (k1 : Int → Prop) : Prop where
of :
 l30r3
 (fun z2 z3 => br (((↑(List.length z3.2.1)) : Int) == 0)
 (k1 3)
 (br (decide (((↑(List.length z3.2.1)) : Int) > 128))
 (k1 2)
 (br (decide (z2 > 1024))
 (k1 2)
 (need False (at? z3.2.1 0) fun y4 =>
 br (decide (((↑(List.length y4.1)) : Int) > 6))
 (k1 2)
 (c38 z3.1 (-1) 1048575
 (fun z5 => br (!z5)
 (k1 4)
 (l30r15
 (fun z6 => k1 z6)
 (fun z7 z8 => c40 z7 z8
 (fun z9 z10 z11 => k1 z9))
 (↑(List.length z3.2.1)) 0 z3 [])))))))
 0 x1.2.1 (↑(List.length x1.2.1)) 0 x1
structure c42 (x1 x2 : Int) (k1 : Int → Prop) : Prop where
of :
 k1 (maxI x2 (IntKind.wrap .i64 (x1 + 1)))
structure l41r5 (k1 : (List tBK) → Int → Int → Int → tBK → Prop) (s1 : List tBK) (s2 s3 : Int) (s4 : List Int) (s5 s6 s7 : Int) (s8 : tBK) : Prop where
of :
 ∀ (I1 : (List tBK) → Int → Int → (List Int) → Int → Int → Int → tBK → Prop),
 (∀ (s1 : List tBK) (s2 s3 : Int) (s4 : List Int) (s5 s6 s7 : Int) (s8 : tBK), (br (decide (s6 < s5))
 (need False (at? s4 s6) fun y9 =>
 c42 y9 s7
 (fun z10 => I1 s1 s2 s3 s4 s5 (IntKind.wrap .i64 (s6 + 1)) z10 s8))
 (k1 s1 s2 s3 s7 s8)) → I1 s1 s2 s3 s4 s5 s6 s7 s8) →
 I1 s1 s2 s3 s4 s5 s6 s7 s8
structure l41r10 (k1 : (List tBK) → Int → Int → Int → Prop) (s1 : List tBK) (s2 s3 : Int) (s4 : List tIN) (s5 s6 s7 : Int) : Prop where
of :
 ∀ (I1 : (List tBK) → Int → Int → (List tIN) → Int → Int → Int → Prop),
 (∀ (s1 : List tBK) (s2 s3 : Int) (s4 : List tIN) (s5 s6 s7 : Int), (br (decide (s6 < s5))
 (need False (at? s4 s6) fun y8 =>
 c42 y8.1 s7
 (fun z9 => I1 s1 s2 s3 s4 s5 (IntKind.wrap .i64 (s6 + 1)) z9))
 (k1 s1 s2 s3 s7)) → I1 s1 s2 s3 s4 s5 s6 s7) →
 I1 s1 s2 s3 s4 s5 s6 s7
structure l41r2 (k1 : Int → Prop) (s1 : List tBK) (s2 s3 s4 : Int) : Prop where
of :
 ∀ (I1 : (List tBK) → Int → Int → Int → Prop),
 (∀ (s1 : List tBK) (s2 s3 s4 : Int), (br (decide (s3 < s2))
 (need False (at? s1 s3) fun y5 =>
 l41r5
 (fun z6 z7 z8 z9 z10 => l41r10
 (fun z11 z12 z13 z14 => I1 z11 z12 (IntKind.wrap .i64 (z13 + 1)) z14)
 z6 z7 z8 z10.2.1 (↑(List.length z10.2.1)) 0 z9)
 s1 s2 s3 y5.1 (↑(List.length y5.1)) 0 s4 y5)
 (k1 s4)) → I1 s1 s2 s3 s4) →
 I1 s1 s2 s3 s4
structure c41 (x1 : tFU) (x2 : Int) (k1 : Int → Prop) : Prop where
of :
 l41r2
 (fun z3 => k1 z3)
 x1.2.1 (↑(List.length x1.2.1)) 0 x2
structure c31 (x1 : tFU) (k1 : Int → Prop) : Prop where
of :
 c41 x1 0
 (fun z2 => k1 z2)
structure l32r7 (k1 : (List tED) → Int → Int → Int → Int → (List tBK) → q1 → q1 → tTM → (List Bool) → Prop) (s1 : List tED) (s2 s3 s4 s5 s6 s7 : Int) (s8 : List tBK) (s9 s10 : List (List Bool)) (s11 : Nat) (s12 : List Bool) (s13 : tTM) (s14 : List Bool) (s15 : tED) : Prop where
of :
 ∀ (I1 : (List tED) → Int → Int → Int → Int → Int → Int → (List tBK) → q1 → q1 → Nat → (List Bool) → tTM → (List Bool) → tED → Prop),
 (∀ (s1 : List tED) (s2 s3 s4 s5 s6 s7 : Int) (s8 : List tBK) (s9 s10 : List (List Bool)) (s11 : Nat) (s12 : List Bool) (s13 : tTM) (s14 : List Bool) (s15 : tED), (br (decide (s5 < s4))
 (br (decide (0 ≤ s5 ∧ s5 < (↑(List.length s12))))
 (need False (s12)[(Int.toNat s5)]? fun y16 =>
 br (y16)
 (br (decide ((0 : Int) ≤ s15.1 ∧ (s15.1 : Int) < (↑(List.length s8))))
 (need False (s8)[(Int.toNat s15.1)]? fun y17 =>
 br (eqT (.int .i64) s5 s5)
 (c43 y17.1 s5
 (fun z18 => br (!z18)
 (br (decide (0 ≤ s5 ∧ s5 < (↑(List.length s14))))
 (need False (s14)[(Int.toNat s5)]? fun y19 =>
 I1 s1 s2 s3 s4 (IntKind.wrap .i64 (s5 + 1)) s6 s7 s8 s9 s10 s11 s12 s13 (List.set s14 (Int.toNat s5) true) s15)
 False)
 (I1 s1 s2 s3 s4 (IntKind.wrap .i64 (s5 + 1)) s6 s7 s8 s9 s10 s11 s12 s13 s14 s15)))
 False)
 False)
 (I1 s1 s2 s3 s4 (IntKind.wrap .i64 (s5 + 1)) s6 s7 s8 s9 s10 s11 s12 s13 s14 s15))
 False)
 (k1 s1 s2 s3 s6 s7 s8 s9 (List.set s10 s11 s12) s13 s14)) → I1 s1 s2 s3 s4 s5 s6 s7 s8 s9 s10 s11 s12 s13 s14 s15) →
 I1 s1 s2 s3 s4 s5 s6 s7 s8 s9 s10 s11 s12 s13 s14 s15
structure l32r4 (k1 : Int → Int → (List tBK) → q1 → q1 → tTM → (List Bool) → Prop) (s1 : List tED) (s2 s3 s4 s5 : Int) (s6 : List tBK) (s7 s8 : List (List Bool)) (s9 : tTM) (s10 : List Bool) : Prop where
of :
 ∀ (I1 : (List tED) → Int → Int → Int → Int → (List tBK) → q1 → q1 → tTM → (List Bool) → Prop),
 (∀ (s1 : List tED) (s2 s3 s4 s5 : Int) (s6 : List tBK) (s7 s8 : List (List Bool)) (s9 : tTM) (s10 : List Bool), (br (decide (s3 < s2))
 (need False (at? s1 s3) fun y11 =>
 br (decide ((0 : Int) ≤ y11.1 ∧ (y11.1 : Int) < (↑(List.length s8))))
 (need False (s8)[(Int.toNat y11.1)]? fun y12 =>
 need False (s8)[(Int.toNat y11.1)]? fun y13 =>
 l32r7
 (fun z14 z15 z16 z17 z18 z19 z20 z21 z22 z23 => I1 z14 z15 (IntKind.wrap .i64 (z16 + 1)) z17 z18 z19 z20 z21 z22 z23)
 s1 s2 s3 (↑(List.length y13)) 0 s4 s5 s6 s7 s8 (Int.toNat y11.1) y13 s9 s10 y11)
 False)
 (k1 s4 s5 s6 s7 s8 s9 s10)) → I1 s1 s2 s3 s4 s5 s6 s7 s8 s9 s10) →
 I1 s1 s2 s3 s4 s5 s6 s7 s8 s9 s10
structure l32r19 (k1 : (List tED) → Int → Int → Int → Int → (List tBK) → q1 → q1 → (List Bool) → Prop) (s1 : List tED) (s2 s3 : Int) (s4 : List Int) (s5 s6 s7 s8 : Int) (s9 : List tBK) (s10 s11 : List (List Bool)) (s12 : List Bool) : Prop where
of :
 ∀ (I1 : (List tED) → Int → Int → (List Int) → Int → Int → Int → Int → (List tBK) → q1 → q1 → (List Bool) → Prop),
 (∀ (s1 : List tED) (s2 s3 : Int) (s4 : List Int) (s5 s6 s7 s8 : Int) (s9 : List tBK) (s10 s11 : List (List Bool)) (s12 : List Bool), (br (decide (s6 < s5))
 (need False (at? s4 s6) fun y13 =>
 br (decide (0 ≤ y13 ∧ y13 < (↑(List.length s12))))
 (need False (s12)[(Int.toNat y13)]? fun y14 =>
 I1 s1 s2 s3 s4 s5 (IntKind.wrap .i64 (s6 + 1)) s7 s8 s9 s10 s11 (List.set s12 (Int.toNat y13) true))
 False)
 (k1 s1 s2 s3 s7 s8 s9 s10 s11 s12)) → I1 s1 s2 s3 s4 s5 s6 s7 s8 s9 s10 s11 s12) →
 I1 s1 s2 s3 s4 s5 s6 s7 s8 s9 s10 s11 s12
structure l32r16 (k1 : Int → Int → (List tBK) → q1 → q1 → (List Bool) → Prop) (s1 : List tED) (s2 s3 s4 s5 : Int) (s6 : List tBK) (s7 s8 : List (List Bool)) (s9 : List Bool) : Prop where
of :
 ∀ (I1 : (List tED) → Int → Int → Int → Int → (List tBK) → q1 → q1 → (List Bool) → Prop),
 (∀ (s1 : List tED) (s2 s3 s4 s5 : Int) (s6 : List tBK) (s7 s8 : List (List Bool)) (s9 : List Bool), (br (decide (s3 < s2))
 (need False (at? s1 s3) fun y10 =>
 l32r19
 (fun z11 z12 z13 z14 z15 z16 z17 z18 z19 => I1 z11 z12 (IntKind.wrap .i64 (z13 + 1)) z14 z15 z16 z17 z18 z19)
 s1 s2 s3 y10.2.1 (↑(List.length y10.2.1)) 0 s4 s5 s6 s7 s8 s9)
 (k1 s4 s5 s6 s7 s8 s9)) → I1 s1 s2 s3 s4 s5 s6 s7 s8 s9) →
 I1 s1 s2 s3 s4 s5 s6 s7 s8 s9
structure c32 (x1 x2 x3 : Int) (x4 : List tBK) (x5 x6 : List (List Bool)) (k1 : Int → Int → (List tBK) → q1 → q1 → (List Bool) → Prop) : Prop where
of :
 br (decide (0 ≤ x1 ∧ x1 < (↑(List.length x4))))
 (need False (x4)[(Int.toNat x1)]? fun y7 =>
 br (decide ((0 : Int) ≤ x3 ∧ (x3 : Int) ≤ x3 ∧ ((x3 * 1) : Int) ≤ 140737488355328))
 (l32r4
 (fun z8 z9 z10 z11 z12 z13 z14 => br ((z13.1 : Int) != 1)
 (br ((z13.1 : Int) != 4)
 (br (decide ((0 : Int) ≤ z13.2.1 ∧ (z13.2.1 : Int) < (↑(List.length z14))))
 (need False (z14)[(Int.toNat z13.2.1)]? fun y15 =>
 l32r16
 (fun z16 z17 z18 z19 z20 z21 => k1 z16 z17 z18 z19 z20 z21)
 z13.2.2.2.2.1 (↑(List.length z13.2.2.2.2.1)) 0 z8 z9 z10 z11 z12 (List.set z14 (Int.toNat z13.2.1) true))
 False)
 (l32r16
 (fun z22 z23 z24 z25 z26 z27 => k1 z22 z23 z24 z25 z26 z27)
 z13.2.2.2.2.1 (↑(List.length z13.2.2.2.2.1)) 0 z8 z9 z10 z11 z12 z14))
 (l32r16
 (fun z28 z29 z30 z31 z32 z33 => k1 z28 z29 z30 z31 z32 z33)
 z13.2.2.2.2.1 (↑(List.length z13.2.2.2.2.1)) 0 z8 z9 z10 z11 z12 z14))
 y7.2.2.1.2.2.2.2.1 (↑(List.length y7.2.2.1.2.2.2.2.1)) 0 x2 x3 x4 x5 x6 y7.2.2.1 (List.replicate (Int.toNat x3) (false : Bool)))
 False)
 False
structure c34 (x1 : List Bool) (k1 : (List Bool) → Prop) : Prop where
of :
 br (List.isEmpty x1)
 ((k1 []) ∧
 (br (List.isEmpty x1)
 (k1 [])
 (br (roomB (0 + (List.length x1)) 1)
 (k1 ([] ++ x1))
 False)))
 (br (List.isEmpty x1)
 (k1 [])
 (br (roomB (0 + (List.length x1)) 1)
 (k1 ([] ++ x1))
 False))
structure l19r12 (k1 : Unit → Int → Int → Int → (List tBK) → q1 → tBK → (List Bool) → Prop) (s1 : Unit) (s2 : Int) (s3 : List Int) (s4 s5 s6 s7 : Int) (s8 : List tBK) (s9 : List (List Bool)) (s10 : tBK) (s11 : List Bool) : Prop where
of :
 ∀ (I1 : Unit → Int → (List Int) → Int → Int → Int → Int → (List tBK) → q1 → tBK → (List Bool) → Prop),
 (∀ (s1 : Unit) (s2 : Int) (s3 : List Int) (s4 s5 s6 s7 : Int) (s8 : List tBK) (s9 : List (List Bool)) (s10 : tBK) (s11 : List Bool), (br (decide (s5 < s4))
 (need False (at? s3 s5) fun y12 =>
 br (decide (0 ≤ y12 ∧ y12 < (↑(List.length s11))))
 (need False (s11)[(Int.toNat y12)]? fun y13 =>
 I1 s1 s2 s3 s4 (IntKind.wrap .i64 (s5 + 1)) s6 s7 s8 s9 s10 (List.set s11 (Int.toNat y12) true))
 False)
 (k1 s1 s2 s6 s7 s8 s9 s10 s11)) → I1 s1 s2 s3 s4 s5 s6 s7 s8 s9 s10 s11) →
 I1 s1 s2 s3 s4 s5 s6 s7 s8 s9 s10 s11
structure l19r5 (k1 : Int → Int → (List tBK) → q1 → (List Bool) → Prop) (s1 : Unit) (s2 s3 s4 : Int) (s5 : List tBK) (s6 : List (List Bool)) (s7 : tBK) (s8 : List Bool) : Prop where
of :
 ∀ (I1 : Unit → Int → Int → Int → (List tBK) → q1 → tBK → (List Bool) → Prop),
 (∀ (s1 : Unit) (s2 s3 s4 : Int) (s5 : List tBK) (s6 : List (List Bool)) (s7 : tBK) (s8 : List Bool), (br (s2 == 0)
 (k1 s3 s4 s5 s6 s8)
 (need False (at? s7.2.1 (IntKind.wrap .i64 (s2 - 1))) fun y9 =>
 br (decide ((0 : Int) ≤ y9.1 ∧ (y9.1 : Int) < (↑(List.length s8))))
 (need False (s8)[(Int.toNat y9.1)]? fun y10 =>
 l19r12
 (fun z11 z12 z13 z14 z15 z16 z17 z18 => I1 z11 (IntKind.wrap .i64 (z12 - 1)) z13 z14 z15 z16 z17 z18)
 s1 s2 y9.2.2.2.1 (↑(List.length y9.2.2.2.1)) 0 s3 s4 s5 s6 s7 (List.set s8 (Int.toNat y9.1) false))
 False)) → I1 s1 s2 s3 s4 s5 s6 s7 s8) →
 I1 s1 s2 s3 s4 s5 s6 s7 s8
structure c19 (x1 : Int) (x2 : Unit) (x3 x4 : Int) (x5 : List tBK) (x6 : List (List Bool)) (k1 : Int → Int → (List tBK) → q1 → (List Bool) → Prop) : Prop where
of :
 br (decide (0 ≤ x1 ∧ x1 < (↑(List.length x5))))
 (need False (x5)[(Int.toNat x1)]? fun y7 =>
 br (decide (0 ≤ x1 ∧ x1 < (↑(List.length x6))))
 (need False (x6)[(Int.toNat x1)]? fun y8 =>
 need False (x6)[(Int.toNat x1)]? fun y9 =>
 c34 y9
 (fun z10 => l19r5
 (fun z11 z12 z13 z14 z15 => k1 z11 z12 z13 z14 z15)
 x2 (↑(List.length y7.2.1)) x3 x4 x5 (List.set x6 (Int.toNat x1) y9) y7 z10))
 False)
 False
structure l33r4 (k1 : Bool → Prop) (k2 : Prop) (s1 s2 : List Bool) (s3 s4 : Int) : Prop where
of :
 ∀ (I1 : (List Bool) → (List Bool) → Int → Int → Prop),
 (∀ (s1 s2 : List Bool) (s3 s4 : Int), (br (decide (s4 < s3))
 (need False (at? s1 s4) fun y5 =>
 need False (at? s2 s4) fun y6 =>
 br (!((y5 : Bool) == y6))
 (k1 false)
 (I1 s1 s2 s3 (IntKind.wrap .i64 (s4 + 1))))
 (k2)) → I1 s1 s2 s3 s4) →
 I1 s1 s2 s3 s4
structure c33 (x1 x2 : List Bool) (k1 : Bool → Prop) : Prop where
of :
 br (((↑(List.length x1)) : Int) != (↑(List.length x2)))
 (k1 false)
 (l33r4
 (fun z3 => k1 z3)
 (k1 true)
 x1 x2 (↑(List.length x1)) 0)
structure l18r10 (k1 : Bool → (List tBK) → Int → Int → Int → q1 → q1 → Prop) (s1 : Bool) (s2 : Int) (s3 : List tBK) (s4 s5 s6 : Int) (s7 s8 : List (List Bool)) : Prop where
of :
 ∀ (I1 : Bool → Int → (List tBK) → Int → Int → Int → q1 → q1 → Prop),
 (∀ (s1 : Bool) (s2 : Int) (s3 : List tBK) (s4 s5 s6 : Int) (s7 s8 : List (List Bool)), (br (decide (s2 ≥ 0))
 (c32 s2 s5 s6 s3 s7 s8
 (fun z9 z10 z11 z12 z13 z14 => br (decide (0 ≤ s2 ∧ s2 < (↑(List.length z12))))
 (need False (z12)[(Int.toNat s2)]? fun y15 =>
 need False (z12)[(Int.toNat s2)]? fun y16 =>
 br (List.isEmpty y16)
 ((br (decide (0 ≤ s2 ∧ s2 < (↑(List.length (List.set z12 (Int.toNat s2) y16)))))
 (need False ((List.set z12 (Int.toNat s2) y16))[(Int.toNat s2)]? fun y17 =>
 c19 s2 () z9 z10 z11 (List.set (List.set z12 (Int.toNat s2) y16) (Int.toNat s2) z14)
 (fun z18 z19 z20 z21 z22 => br (decide (0 ≤ s2 ∧ s2 < (↑(List.length z13))))
 (need False (z13)[(Int.toNat s2)]? fun y23 =>
 I1 true (IntKind.wrap .i64 (s2 - 1)) z20 s4 z18 z19 z21 (List.set z13 (Int.toNat s2) z22))
 False))
 False) ∧
 (br (decide (0 ≤ s2 ∧ s2 < (↑(List.length z12))))
 (need False (z12)[(Int.toNat s2)]? fun y24 =>
 br (decide ((Int.toNat s2) = (Int.toNat s2)))
 (c33 z14 y16
 (fun z25 => br (z25)
 (I1 s1 (IntKind.wrap .i64 (s2 - 1)) z11 s4 z9 z10 (List.set z12 (Int.toNat s2) y16) z13)
 (br (decide (0 ≤ s2 ∧ s2 < (↑(List.length (List.set z12 (Int.toNat s2) y16)))))
 (need False ((List.set z12 (Int.toNat s2) y16))[(Int.toNat s2)]? fun y26 =>
 c19 s2 () z9 z10 z11 (List.set (List.set z12 (Int.toNat s2) y16) (Int.toNat s2) z14)
 (fun z27 z28 z29 z30 z31 => br (decide (0 ≤ s2 ∧ s2 < (↑(List.length z13))))
 (need False (z13)[(Int.toNat s2)]? fun y32 =>
 I1 true (IntKind.wrap .i64 (s2 - 1)) z29 s4 z27 z28 z30 (List.set z13 (Int.toNat s2) z31))
 False))
 False)))
 (need False (z12)[(Int.toNat s2)]? fun y33 =>
 c33 z14 y33
 (fun z34 => br (z34)
 (I1 s1 (IntKind.wrap .i64 (s2 - 1)) z11 s4 z9 z10 (List.set (List.set z12 (Int.toNat s2) y33) (Int.toNat s2) y16) z13)
 (br (decide (0 ≤ s2 ∧ s2 < (↑(List.length (List.set (List.set z12 (Int.toNat s2) y33) (Int.toNat s2) y16)))))
 (need False ((List.set (List.set z12 (Int.toNat s2) y33) (Int.toNat s2) y16))[(Int.toNat s2)]? fun y35 =>
 c19 s2 () z9 z10 z11 (List.set (List.set (List.set z12 (Int.toNat s2) y33) (Int.toNat s2) y16) (Int.toNat s2) z14)
 (fun z36 z37 z38 z39 z40 => br (decide (0 ≤ s2 ∧ s2 < (↑(List.length z13))))
 (need False (z13)[(Int.toNat s2)]? fun y41 =>
 I1 true (IntKind.wrap .i64 (s2 - 1)) z38 s4 z36 z37 z39 (List.set z13 (Int.toNat s2) z40))
 False))
 False))))
 False))
 (br (decide (0 ≤ s2 ∧ s2 < (↑(List.length z12))))
 (need False (z12)[(Int.toNat s2)]? fun y42 =>
 br (decide ((Int.toNat s2) = (Int.toNat s2)))
 (c33 z14 y16
 (fun z43 => br (z43)
 (I1 s1 (IntKind.wrap .i64 (s2 - 1)) z11 s4 z9 z10 (List.set z12 (Int.toNat s2) y16) z13)
 (br (decide (0 ≤ s2 ∧ s2 < (↑(List.length (List.set z12 (Int.toNat s2) y16)))))
 (need False ((List.set z12 (Int.toNat s2) y16))[(Int.toNat s2)]? fun y44 =>
 c19 s2 () z9 z10 z11 (List.set (List.set z12 (Int.toNat s2) y16) (Int.toNat s2) z14)
 (fun z45 z46 z47 z48 z49 => br (decide (0 ≤ s2 ∧ s2 < (↑(List.length z13))))
 (need False (z13)[(Int.toNat s2)]? fun y50 =>
 I1 true (IntKind.wrap .i64 (s2 - 1)) z47 s4 z45 z46 z48 (List.set z13 (Int.toNat s2) z49))
 False))
 False)))
 (need False (z12)[(Int.toNat s2)]? fun y51 =>
 c33 z14 y51
 (fun z52 => br (z52)
 (I1 s1 (IntKind.wrap .i64 (s2 - 1)) z11 s4 z9 z10 (List.set (List.set z12 (Int.toNat s2) y51) (Int.toNat s2) y16) z13)
 (br (decide (0 ≤ s2 ∧ s2 < (↑(List.length (List.set (List.set z12 (Int.toNat s2) y51) (Int.toNat s2) y16)))))
 (need False ((List.set (List.set z12 (Int.toNat s2) y51) (Int.toNat s2) y16))[(Int.toNat s2)]? fun y53 =>
 c19 s2 () z9 z10 z11 (List.set (List.set (List.set z12 (Int.toNat s2) y51) (Int.toNat s2) y16) (Int.toNat s2) z14)
 (fun z54 z55 z56 z57 z58 => br (decide (0 ≤ s2 ∧ s2 < (↑(List.length z13))))
 (need False (z13)[(Int.toNat s2)]? fun y59 =>
 I1 true (IntKind.wrap .i64 (s2 - 1)) z56 s4 z54 z55 z57 (List.set z13 (Int.toNat s2) z58))
 False))
 False))))
 False))
 False))
 (k1 s1 s3 s4 s5 s6 s7 s8)) → I1 s1 s2 s3 s4 s5 s6 s7 s8) →
 I1 s1 s2 s3 s4 s5 s6 s7 s8
structure l18r7 (k1 : (List tBK) → Int → Int → q1 → q1 → Prop) (s1 : Bool) (s2 : List tBK) (s3 s4 s5 : Int) (s6 s7 : List (List Bool)) : Prop where
of :
 ∀ (I1 : Bool → (List tBK) → Int → Int → Int → q1 → q1 → Prop),
 (∀ (s1 : Bool) (s2 : List tBK) (s3 s4 s5 : Int) (s6 s7 : List (List Bool)), (br (s1)
 (l18r10
 (fun z8 z9 z10 z11 z12 z13 z14 => I1 z8 z9 z10 z11 z12 z13 z14)
 false (IntKind.wrap .i64 ((↑(List.length s2)) - 1)) s2 s3 s4 s5 s6 s7)
 (k1 s2 s4 s5 s6 s7)) → I1 s1 s2 s3 s4 s5 s6 s7) →
 I1 s1 s2 s3 s4 s5 s6 s7
structure c18 (x1 : Int) (x2 : List tBK) (k1 : Unit → Int → (List tBK) → q1 → Prop) (k2 : Int → (List tBK) → Int → Int → q1 → q1 → Prop) : Prop where
of :
 c30 (x1, x2, ())
 (fun z3 => br (z3 != 0)
 (k1 () z3 x2 [])
 ((c31 (x1, x2, ())
 (fun z4 => br ((eqT (.int .i64) x1 x1) && true)
 (br (true && true)
 (br (eqT (.int .i64) (((List.length x2) : Nat) : Int) (((List.length x2) : Nat) : Int))
 (br (decide ((((List.length x2) : Nat) : Int) = (((List.length x2) : Nat) : Int)))
 (br (decide ((0 : Int) ≤ (↑(List.length x2)) ∧ ((↑(List.length x2)) : Int) ≤ (↑(List.length x2)) ∧ (((↑(List.length x2)) * 24) : Int) ≤ 140737488355328))
 (br ((eqT (.int .i64) x1 x1) && true)
 (br (eqT (.int .i64) (IntKind.wrap .i64 (z4 + 1)) (IntKind.wrap .i64 (z4 + 1)))
 (br (decide ((((List.length x2) : Nat) : Int) = (((List.length x2) : Nat) : Int)))
 (br (decide ((0 : Int) ≤ (↑(List.length x2)) ∧ ((↑(List.length x2)) : Int) ≤ (↑(List.length x2)) ∧ (((↑(List.length x2)) * 24) : Int) ≤ 140737488355328))
 (l18r7
 (fun z5 z6 z7 z8 z9 => k2 0 z5 z6 z7 z8 z9)
 true x2 x1 x1 (IntKind.wrap .i64 (z4 + 1)) (List.replicate (Int.toNat (↑(List.length x2))) ([] : List (Bool))) (List.replicate (Int.toNat (↑(List.length x2))) ([] : List (Bool))))
 False)
 False)
 False)
 False)
 False)
 False)
 False)
 False)
 False)) ∧
 (br (decide ((((List.length x2) : Nat) : Int) = (((List.length x2) : Nat) : Int)))
 (br (decide ((0 : Int) ≤ (↑(List.length x2)) ∧ ((↑(List.length x2)) : Int) ≤ (↑(List.length x2)) ∧ (((↑(List.length x2)) * 24) : Int) ≤ 140737488355328))
 (br ((eqT (.int .i64) x1 x1) && true)
 (br ((eqT (.int .i64) x1 x1) && true)
 (c31 (x1, x2, ())
 (fun z10 => br ((eqT (.int .i64) x1 x1) && true)
 (br (decide ((((List.length x2) : Nat) : Int) = (((List.length x2) : Nat) : Int)))
 (br (decide ((0 : Int) ≤ (↑(List.length x2)) ∧ ((↑(List.length x2)) : Int) ≤ (↑(List.length x2)) ∧ (((↑(List.length x2)) * 24) : Int) ≤ 140737488355328))
 (l18r7
 (fun z11 z12 z13 z14 z15 => k2 0 z11 z12 z13 z14 z15)
 true x2 x1 x1 (IntKind.wrap .i64 (z10 + 1)) (List.replicate (Int.toNat (↑(List.length x2))) ([] : List (Bool))) (List.replicate (Int.toNat (↑(List.length x2))) ([] : List (Bool))))
 False)
 False)
 False))
 False)
 False)
 False)
 False)))
structure l11r6 (k1 : (List tBK) → (List (List Int)) → (List (List Int)) → Prop) (s1 : Unit) (s2 s3 : Int) (s4 : List tBK) (s5 : List (List Bool)) (s6 s7 : List (List Int)) : Prop where
of :
 ∀ (I1 : Unit → Int → Int → (List tBK) → q1 → (List (List Int)) → (List (List Int)) → Prop),
 (∀ (s1 : Unit) (s2 s3 : Int) (s4 : List tBK) (s5 : List (List Bool)) (s6 s7 : List (List Int)), (br (decide (s3 < s2))
 (br (decide (0 ≤ s3 ∧ s3 < (↑(List.length s5))))
 False
 False)
 (k1 s4 s6 s7)) → I1 s1 s2 s3 s4 s5 s6 s7) →
 I1 s1 s2 s3 s4 s5 s6 s7
structure l21r3 (k1 : (List Int) → Prop) (s1 : List Bool) (s2 s3 : Int) (s4 : List Int) : Prop where
of :
 ∀ (I1 : (List Bool) → Int → Int → (List Int) → Prop),
 (∀ (s1 : List Bool) (s2 s3 : Int) (s4 : List Int), (br (decide (s3 < s2))
 (need False (at? s1 s3) fun y5 =>
 br (y5)
 (br (roomB ((List.length s4) + 1) 8)
 (I1 s1 s2 (IntKind.wrap .i64 (s3 + 1)) (s4 ++ [s3]))
 False)
 (I1 s1 s2 (IntKind.wrap .i64 (s3 + 1)) s4))
 (k1 s4)) → I1 s1 s2 s3 s4) →
 I1 s1 s2 s3 s4
structure c21 (x1 : List Bool) (k1 : (List Int) → Prop) : Prop where
of :
 l21r3
 (fun z2 => k1 z2)
 x1 (↑(List.length x1)) 0 []
structure l11r6v2 (k1 : (List tBK) → (List (List Int)) → (List (List Int)) → Prop) (s1 s2 : Int) (s3 : List tBK) (s4 s5 : Int) (s6 s7 : List (List Bool)) (s8 s9 : List (List Int)) : Prop where
of :
 ∀ (I1 : Int → Int → (List tBK) → Int → Int → q1 → q1 → (List (List Int)) → (List (List Int)) → Prop),
 (∀ (s1 s2 : Int) (s3 : List tBK) (s4 s5 : Int) (s6 s7 : List (List Bool)) (s8 s9 : List (List Int)), (br (decide (s2 < s1))
 (br (decide (0 ≤ s2 ∧ s2 < (↑(List.length s7))))
 (br (decide (0 ≤ s2 ∧ s2 < (↑(List.length s6))))
 ((need False (s7)[(Int.toNat s2)]? fun y10 =>
 need False (s7)[(Int.toNat s2)]? fun y11 =>
 br (true)
 (br (true)
 (br (true && true)
 (br (eqT (.int .i64) s2 s2)
 (br (decide (0 ≤ s2 ∧ s2 < (↑(List.length s6))))
 (br ((decide ((Int.toNat s2) = (Int.toNat s2))) && true)
 ((c21 y11
 (fun z12 => br (true)
 (br (true)
 (br (true && true)
 (br (eqT (.int .i64) s2 s2)
 (br (decide (0 ≤ s2 ∧ s2 < (↑(List.length s6))))
 (br ((decide ((Int.toNat s2) = (Int.toNat s2))) && true)
 ((br (true)
 (br (true)
 (br (true && true)
 (br (eqT (.int .i64) s2 s2)
 (br (decide (0 ≤ s2 ∧ s2 < (↑(List.length s6))))
 (br ((decide ((Int.toNat s2) = (Int.toNat s2))) && true)
 ((br (roomB ((List.length s8) + 1) 24)
 (br (true)
 (br (true)
 (br (true && true)
 (br (eqT (.int .i64) s2 s2)
 (br (decide (0 ≤ s2 ∧ s2 < (↑(List.length s6))))
 (br ((decide ((Int.toNat s2) = (Int.toNat s2))) && true)
 (need False (s6)[(Int.toNat s2)]? fun y13 =>
 need False (s6)[(Int.toNat s2)]? fun y14 =>
 c21 y14
 (fun z15 => br (roomB ((List.length s9) + 1) 24)
 (I1 s1 (IntKind.wrap .i64 (s2 + 1)) s3 s4 s5 (List.set s6 (Int.toNat s2) y14) (List.set s7 (Int.toNat s2) y11) (List.set (s8 ++ (List.replicate 1 ([] : List (Int)))) ((List.length s8) + 0) z12) (List.set (s9 ++ (List.replicate 1 ([] : List (Int)))) ((List.length s9) + 0) z15))
 False))
 False)
 False)
 False)
 False)
 False)
 False)
 False) ∧
 (need False (s6)[(Int.toNat s2)]? fun y16 =>
 need False (s6)[(Int.toNat s2)]? fun y17 =>
 br (roomB ((List.length s8) + 1) 24)
 (c21 y17
 (fun z18 => br (roomB ((List.length s9) + 1) 24)
 (I1 s1 (IntKind.wrap .i64 (s2 + 1)) s3 s4 s5 (List.set s6 (Int.toNat s2) y17) (List.set s7 (Int.toNat s2) y11) (List.set (s8 ++ (List.replicate 1 ([] : List (Int)))) ((List.length s8) + 0) z12) (List.set (s9 ++ (List.replicate 1 ([] : List (Int)))) ((List.length s9) + 0) z18))
 False))
 False))
 False)
 False)
 False)
 False)
 False)
 False) ∧
 (need False (s6)[(Int.toNat s2)]? fun y19 =>
 need False (s6)[(Int.toNat s2)]? fun y20 =>
 br (roomB ((List.length s8) + 1) 24)
 (c21 y20
 (fun z21 => br (roomB ((List.length s9) + 1) 24)
 (I1 s1 (IntKind.wrap .i64 (s2 + 1)) s3 s4 s5 (List.set s6 (Int.toNat s2) y20) (List.set s7 (Int.toNat s2) y11) (List.set (s8 ++ (List.replicate 1 ([] : List (Int)))) ((List.length s8) + 0) z12) (List.set (s9 ++ (List.replicate 1 ([] : List (Int)))) ((List.length s9) + 0) z21))
 False))
 False))
 False)
 False)
 False)
 False)
 False)
 False)) ∧
 (need False (s6)[(Int.toNat s2)]? fun y22 =>
 need False (s6)[(Int.toNat s2)]? fun y23 =>
 c21 y11
 (fun z24 => br (roomB ((List.length s8) + 1) 24)
 (c21 y23
 (fun z25 => br (roomB ((List.length s9) + 1) 24)
 (I1 s1 (IntKind.wrap .i64 (s2 + 1)) s3 s4 s5 (List.set s6 (Int.toNat s2) y23) (List.set s7 (Int.toNat s2) y11) (List.set (s8 ++ (List.replicate 1 ([] : List (Int)))) ((List.length s8) + 0) z24) (List.set (s9 ++ (List.replicate 1 ([] : List (Int)))) ((List.length s9) + 0) z25))
 False))
 False)))
 False)
 False)
 False)
 False)
 False)
 False) ∧
 (need False (s6)[(Int.toNat s2)]? fun y26 =>
 need False (s6)[(Int.toNat s2)]? fun y27 =>
 br (eqT (.int .i64) s2 s2)
 (br (decide (0 ≤ s2 ∧ s2 < (↑(List.length s7))))
 (br ((decide ((Int.toNat s2) = (Int.toNat s2))) && true)
 (need False (s7)[(Int.toNat s2)]? fun y28 =>
 need False (s7)[(Int.toNat s2)]? fun y29 =>
 c21 y29
 (fun z30 => br (roomB ((List.length s8) + 1) 24)
 (c21 y27
 (fun z31 => br (roomB ((List.length s9) + 1) 24)
 (I1 s1 (IntKind.wrap .i64 (s2 + 1)) s3 s4 s5 (List.set s6 (Int.toNat s2) y27) (List.set s7 (Int.toNat s2) y29) (List.set (s8 ++ (List.replicate 1 ([] : List (Int)))) ((List.length s8) + 0) z30) (List.set (s9 ++ (List.replicate 1 ([] : List (Int)))) ((List.length s9) + 0) z31))
 False))
 False))
 False)
 False)
 False))
 False)
 False)
 (k1 s3 s8 s9)) → I1 s1 s2 s3 s4 s5 s6 s7 s8 s9) →
 I1 s1 s2 s3 s4 s5 s6 s7 s8 s9
structure c11 (x1 : Int) (x2 : List tBK) (k1 : Int → (List tBK) → (List (List Int)) → (List (List Int)) → Prop) : Prop where
of :
 c18 x1 x2
 (fun z3 z4 z5 z6 => br (z4 != 0)
 (k1 z4 z5 [] [])
 (l11r6
 (fun z7 z8 z9 => k1 0 z7 z8 z9)
 z3 (↑(List.length z5)) 0 z5 z6 [] []))
 (fun z10 z11 z12 z13 z14 z15 => br (z10 != 0)
 (k1 z10 z11 [] [])
 (l11r6v2
 (fun z16 z17 z18 => k1 0 z16 z17 z18)
 (↑(List.length z11)) 0 z11 z12 z13 z14 z15 [] []))
structure l20r1 (k1 : (List (List q0)) → Int → Prop) (s1 s2 s3 : Int) (s4 : List (List q0)) (s5 : Int) (s6 : List Int) : Prop where
of :
 ∀ (I1 : Int → Int → Int → (List (List q0)) → Int → (List Int) → Prop),
 (∀ (s1 s2 s3 : Int) (s4 : List (List q0)) (s5 : Int) (s6 : List Int), (br (decide (s3 < s2))
 (br (decide (0 ≤ s3 ∧ s3 < (↑(List.length s6))))
 (need False (s6)[(Int.toNat s3)]? fun y7 =>
 br (decide (0 ≤ y7 ∧ y7 < (↑(List.length s4))))
 (need False (s4)[(Int.toNat y7)]? fun y8 =>
 need False (s4)[(Int.toNat y7)]? fun y9 =>
 br (decide (((↑(List.length y9)) : Int) > 0))
 (br (decide (0 ≤ y7 ∧ y7 < (↑(List.length (List.set s4 (Int.toNat y7) y9)))))
 (need False ((List.set s4 (Int.toNat y7) y9))[(Int.toNat y7)]? fun y10 =>
 need False ((List.set s4 (Int.toNat y7) y9))[(Int.toNat y7)]? fun y11 =>
 br (eqT (.int .i64) (((List.length y9) : Nat) : Int) (((List.length y9) : Nat) : Int))
 (br (eqT (.int .i64) (IntKind.wrap .i64 ((((List.length y9) : Nat) : Int) - 1)) (IntKind.wrap .i64 ((((List.length y9) : Nat) : Int) - 1)))
 (br (decide ((0 : Int) ≤ (IntKind.wrap .i64 ((↑(List.length y9)) - 1)) ∧ ((IntKind.wrap .i64 ((↑(List.length y9)) - 1)) : Int) < (↑(List.length y11))))
 (need False (y11)[(Int.toNat (IntKind.wrap .i64 ((↑(List.length y9)) - 1)))]? fun y12 =>
 br (eqT (.int .i64) s5 s5)
 (br ((y12.2.1 : Int) == s5)
 (br (decide (0 ≤ y7 ∧ y7 < (↑(List.length (List.set (List.set s4 (Int.toNat y7) y9) (Int.toNat y7) y11)))))
 (need False ((List.set (List.set s4 (Int.toNat y7) y9) (Int.toNat y7) y11))[(Int.toNat y7)]? fun y13 =>
 need False ((List.set (List.set s4 (Int.toNat y7) y9) (Int.toNat y7) y11))[(Int.toNat y7)]? fun y14 =>
 br (decide ((0 : Int) ≤ (IntKind.wrap .i64 ((↑(List.length y9)) - 1)) ∧ ((IntKind.wrap .i64 ((↑(List.length y9)) - 1)) : Int) < (↑(List.length y14))))
 (need False (y14)[(Int.toNat (IntKind.wrap .i64 ((↑(List.length y9)) - 1)))]? fun y15 =>
 I1 s1 s2 (IntKind.wrap .i64 (s3 + 1)) (List.set (List.set (List.set s4 (Int.toNat y7) y9) (Int.toNat y7) y11) (Int.toNat y7) (List.set y14 (Int.toNat (IntKind.wrap .i64 ((↑(List.length y9)) - 1))) (y15.1, y15.2.1, s1, y15.2.2.2))) s5 s6)
 False)
 False)
 (br (decide (0 ≤ y7 ∧ y7 < (↑(List.length (List.set (List.set s4 (Int.toNat y7) y9) (Int.toNat y7) y11)))))
 ((need False ((List.set (List.set s4 (Int.toNat y7) y9) (Int.toNat y7) y11))[(Int.toNat y7)]? fun y16 =>
 need False ((List.set (List.set s4 (Int.toNat y7) y9) (Int.toNat y7) y11))[(Int.toNat y7)]? fun y17 =>
 br (eqT (.int .i64) y7 y7)
 (br (eqT (.int .i64) y7 y7)
 (br (eqT (.int .i64) s5 s5)
 (br (eqT (.int .i64) s1 s1)
 (br (eqT (.int .i64) s1 s1)
 (br (eqT (.pair (.int .i64) (.pair (.int .i64) (.pair (.int .i64) (.pair (.int .i64) .unit)))) (y7, s5, s1, s1, ()) (y7, s5, s1, s1, ()))
 (br (eqT (.int .i64) y7 y7)
 (br (roomB ((List.length y17) + 1) 32)
 (br (eqT (.int .i64) y7 y7)
 (br (decide (0 ≤ y7 ∧ y7 < (↑(List.length (List.set (List.set s4 (Int.toNat y7) y9) (Int.toNat y7) y11)))))
 (need False ((List.set (List.set s4 (Int.toNat y7) y9) (Int.toNat y7) y11))[(Int.toNat y7)]? fun y18 =>
 br (decide ((Int.toNat y7) = (Int.toNat y7)))
 (I1 s1 s2 (IntKind.wrap .i64 (s3 + 1)) (List.set (List.set (List.set s4 (Int.toNat y7) y9) (Int.toNat y7) y11) (Int.toNat y7) (y17 ++ [(y7, s5, s1, s1, ())])) s5 s6)
 False)
 False)
 False)
 False)
 False)
 False)
 False)
 False)
 False)
 False)
 False) ∧
 (br (eqT (.int .i64) y7 y7)
 (br (eqT (.int .i64) y7 y7)
 (br (decide (0 ≤ y7 ∧ y7 < (↑(List.length (List.set (List.set s4 (Int.toNat y7) y9) (Int.toNat y7) y11)))))
 (br ((decide ((Int.toNat y7) = (Int.toNat y7))) && true)
 (need False ((List.set (List.set s4 (Int.toNat y7) y9) (Int.toNat y7) y11))[(Int.toNat y7)]? fun y19 =>
 need False ((List.set (List.set s4 (Int.toNat y7) y9) (Int.toNat y7) y11))[(Int.toNat y7)]? fun y20 =>
 br (eqT (.int .i64) y7 y7)
 (br (roomB ((List.length y20) + 1) 32)
 (br (eqT (.int .i64) y7 y7)
 (br (decide (0 ≤ y7 ∧ y7 < (↑(List.length (List.set (List.set s4 (Int.toNat y7) y9) (Int.toNat y7) y11)))))
 (need False ((List.set (List.set s4 (Int.toNat y7) y9) (Int.toNat y7) y11))[(Int.toNat y7)]? fun y21 =>
 br (decide ((Int.toNat y7) = (Int.toNat y7)))
 (I1 s1 s2 (IntKind.wrap .i64 (s3 + 1)) (List.set (List.set (List.set s4 (Int.toNat y7) y9) (Int.toNat y7) y11) (Int.toNat y7) (y20 ++ [(y7, s5, s1, s1, ())])) s5 s6)
 False)
 False)
 False)
 False)
 False)
 False)
 False)
 False)
 False))
 False))
 False)
 False)
 False)
 False)
 False)
 (br (decide (0 ≤ y7 ∧ y7 < (↑(List.length (List.set s4 (Int.toNat y7) y9)))))
 ((need False ((List.set s4 (Int.toNat y7) y9))[(Int.toNat y7)]? fun y22 =>
 need False ((List.set s4 (Int.toNat y7) y9))[(Int.toNat y7)]? fun y23 =>
 br (eqT (.int .i64) y7 y7)
 (br (eqT (.int .i64) y7 y7)
 (br (eqT (.int .i64) s5 s5)
 (br (eqT (.int .i64) s1 s1)
 (br (eqT (.int .i64) s1 s1)
 (br (eqT (.pair (.int .i64) (.pair (.int .i64) (.pair (.int .i64) (.pair (.int .i64) .unit)))) (y7, s5, s1, s1, ()) (y7, s5, s1, s1, ()))
 (br (eqT (.int .i64) y7 y7)
 (br (roomB ((List.length y23) + 1) 32)
 (br (eqT (.int .i64) y7 y7)
 (br (decide (0 ≤ y7 ∧ y7 < (↑(List.length (List.set s4 (Int.toNat y7) y9)))))
 (need False ((List.set s4 (Int.toNat y7) y9))[(Int.toNat y7)]? fun y24 =>
 br (decide ((Int.toNat y7) = (Int.toNat y7)))
 (I1 s1 s2 (IntKind.wrap .i64 (s3 + 1)) (List.set (List.set s4 (Int.toNat y7) y9) (Int.toNat y7) (y23 ++ [(y7, s5, s1, s1, ())])) s5 s6)
 False)
 False)
 False)
 False)
 False)
 False)
 False)
 False)
 False)
 False)
 False) ∧
 (br (eqT (.int .i64) y7 y7)
 (br (eqT (.int .i64) y7 y7)
 (br (decide (0 ≤ y7 ∧ y7 < (↑(List.length (List.set s4 (Int.toNat y7) y9)))))
 (br ((decide ((Int.toNat y7) = (Int.toNat y7))) && true)
 (need False ((List.set s4 (Int.toNat y7) y9))[(Int.toNat y7)]? fun y25 =>
 need False ((List.set s4 (Int.toNat y7) y9))[(Int.toNat y7)]? fun y26 =>
 br (eqT (.int .i64) y7 y7)
 (br (roomB ((List.length y26) + 1) 32)
 (br (eqT (.int .i64) y7 y7)
 (br (decide (0 ≤ y7 ∧ y7 < (↑(List.length (List.set s4 (Int.toNat y7) y9)))))
 (need False ((List.set s4 (Int.toNat y7) y9))[(Int.toNat y7)]? fun y27 =>
 br (decide ((Int.toNat y7) = (Int.toNat y7)))
 (I1 s1 s2 (IntKind.wrap .i64 (s3 + 1)) (List.set (List.set s4 (Int.toNat y7) y9) (Int.toNat y7) (y26 ++ [(y7, s5, s1, s1, ())])) s5 s6)
 False)
 False)
 False)
 False)
 False)
 False)
 False)
 False)
 False))
 False))
 False)
 False)
 (k1 s4 s5)) → I1 s1 s2 s3 s4 s5 s6) →
 I1 s1 s2 s3 s4 s5 s6
structure c20 (x1 : Int) (x2 : List Bool) (x3 : List (List q0)) (x4 : Int) (k1 : (List (List q0)) → Int → Prop) : Prop where
of :
 c21 x2
 (fun z5 => l20r1
 (fun z6 z7 => k1 z6 z7)
 x1 (↑(List.length z5)) 0 x3 x4 z5)
structure l19r12v2 (k1 : Int → Int → Int → (List tBK) → q1 → (List (List q0)) → Int → tBK → (List Bool) → Prop) (s1 : Int) (s2 : List Int) (s3 s4 s5 s6 : Int) (s7 : List tBK) (s8 : List (List Bool)) (s9 : List (List q0)) (s10 : Int) (s11 : tBK) (s12 : List Bool) : Prop where
of :
 ∀ (I1 : Int → (List Int) → Int → Int → Int → Int → (List tBK) → q1 → (List (List q0)) → Int → tBK → (List Bool) → Prop),
 (∀ (s1 : Int) (s2 : List Int) (s3 s4 s5 s6 : Int) (s7 : List tBK) (s8 : List (List Bool)) (s9 : List (List q0)) (s10 : Int) (s11 : tBK) (s12 : List Bool), (br (decide (s4 < s3))
 (need False (at? s2 s4) fun y13 =>
 br (decide (0 ≤ y13 ∧ y13 < (↑(List.length s12))))
 (need False (s12)[(Int.toNat y13)]? fun y14 =>
 I1 s1 s2 s3 (IntKind.wrap .i64 (s4 + 1)) s5 s6 s7 s8 s9 s10 s11 (List.set s12 (Int.toNat y13) true))
 False)
 (k1 s1 s5 s6 s7 s8 s9 s10 s11 s12)) → I1 s1 s2 s3 s4 s5 s6 s7 s8 s9 s10 s11 s12) →
 I1 s1 s2 s3 s4 s5 s6 s7 s8 s9 s10 s11 s12
structure l19r5v2 (k1 : Int → Int → (List tBK) → q1 → (List (List q0)) → Int → (List Bool) → Prop) (s1 s2 s3 : Int) (s4 : List tBK) (s5 : List (List Bool)) (s6 : List (List q0)) (s7 : Int) (s8 : tBK) (s9 : List Bool) : Prop where
of :
 ∀ (I1 : Int → Int → Int → (List tBK) → q1 → (List (List q0)) → Int → tBK → (List Bool) → Prop),
 (∀ (s1 s2 s3 : Int) (s4 : List tBK) (s5 : List (List Bool)) (s6 : List (List q0)) (s7 : Int) (s8 : tBK) (s9 : List Bool), (c20 s1 s9 s6 s7
 (fun z10 z11 => br (s1 == 0)
 (k1 s2 s3 s4 s5 z10 z11 s9)
 (need False (at? s8.2.1 (IntKind.wrap .i64 (s1 - 1))) fun y12 =>
 br (decide ((0 : Int) ≤ y12.1 ∧ (y12.1 : Int) < (↑(List.length s9))))
 (need False (s9)[(Int.toNat y12.1)]? fun y13 =>
 l19r12v2
 (fun z14 z15 z16 z17 z18 z19 z20 z21 z22 => I1 (IntKind.wrap .i64 (z14 - 1)) z15 z16 z17 z18 z19 z20 z21 z22)
 s1 y12.2.2.2.1 (↑(List.length y12.2.2.2.1)) 0 s2 s3 s4 s5 z10 z11 s8 (List.set s9 (Int.toNat y12.1) false))
 False))) → I1 s1 s2 s3 s4 s5 s6 s7 s8 s9) →
 I1 s1 s2 s3 s4 s5 s6 s7 s8 s9
structure c19v2 (x1 x2 x3 : Int) (x4 : List tBK) (x5 : List (List Bool)) (x6 : List (List q0)) (x7 : Int) (k1 : Int → Int → (List tBK) → q1 → (List (List q0)) → Int → (List Bool) → Prop) : Prop where
of :
 br (decide (0 ≤ x1 ∧ x1 < (↑(List.length x4))))
 (need False (x4)[(Int.toNat x1)]? fun y8 =>
 br (decide (0 ≤ x1 ∧ x1 < (↑(List.length x5))))
 (need False (x5)[(Int.toNat x1)]? fun y9 =>
 need False (x5)[(Int.toNat x1)]? fun y10 =>
 c34 y10
 (fun z11 => l19r5v2
 (fun z12 z13 z14 z15 z16 z17 z18 => k1 z12 z13 z14 z15 z16 z17 z18)
 (↑(List.length y8.2.1)) x2 x3 x4 (List.set x5 (Int.toNat x1) y10) x6 x7 y8 z11))
 False)
 False
structure l8r6 (k1 : (List tBK) → (List (List q0)) → Prop) (s1 s2 : Int) (s3 : List tBK) (s4 s5 : Int) (s6 : List (List Bool)) (s7 : List (List q0)) : Prop where
of :
 ∀ (I1 : Int → Int → (List tBK) → Int → Int → q1 → (List (List q0)) → Prop),
 (∀ (s1 s2 : Int) (s3 : List tBK) (s4 s5 : Int) (s6 : List (List Bool)) (s7 : List (List q0)), (br (decide (s2 < s1))
 (c19v2 s2 s4 s5 s3 s6 s7 s2
 (fun z8 z9 z10 z11 z12 z13 z14 => I1 s1 (IntKind.wrap .i64 (s2 + 1)) z10 z8 z9 z11 z12))
 (k1 s3 s7)) → I1 s1 s2 s3 s4 s5 s6 s7) →
 I1 s1 s2 s3 s4 s5 s6 s7
structure l22r3 (k1 : Int → (List (List q0)) → Prop) (s1 s2 s3 : Int) (s4 : List (List q0)) : Prop where
of :
 ∀ (I1 : Int → Int → Int → (List (List q0)) → Prop),
 (∀ (s1 s2 s3 : Int) (s4 : List (List q0)), (br (decide (s3 < s2))
 (br (decide (0 ≤ s3 ∧ s3 < (↑(List.length s4))))
 (need False (s4)[(Int.toNat s3)]? fun y5 =>
 need False (s4)[(Int.toNat s3)]? fun y6 =>
 br (decide (((IntKind.wrap .i64 (s1 + (↑(List.length y6)))) : Int) < 0))
 False
 (I1 (IntKind.wrap .i64 (s1 + (↑(List.length y6)))) s2 (IntKind.wrap .i64 (s3 + 1)) (List.set s4 (Int.toNat s3) y6)))
 False)
 (k1 s1 s4)) → I1 s1 s2 s3 s4) →
 I1 s1 s2 s3 s4
structure c35 (x1 : Int) (k1 : Nat → Nat → Nat → (List q0) → Prop) (k2 : (List q0) → Prop) : Prop where
of :
 br (decide (x1 < 0))
 False
 (br (decide (((IntKind.wrap .i64 (x1 - 0)) : Int) > 0))
 (br (decide ((0 : Int) < (IntKind.wrap .i64 (x1 - 0)) ∧ (((IntKind.wrap .i64 (x1 - 0)) * 32) : Int) ≤ 140737488355328))
 (br (decide ((0 : Int) ≤ 0 ∧ (0 : Int) ≤ 0 ∧ (0 : Int) ≤ (↑(List.length (List.replicate (Int.toNat (IntKind.wrap .i64 (x1 - 0))) ((0, 0, 0, 0, ()) : (Int) × (Int) × (Int) × (Int) × Unit)))) ∧ ((↑(List.length (List.replicate (Int.toNat (IntKind.wrap .i64 (x1 - 0))) ((0, 0, 0, 0, ()) : (Int) × (Int) × (Int) × (Int) × Unit)))) : Int) ≤ (↑(List.length (List.replicate (Int.toNat (IntKind.wrap .i64 (x1 - 0))) ((0, 0, 0, 0, ()) : (Int) × (Int) × (Int) × (Int) × Unit))))))
 (k1 0 0 (Int.toNat ((↑(List.length (List.replicate (Int.toNat (IntKind.wrap .i64 (x1 - 0))) ((0, 0, 0, 0, ()) : (Int) × (Int) × (Int) × (Int) × Unit)))) - 0)) (List.replicate (Int.toNat (IntKind.wrap .i64 (x1 - 0))) ((0, 0, 0, 0, ()) : (Int) × (Int) × (Int) × (Int) × Unit)))
 False)
 False)
 (k2 []))
structure l22r11 (k1 : Nat → Nat → Nat → (List (List q0)) → (List q0) → Prop) (k2 : (List (List q0)) → (List q0) → Prop) (s1 s2 s3 : Nat) (s4 s5 : Int) (s6 : List (List q0)) (s7 : List q0) : Prop where
of :
 ∀ (I1 : Nat → Nat → Nat → Int → Int → (List (List q0)) → (List q0) → Prop) (I2 : Int → Int → (List (List q0)) → (List q0) → Prop),
 (∀ (s1 s2 s3 : Nat) (s4 s5 : Int) (s6 : List (List q0)) (s7 : List q0), (br (decide (s5 < s4))
 (br (decide (0 ≤ s5 ∧ s5 < (↑(List.length s6))))
 (need False (s6)[(Int.toNat s5)]? fun y8 =>
 need False (s6)[(Int.toNat s5)]? fun y9 =>
 br (decide ((s2 + (List.length y9)) ≤ s3))
 (I1 s1 (s2 + (List.length y9)) s3 s4 (IntKind.wrap .i64 (s5 + 1)) (List.set s6 (Int.toNat s5) y9) (((List.take (s1 + s2) s7) ++ y9) ++ (List.drop ((s1 + s2) + (List.length y9)) s7)))
 (br (roomB (s2 + (List.length y9)) 32)
 (br (decide (s1 = 0))
 (I2 s4 (IntKind.wrap .i64 (s5 + 1)) (List.set s6 (Int.toNat s5) y9) ((List.take s2 s7) ++ y9))
 ((I2 s4 (IntKind.wrap .i64 (s5 + 1)) (List.set s6 (Int.toNat s5) y9) ((List.take s2 (List.drop s1 s7)) ++ y9)) ∧
 (I1 s1 (s2 + (List.length y9)) (s2 + (List.length y9)) s4 (IntKind.wrap .i64 (s5 + 1)) (List.set s6 (Int.toNat s5) y9) ((List.take (s1 + s2) s7) ++ y9))))
 False))
 False)
 (k1 s1 s2 s3 s6 s7)) → I1 s1 s2 s3 s4 s5 s6 s7) →
 (∀ (s10 s11 : Int) (s12 : List (List q0)) (s13 : List q0), (br (decide (s11 < s10))
 (br (decide (0 ≤ s11 ∧ s11 < (↑(List.length s12))))
 (need False (s12)[(Int.toNat s11)]? fun y14 =>
 need False (s12)[(Int.toNat s11)]? fun y15 =>
 br (List.isEmpty y15)
 (I2 s10 (IntKind.wrap .i64 (s11 + 1)) (List.set s12 (Int.toNat s11) y15) s13)
 (br (roomB ((List.length s13) + (List.length y15)) 32)
 (I2 s10 (IntKind.wrap .i64 (s11 + 1)) (List.set s12 (Int.toNat s11) y15) (s13 ++ y15))
 False))
 False)
 (k2 s12 s13)) → I2 s10 s11 s12 s13) →
 I1 s1 s2 s3 s4 s5 s6 s7
structure l22r11v2 (k1 : (List (List q0)) → (List q0) → Prop) (s1 s2 : Int) (s3 : List (List q0)) (s4 : List q0) : Prop where
of :
 ∀ (I1 : Int → Int → (List (List q0)) → (List q0) → Prop),
 (∀ (s1 s2 : Int) (s3 : List (List q0)) (s4 : List q0), (br (decide (s2 < s1))
 (br (decide (0 ≤ s2 ∧ s2 < (↑(List.length s3))))
 (need False (s3)[(Int.toNat s2)]? fun y5 =>
 need False (s3)[(Int.toNat s2)]? fun y6 =>
 br (List.isEmpty y6)
 (I1 s1 (IntKind.wrap .i64 (s2 + 1)) (List.set s3 (Int.toNat s2) y6) s4)
 (br (roomB ((List.length s4) + (List.length y6)) 32)
 (I1 s1 (IntKind.wrap .i64 (s2 + 1)) (List.set s3 (Int.toNat s2) y6) (s4 ++ y6))
 False))
 False)
 (k1 s3 s4)) → I1 s1 s2 s3 s4) →
 I1 s1 s2 s3 s4
structure c22 (x1 : List (List q0)) (k1 : Nat → Nat → Nat → (List (List q0)) → (List q0) → Prop) (k2 : (List (List q0)) → (List q0) → Prop) : Prop where
of :
 l22r3
 (fun z2 z3 => c35 z2
 (fun z4 z5 z6 z7 => l22r11
 (fun z8 z9 z10 z11 z12 => k1 z8 z9 z10 z11 z12)
 (fun z13 z14 => k2 z13 z14)
 z4 z5 z6 (↑(List.length z3)) 0 z3 z7)
 (fun z15 => l22r11v2
 (fun z16 z17 => k2 z16 z17)
 (↑(List.length z3)) 0 z3 z15))
 0 (↑(List.length x1)) 0 x1
structure c8 (x1 : Int) (x2 : List tBK) (k1 : Int → (List tBK) → (List q0) → Prop) (k2 : Nat → Nat → Nat → Int → (List tBK) → (List q0) → Prop) : Prop where
of :
 c18 x1 x2
 (fun z3 z4 z5 z6 => br (z4 != 0)
 (k1 z4 z5 [])
 False)
 (fun z7 z8 z9 z10 z11 z12 => br (z7 != 0)
 (k1 z7 z8 [])
 (br (decide (z10 = z10))
 (br (decide ((0 : Int) ≤ z10 ∧ (z10 : Int) ≤ z10 ∧ ((z10 * 24) : Int) ≤ 140737488355328))
 (l8r6
 (fun z13 z14 => c22 z14
 (fun z15 z16 z17 z18 z19 => k2 z15 z16 z17 0 z13 z19)
 (fun z20 z21 => k1 0 z13 z21))
 (↑(List.length z8)) 0 z8 z9 z10 z11 (List.replicate (Int.toNat z10) ([] : List ((Int) × (Int) × (Int) × (Int) × Unit))))
 False)
 False))
structure l25r4 (k1 : Bool → Prop) (k2 : Prop) (s1 s2 : List Int) (s3 s4 : Int) : Prop where
of :
 ∀ (I1 : (List Int) → (List Int) → Int → Int → Prop),
 (∀ (s1 s2 : List Int) (s3 s4 : Int), (br (decide (s4 < s3))
 (need False (at? s2 s4) fun y5 =>
 need False (at? s1 s4) fun y6 =>
 br (y6 != y5)
 (k1 false)
 (I1 s1 s2 s3 (IntKind.wrap .i64 (s4 + 1))))
 (k2)) → I1 s1 s2 s3 s4) →
 I1 s1 s2 s3 s4
structure c25 (x1 x2 : List Int) (k1 : Bool → Prop) : Prop where
of :
 br (((↑(List.length x1)) : Int) != (↑(List.length x2)))
 (k1 false)
 (l25r4
 (fun z3 => k1 z3)
 (k1 true)
 x2 x1 (↑(List.length x1)) 0)
structure l12r4 (k1 : Bool → (List (List Int)) → (List (List Int)) → Prop) (k2 : (List (List Int)) → (List (List Int)) → Prop) (s1 s2 : Int) (s3 s4 : List (List Int)) : Prop where
of :
 ∀ (I1 : Int → Int → (List (List Int)) → (List (List Int)) → Prop),
 (∀ (s1 s2 : Int) (s3 s4 : List (List Int)), (br (decide (s2 < s1))
 (br (decide (0 ≤ s2 ∧ s2 < (↑(List.length s3))))
 (need False (s3)[(Int.toNat s2)]? fun y5 =>
 need False (s3)[(Int.toNat s2)]? fun y6 =>
 br (decide (0 ≤ s2 ∧ s2 < (↑(List.length s4))))
 (need False (s4)[(Int.toNat s2)]? fun y7 =>
 need False (s4)[(Int.toNat s2)]? fun y8 =>
 c25 y6 y8
 (fun z9 => br (!z9)
 (k1 false (List.set s3 (Int.toNat s2) y6) (List.set s4 (Int.toNat s2) y8))
 (I1 s1 (IntKind.wrap .i64 (s2 + 1)) (List.set s3 (Int.toNat s2) y6) (List.set s4 (Int.toNat s2) y8))))
 False)
 False)
 (k2 s3 s4)) → I1 s1 s2 s3 s4) →
 I1 s1 s2 s3 s4
structure c12 (x1 x2 : List (List Int)) (k1 : Bool → (List (List Int)) → (List (List Int)) → Prop) : Prop where
of :
 br (((↑(List.length x1)) : Int) != (↑(List.length x2)))
 (k1 false x1 x2)
 (l12r4
 (fun z3 z4 z5 => k1 z3 z4 z5)
 (fun z6 z7 => k1 true z6 z7)
 (↑(List.length x1)) 0 x1 x2)
structure l12r4v2 (k1 : Bool → (List (List Int)) → (List (List Int)) → Nat → (List Int) → Prop) (k2 : (List (List Int)) → (List (List Int)) → Nat → (List Int) → Prop) (s1 s2 : Int) (s3 s4 : List (List Int)) (s5 : Nat) (s6 : List Int) : Prop where
of :
 ∀ (I1 : Int → Int → (List (List Int)) → (List (List Int)) → Nat → (List Int) → Prop),
 (∀ (s1 s2 : Int) (s3 s4 : List (List Int)) (s5 : Nat) (s6 : List Int), (br (decide (s2 < s1))
 (br (decide (0 ≤ s2 ∧ s2 < (↑(List.length s3))))
 (need False (s3)[(Int.toNat s2)]? fun y7 =>
 need False (s3)[(Int.toNat s2)]? fun y8 =>
 br (decide (0 ≤ s2 ∧ s2 < (↑(List.length s4))))
 (need False (s4)[(Int.toNat s2)]? fun y9 =>
 br (decide ((Int.toNat s2) = s5))
 (c25 y8 s6
 (fun z10 => br (!z10)
 (k1 false (List.set s3 (Int.toNat s2) y8) s4 s5 s6)
 (I1 s1 (IntKind.wrap .i64 (s2 + 1)) (List.set s3 (Int.toNat s2) y8) s4 s5 s6)))
 (need False (s4)[(Int.toNat s2)]? fun y11 =>
 c25 y8 y11
 (fun z12 => br (!z12)
 (k1 false (List.set s3 (Int.toNat s2) y8) (List.set s4 (Int.toNat s2) y11) s5 s6)
 (I1 s1 (IntKind.wrap .i64 (s2 + 1)) (List.set s3 (Int.toNat s2) y8) (List.set s4 (Int.toNat s2) y11) s5 s6))))
 False)
 False)
 (k2 s3 s4 s5 s6)) → I1 s1 s2 s3 s4 s5 s6) →
 I1 s1 s2 s3 s4 s5 s6
structure c12v2 (x1 x2 : List (List Int)) (x3 : Nat) (x4 : List Int) (k1 : Bool → (List (List Int)) → (List (List Int)) → Nat → (List Int) → Prop) : Prop where
of :
 br (((↑(List.length x1)) : Int) != (↑(List.length x2)))
 (k1 false x1 x2 x3 x4)
 (l12r4v2
 (fun z5 z6 z7 z8 z9 => k1 z5 z6 z7 z8 z9)
 (fun z10 z11 z12 z13 => k1 true z10 z11 z12 z13)
 (↑(List.length x1)) 0 x1 x2 x3 x4)
structure c4 (k1 : Bool → Prop) : Prop where
of :
 c11 (-1) [([], [(1, 0, 1, [], ()), (2, 0, 2, [], ())], (0, 2, 0, [], [], ()), ())]
 (fun z1 z2 z3 z4 => c8 (-1) z2
 (fun z5 z6 z7 => br (z1 == 0)
 (c12 z3 (List.replicate 1 ([] : List (Int)))
 (fun z8 z9 z10 => br (z8)
 (c12v2 z4 (List.replicate 1 ([] : List (Int))) 0 [2]
 (fun z11 z12 z13 z14 z15 => br (z11)
 (br (z5 == 0)
 (br (((↑(List.length z7)) : Int) == 1)
 (br (decide ((0 : Int) ≤ 0 ∧ (0 : Int) < (↑(List.length z7))))
 (need False (z7)[0]? fun y16 =>
 k1 (((y16.1 : Int) == 2) && (((y16.2.1 : Int) == 0) && (((y16.2.2.1 : Int) == 2) && (((y16.2.2.2.1 : Int) == 2) && true)))))
 False)
 (k1 false))
 (k1 false))
 (k1 false)))
 (k1 false)))
 (k1 false))
 (fun z17 z18 z19 z20 z21 z22 => br (z1 == 0)
 (c12 z3 (List.replicate 1 ([] : List (Int)))
 (fun z23 z24 z25 => br (z23)
 (c12v2 z4 (List.replicate 1 ([] : List (Int))) 0 [2]
 (fun z26 z27 z28 z29 z30 => br (z26)
 (br (z20 == 0)
 (br ((((z18 : Nat) : Int) : Int) == 1)
 (br (decide ((0 : Int) ≤ 0 ∧ (0 : Int) < ((z18 : Nat) : Int)))
 (need False (z22)[(z17 + 0)]? fun y31 =>
 k1 (((y31.1 : Int) == 2) && (((y31.2.1 : Int) == 0) && (((y31.2.2.1 : Int) == 2) && (((y31.2.2.2.1 : Int) == 2) && true)))))
 False)
 (k1 false))
 (k1 false))
 (k1 false)))
 (k1 false)))
 (k1 false)))
structure l6r6 (k1 : Int → (List tBK) → Int → Int → tBK → Prop) (s1 : Int) (s2 : List tBK) (s3 s4 : Int) (s5 : List Int) (s6 s7 : Int) (s8 : tBK) : Prop where
of :
 ∀ (I1 : Int → (List tBK) → Int → Int → (List Int) → Int → Int → tBK → Prop),
 (∀ (s1 : Int) (s2 : List tBK) (s3 s4 : Int) (s5 : List Int) (s6 s7 : Int) (s8 : tBK), (br (decide (s7 < s6))
 (need False (at? s5 s7) fun y9 =>
 I1 (maxI s1 (IntKind.wrap .i64 (y9 + 1))) s2 s3 s4 s5 s6 (IntKind.wrap .i64 (s7 + 1)) s8)
 (k1 s1 s2 s3 s4 s8)) → I1 s1 s2 s3 s4 s5 s6 s7 s8) →
 I1 s1 s2 s3 s4 s5 s6 s7 s8
structure l6r11 (k1 : Int → (List tBK) → Int → Int → Prop) (s1 : Int) (s2 : List tBK) (s3 s4 : Int) (s5 : List tIN) (s6 s7 : Int) : Prop where
of :
 ∀ (I1 : Int → (List tBK) → Int → Int → (List tIN) → Int → Int → Prop),
 (∀ (s1 : Int) (s2 : List tBK) (s3 s4 : Int) (s5 : List tIN) (s6 s7 : Int), (br (decide (s7 < s6))
 (need False (at? s5 s7) fun y8 =>
 I1 (maxI s1 (IntKind.wrap .i64 (y8.1 + 1))) s2 s3 s4 s5 s6 (IntKind.wrap .i64 (s7 + 1)))
 (k1 s1 s2 s3 s4)) → I1 s1 s2 s3 s4 s5 s6 s7) →
 I1 s1 s2 s3 s4 s5 s6 s7
structure l6r3 (k1 : Int → Prop) (s1 : Int) (s2 : List tBK) (s3 s4 : Int) : Prop where
of :
 ∀ (I1 : Int → (List tBK) → Int → Int → Prop),
 (∀ (s1 : Int) (s2 : List tBK) (s3 s4 : Int), (br (decide (s4 < s3))
 (need False (at? s2 s4) fun y5 =>
 l6r6
 (fun z6 z7 z8 z9 z10 => l6r11
 (fun z11 z12 z13 z14 => I1 z11 z12 z13 (IntKind.wrap .i64 (z14 + 1)))
 z6 z7 z8 z9 z10.2.1 (↑(List.length z10.2.1)) 0)
 s1 s2 s3 s4 y5.1 (↑(List.length y5.1)) 0 y5)
 (k1 s1)) → I1 s1 s2 s3 s4) →
 I1 s1 s2 s3 s4
structure c6 (x1 : tFU) (k1 : Int → Prop) : Prop where
of :
 l6r3
 (fun z2 => k1 z2)
 0 x1.2.1 (↑(List.length x1.2.1)) 0
structure c5 (x1 : tFU) (k1 : Bool → Prop) : Prop where
of :
 br (decide (((↑(List.length x1.2.1)) : Int) ≤ 12))
 (c6 x1
 (fun z2 => k1 (decide ((z2 : Int) ≤ 200))))
 (k1 false)
structure l7r3 (k1 : Int → tFU → Prop) (s1 : Int) (s2 : List tBK) (s3 s4 : Int) (s5 : tFU) : Prop where
of :
 ∀ (I1 : Int → (List tBK) → Int → Int → tFU → Prop),
 (∀ (s1 : Int) (s2 : List tBK) (s3 s4 : Int) (s5 : tFU), (br (decide (s4 < s3))
 (need False (at? s2 s4) fun y6 =>
 I1 (IntKind.wrap .i64 (s1 + (↑(List.length y6.2.1)))) s2 s3 (IntKind.wrap .i64 (s4 + 1)) s5)
 (k1 s1 s5)) → I1 s1 s2 s3 s4 s5) →
 I1 s1 s2 s3 s4 s5
structure c13 (x1 x2 x3 : Int) (k1 : Bool → Prop) : Prop where
of :
 br (decide (x1 ≥ x2))
 (k1 (decide ((x1 : Int) ≤ x3)))
 (k1 false)
structure l24r2 (k1 : Bool → Prop) (k2 : Prop) (s1 : Int) (s2 : List Int) (s3 s4 : Int) : Prop where
of :
 ∀ (I1 : Int → (List Int) → Int → Int → Prop),
 (∀ (s1 : Int) (s2 : List Int) (s3 s4 : Int), (br (decide (s4 < s3))
 (need False (at? s2 s4) fun y5 =>
 br (y5 == s1)
 (k1 true)
 (I1 s1 s2 s3 (IntKind.wrap .i64 (s4 + 1))))
 (k2)) → I1 s1 s2 s3 s4) →
 I1 s1 s2 s3 s4
structure c24 (x1 : List Int) (x2 : Int) (k1 : Bool → Prop) : Prop where
of :
 l24r2
 (fun z3 => k1 z3)
 (k1 false)
 x2 x1 (↑(List.length x1)) 0
structure c26 (x1 : Int) (x2 : List Int) (k1 : Int → Prop) : Prop where
of :
 c13 x1 0 4095
 (fun z3 => br (!z3)
 (k1 4)
 (c24 x2 x1
 (fun z4 => br (z4)
 (k1 7)
 (k1 0))))
structure l14r6 (k1 : Int → Prop) (k2 : (List tBK) → Int → Int → tFU → (List Int) → tBK → Prop) (s1 : List tBK) (s2 s3 : Int) (s4 : List Int) (s5 s6 : Int) (s7 : tFU) (s8 : List Int) (s9 : tBK) : Prop where
of :
 ∀ (I1 : (List tBK) → Int → Int → (List Int) → Int → Int → tFU → (List Int) → tBK → Prop),
 (∀ (s1 : List tBK) (s2 s3 : Int) (s4 : List Int) (s5 s6 : Int) (s7 : tFU) (s8 : List Int) (s9 : tBK), (br (decide (s6 < s5))
 (need False (at? s4 s6) fun y10 =>
 c26 y10 s8
 (fun z11 => br (z11 != 0)
 (k1 z11)
 (br (roomB ((List.length s8) + 1) 8)
 (I1 s1 s2 s3 s4 s5 (IntKind.wrap .i64 (s6 + 1)) s7 (s8 ++ [y10]) s9)
 False)))
 (k2 s1 s2 s3 s7 s8 s9)) → I1 s1 s2 s3 s4 s5 s6 s7 s8 s9) →
 I1 s1 s2 s3 s4 s5 s6 s7 s8 s9
structure c36 (x1 : tIN) (k1 : Int → Prop) : Prop where
of :
 br ((x1.2.1 : Int) == 0)
 (k1 0)
 (br ((x1.2.1 : Int) == 10)
 (k1 1)
 (br ((x1.2.1 : Int) == 11)
 (k1 1)
 (br ((x1.2.1 : Int) == 12)
 (k1 1)
 (br ((x1.2.1 : Int) == 15)
 (k1 1)
 (br ((x1.2.1 : Int) == 17)
 (k1 1)
 (br ((x1.2.1 : Int) == 24)
 (k1 1)
 (br ((x1.2.1 : Int) == 1)
 (k1 2)
 (br ((x1.2.1 : Int) == 2)
 (k1 2)
 (br ((x1.2.1 : Int) == 3)
 (k1 2)
 (br ((x1.2.1 : Int) == 4)
 (k1 2)
 (br ((x1.2.1 : Int) == 5)
 (k1 2)
 (br ((x1.2.1 : Int) == 6)
 (k1 2)
 (br ((x1.2.1 : Int) == 7)
 (k1 2)
 (br ((x1.2.1 : Int) == 16)
 (k1 2)
 (br ((x1.2.1 : Int) == 18)
 (k1 2)
 (br ((x1.2.1 : Int) == 19)
 (k1 2)
 (br ((x1.2.1 : Int) == 21)
 (k1 2)
 (br ((x1.2.1 : Int) == 23)
 (k1 2)
 (br ((x1.2.1 : Int) == 20)
 (k1 3)
 (br ((x1.2.1 : Int) == 8)
 (k1 (-1))
 (br ((x1.2.1 : Int) == 9)
 (k1 (-1))
 (br ((x1.2.1 : Int) == 13)
 (k1 (-1))
 (br ((x1.2.1 : Int) == 14)
 (k1 (-1))
 (br ((x1.2.1 : Int) == 22)
 (br ((x1.2.2.1 : Int) == 2)
 (k1 x1.2.2.1)
 (br ((x1.2.2.1 : Int) == 4)
 (k1 x1.2.2.1)
 (k1 (-2))))
 (k1 (-2))))))))))))))))))))))))))
structure j27s4 (k1 : Int → Prop) (k2 : tIN → Prop) (s1 : Bool) (s2 : tIN) : Prop where
of :
 br (s1)
 (k1 2)
 (k2 s2)
structure c37 (x1 : Int) (k1 : Bool → Prop) : Prop where
of :
 c13 x1 (-1073741824) 1073741823
 (fun z2 => k1 z2)
structure j27r6 (k1 : Int → Prop) (s1 : tIN) : Prop where
of :
 br ((s1.2.1 : Int) == 0)
 (c37 s1.2.2.1
 (fun z2 => br (!z2)
 (k1 4)
 (k1 0)))
 (br ((s1.2.1 : Int) == 8)
 (c13 s1.2.2.1 0 255
 (fun z3 => br (!z3)
 (k1 4)
 (k1 0)))
 (br ((s1.2.1 : Int) == 9)
 (c13 s1.2.2.1 0 255
 (fun z4 => br (!z4)
 (k1 4)
 (k1 0)))
 (br ((s1.2.1 : Int) == 13)
 (c13 s1.2.2.1 0 255
 (fun z5 => br (!z5)
 (k1 4)
 (k1 0)))
 (br ((s1.2.1 : Int) == 11)
 (c13 s1.2.2.1 0 15
 (fun z6 => br (!z6)
 (k1 4)
 (k1 0)))
 (br ((s1.2.1 : Int) == 23)
 (br ((s1.2.2.1 : Int) == 1)
 (k1 0)
 (br ((s1.2.2.1 : Int) == 2)
 (k1 0)
 (br (!((s1.2.2.1 : Int) == 3))
 (k1 4)
 (k1 0))))
 (br ((s1.2.1 : Int) == 24)
 (c13 s1.2.2.1 0 3
 (fun z7 => br (!z7)
 (k1 4)
 (k1 0)))
 (br ((s1.2.1 : Int) == 22)
 (k1 0)
 (br (!((s1.2.2.1 : Int) == 0))
 (k1 4)
 (k1 0)))))))))
structure j27r4 (k1 : Int → Prop) (s1 : tIN) : Prop where
of :
 br ((s1.2.1 : Int) == 8)
 (br (decide (((↑(List.length s1.2.2.2.1)) : Int) > 16))
 (j27s4
 (fun z2 => k1 z2)
 (fun z3 => j27r6
 (fun z4 => k1 z4)
 z3)
 true s1)
 (br ((s1.2.1 : Int) == 13)
 (j27s4
 (fun z5 => k1 z5)
 (fun z6 => j27r6
 (fun z7 => k1 z7)
 z6)
 (decide (((↑(List.length s1.2.2.2.1)) : Int) > 6)) s1)
 (br ((s1.2.1 : Int) == 14)
 (j27s4
 (fun z8 => k1 z8)
 (fun z9 => j27r6
 (fun z10 => k1 z10)
 z9)
 (decide (((↑(List.length s1.2.2.2.1)) : Int) > 6)) s1)
 (j27s4
 (fun z11 => k1 z11)
 (fun z12 => j27r6
 (fun z13 => k1 z13)
 z12)
 false s1))))
 (br ((s1.2.1 : Int) == 9)
 (br (decide (((↑(List.length s1.2.2.2.1)) : Int) > 16))
 (j27s4
 (fun z14 => k1 z14)
 (fun z15 => j27r6
 (fun z16 => k1 z16)
 z15)
 true s1)
 (br ((s1.2.1 : Int) == 13)
 (j27s4
 (fun z17 => k1 z17)
 (fun z18 => j27r6
 (fun z19 => k1 z19)
 z18)
 (decide (((↑(List.length s1.2.2.2.1)) : Int) > 6)) s1)
 (br ((s1.2.1 : Int) == 14)
 (j27s4
 (fun z20 => k1 z20)
 (fun z21 => j27r6
 (fun z22 => k1 z22)
 z21)
 (decide (((↑(List.length s1.2.2.2.1)) : Int) > 6)) s1)
 (j27s4
 (fun z23 => k1 z23)
 (fun z24 => j27r6
 (fun z25 => k1 z25)
 z24)
 false s1))))
 (br ((s1.2.1 : Int) == 13)
 (j27s4
 (fun z26 => k1 z26)
 (fun z27 => j27r6
 (fun z28 => k1 z28)
 z27)
 (decide (((↑(List.length s1.2.2.2.1)) : Int) > 6)) s1)
 (br ((s1.2.1 : Int) == 14)
 (j27s4
 (fun z29 => k1 z29)
 (fun z30 => j27r6
 (fun z31 => k1 z31)
 z30)
 (decide (((↑(List.length s1.2.2.2.1)) : Int) > 6)) s1)
 (j27s4
 (fun z32 => k1 z32)
 (fun z33 => j27r6
 (fun z34 => k1 z34)
 z33)
 false s1))))
structure c27 (x1 : tIN) (k1 : Int → Prop) : Prop where
of :
 c36 x1
 (fun z2 => br (z2 == (-2))
 (k1 3)
 (br (decide (z2 ≥ 0))
 (br (z2 != (↑(List.length x1.2.2.2.1)))
 (k1 3)
 (br ((x1.2.1 : Int) == 14)
 (br (decide (((↑(List.length x1.2.2.2.1)) : Int) < 1))
 (k1 3)
 (j27r4
 (fun z3 => k1 z3)
 x1))
 (j27r4
 (fun z4 => k1 z4)
 x1)))
 (br ((x1.2.1 : Int) == 14)
 (br (decide (((↑(List.length x1.2.2.2.1)) : Int) < 1))
 (k1 3)
 (j27r4
 (fun z5 => k1 z5)
 x1))
 (j27r4
 (fun z6 => k1 z6)
 x1))))
structure l14r14 (k1 : Int → Prop) (k2 : (List tBK) → Int → Int → tFU → (List Int) → tBK → Prop) (s1 : List tBK) (s2 s3 : Int) (s4 : List tIN) (s5 s6 : Int) (s7 : tFU) (s8 : List Int) (s9 : tBK) : Prop where
of :
 ∀ (I1 : (List tBK) → Int → Int → (List tIN) → Int → Int → tFU → (List Int) → tBK → Prop),
 (∀ (s1 : List tBK) (s2 s3 : Int) (s4 : List tIN) (s5 s6 : Int) (s7 : tFU) (s8 : List Int) (s9 : tBK), (br (decide (s6 < s5))
 (need False (at? s4 s6) fun y10 =>
 c26 y10.1 s8
 (fun z11 => br (z11 != 0)
 (k1 z11)
 (br (roomB ((List.length s8) + 1) 8)
 (c27 y10
 (fun z12 => br (z12 != 0)
 (k1 z12)
 (I1 s1 s2 s3 s4 s5 (IntKind.wrap .i64 (s6 + 1)) s7 (s8 ++ [y10.1]) s9)))
 False)))
 (k2 s1 s2 s3 s7 s8 s9)) → I1 s1 s2 s3 s4 s5 s6 s7 s8 s9) →
 I1 s1 s2 s3 s4 s5 s6 s7 s8 s9
structure j28s4 (k1 : Int → Prop) (k2 : tFU → tTM → Prop) (s1 : Bool) (s2 : tFU) (s3 : tTM) : Prop where
of :
 br (s1)
 (k1 3)
 (k2 s2 s3)
structure l28r11 (k1 : Int → Prop) (k2 : tFU → tTM → Prop) (s1 : List Int) (s2 s3 : Int) (s4 : tFU) (s5 : tTM) : Prop where
of :
 ∀ (I1 : (List Int) → Int → Int → tFU → tTM → Prop),
 (∀ (s1 : List Int) (s2 s3 : Int) (s4 : tFU) (s5 : tTM), (br (decide (s3 < s2))
 (need False (at? s1 s3) fun y6 =>
 c37 y6
 (fun z7 => br (!z7)
 (k1 4)
 (br (decide ((0 : Int) ≤ 0 ∧ (0 : Int) ≤ s3 ∧ (s3 : Int) ≤ (↑(List.length s5.2.2.2.1))))
 (c24 (List.drop 0 (List.take (Int.toNat s3) s5.2.2.2.1)) y6
 (fun z8 => br (z8)
 (k1 7)
 (I1 s1 s2 (IntKind.wrap .i64 (s3 + 1)) s4 s5)))
 False)))
 (k2 s4 s5)) → I1 s1 s2 s3 s4 s5) →
 I1 s1 s2 s3 s4 s5
structure l28r19 (k1 : Int → Prop) (k2 : Prop) (s1 : List tED) (s2 s3 : Int) (s4 : tFU) : Prop where
of :
 ∀ (I1 : (List tED) → Int → Int → tFU → Prop),
 (∀ (s1 : List tED) (s2 s3 : Int) (s4 : tFU), (br (decide (s3 < s2))
 (need False (at? s1 s3) fun y5 =>
 c13 y5.1 1 (IntKind.wrap .i64 ((↑(List.length s4.2.1)) - 1))
 (fun z6 => br (!z6)
 (k1 4)
 (need False (at? s4.2.1 y5.1) fun y7 =>
 (br (true && true)
 (br (eqT (.sl (.pair (.sl (.int .i64)) (.pair (.sl (.pair (.int .i64) (.pair (.int .i64) (.pair (.int .i64) (.pair (.sl (.int .i64)) .unit))))) (.pair (.pair (.int .i64) (.pair (.int .i64) (.pair (.int .i64) (.pair (.sl (.int .i64)) (.pair (.sl (.pair (.int .i64) (.pair (.sl (.int .i64)) .unit))) .unit))))) .unit)))) s4.2.1 s4.2.1)
 (br (true && true)
 (br (eqT (.int .i64) y5.1 y5.1)
 (need False (at? s4.2.1 y5.1) fun y8 =>
 br (eqT (.pair (.sl (.int .i64)) (.pair (.sl (.pair (.int .i64) (.pair (.int .i64) (.pair (.int .i64) (.pair (.sl (.int .i64)) .unit))))) (.pair (.pair (.int .i64) (.pair (.int .i64) (.pair (.int .i64) (.pair (.sl (.int .i64)) (.pair (.sl (.pair (.int .i64) (.pair (.sl (.int .i64)) .unit))) .unit))))) .unit))) y7 y8)
 (br (eqT (.sl (.int .i64)) y7.1 y7.1)
 (br (eqT (.int .i64) (((List.length y5.2.1) : Nat) : Int) (((List.length y5.2.1) : Nat) : Int))
 (br (((↑(List.length y5.2.1)) : Int) != (↑(List.length y7.1)))
 (k1 3)
 (I1 s1 s2 (IntKind.wrap .i64 (s3 + 1)) s4))
 False)
 False)
 False)
 False)
 False)
 False)
 False) ∧
 (br (true && true)
 (br (eqT (.int .i64) (((List.length y7.1) : Nat) : Int) (((List.length y7.1) : Nat) : Int))
 (br (((↑(List.length y5.2.1)) : Int) != (↑(List.length y7.1)))
 (k1 3)
 (I1 s1 s2 (IntKind.wrap .i64 (s3 + 1)) s4))
 False)
 False))))
 (k2)) → I1 s1 s2 s3 s4) →
 I1 s1 s2 s3 s4
structure j28r6 (k1 : Int → Prop) (s1 : tFU) (s2 : tTM) : Prop where
of :
 br (decide (((↑(List.length s2.2.2.2.1)) : Int) > 256))
 (k1 2)
 (br ((s2.1 : Int) == 4)
 (c13 s2.2.2.1 1 6
 (fun z3 => br (!z3)
 (k1 4)
 (l28r11
 (fun z4 => k1 z4)
 (fun z5 z6 => l28r19
 (fun z7 => k1 z7)
 (k1 0)
 z6.2.2.2.2.1 (↑(List.length z6.2.2.2.2.1)) 0 z5)
 s2.2.2.2.1 (↑(List.length s2.2.2.2.1)) 0 s1 s2)))
 (l28r11
 (fun z8 => k1 z8)
 (fun z9 z10 => l28r19
 (fun z11 => k1 z11)
 (k1 0)
 z10.2.2.2.2.1 (↑(List.length z10.2.2.2.2.1)) 0 z9)
 s2.2.2.2.1 (↑(List.length s2.2.2.2.1)) 0 s1 s2))
structure c28 (x1 : tFU) (x2 : tTM) (k1 : Int → Prop) : Prop where
of :
 c13 x2.1 0 4
 (fun z3 => br (!z3)
 (k1 3)
 (br (decide ((0 : Int) ≤ x2.1 ∧ (x2.1 : Int) < ((5 : Nat) : Int)))
 (need False ([0, 1, 2, (IntKind.wrap .i64 ((↑(List.length x2.2.2.2.1)) + 1)), 0])[(Int.toNat x2.1)]? fun y4 =>
 br (((↑(List.length x2.2.2.2.2.1)) : Int) != y4)
 (k1 3)
 (br ((x2.1 : Int) != 3)
 (br (decide (((↑(List.length x2.2.2.2.1)) : Int) > 0))
 (j28s4
 (fun z5 => k1 z5)
 (fun z6 z7 => j28r6
 (fun z8 => k1 z8)
 z6 z7)
 true x1 x2)
 (br ((x2.1 : Int) != 4)
 (br ((x2.2.2.1 : Int) != 0)
 (j28s4
 (fun z9 => k1 z9)
 (fun z10 z11 => j28r6
 (fun z12 => k1 z12)
 z10 z11)
 true x1 x2)
 (br ((x2.1 : Int) == 1)
 (j28s4
 (fun z13 => k1 z13)
 (fun z14 z15 => j28r6
 (fun z16 => k1 z16)
 z14 z15)
 ((x2.2.1 : Int) != 0) x1 x2)
 (br ((x2.1 : Int) == 4)
 (j28s4
 (fun z17 => k1 z17)
 (fun z18 z19 => j28r6
 (fun z20 => k1 z20)
 z18 z19)
 ((x2.2.1 : Int) != 0) x1 x2)
 (j28s4
 (fun z21 => k1 z21)
 (fun z22 z23 => j28r6
 (fun z24 => k1 z24)
 z22 z23)
 false x1 x2))))
 (br ((x2.1 : Int) == 1)
 (j28s4
 (fun z25 => k1 z25)
 (fun z26 z27 => j28r6
 (fun z28 => k1 z28)
 z26 z27)
 ((x2.2.1 : Int) != 0) x1 x2)
 (br ((x2.1 : Int) == 4)
 (j28s4
 (fun z29 => k1 z29)
 (fun z30 z31 => j28r6
 (fun z32 => k1 z32)
 z30 z31)
 ((x2.2.1 : Int) != 0) x1 x2)
 (j28s4
 (fun z33 => k1 z33)
 (fun z34 z35 => j28r6
 (fun z36 => k1 z36)
 z34 z35)
 false x1 x2)))))
 (br ((x2.1 : Int) != 4)
 (br ((x2.2.2.1 : Int) != 0)
 (j28s4
 (fun z37 => k1 z37)
 (fun z38 z39 => j28r6
 (fun z40 => k1 z40)
 z38 z39)
 true x1 x2)
 (br ((x2.1 : Int) == 1)
 (j28s4
 (fun z41 => k1 z41)
 (fun z42 z43 => j28r6
 (fun z44 => k1 z44)
 z42 z43)
 ((x2.2.1 : Int) != 0) x1 x2)
 (br ((x2.1 : Int) == 4)
 (j28s4
 (fun z45 => k1 z45)
 (fun z46 z47 => j28r6
 (fun z48 => k1 z48)
 z46 z47)
 ((x2.2.1 : Int) != 0) x1 x2)
 (j28s4
 (fun z49 => k1 z49)
 (fun z50 z51 => j28r6
 (fun z52 => k1 z52)
 z50 z51)
 false x1 x2))))
 (br ((x2.1 : Int) == 1)
 (j28s4
 (fun z53 => k1 z53)
 (fun z54 z55 => j28r6
 (fun z56 => k1 z56)
 z54 z55)
 ((x2.2.1 : Int) != 0) x1 x2)
 (br ((x2.1 : Int) == 4)
 (j28s4
 (fun z57 => k1 z57)
 (fun z58 z59 => j28r6
 (fun z60 => k1 z60)
 z58 z59)
 ((x2.2.1 : Int) != 0) x1 x2)
 (j28s4
 (fun z61 => k1 z61)
 (fun z62 z63 => j28r6
 (fun z64 => k1 z64)
 z62 z63)
 false x1 x2))))))
 False))
structure l14r3 (k1 : Int → Prop) (k2 : Prop) (s1 : List tBK) (s2 s3 : Int) (s4 : tFU) (s5 : List Int) : Prop where
of :
 ∀ (I1 : (List tBK) → Int → Int → tFU → (List Int) → Prop),
 (∀ (s1 : List tBK) (s2 s3 : Int) (s4 : tFU) (s5 : List Int), (br (decide (s3 < s2))
 (need False (at? s1 s3) fun y6 =>
 l14r6
 (fun z7 => k1 z7)
 (fun z8 z9 z10 z11 z12 z13 => l14r14
 (fun z14 => k1 z14)
 (fun z15 z16 z17 z18 z19 z20 => c28 z18 z20.2.2.1
 (fun z21 => br (z21 != 0)
 (k1 z21)
 (I1 z15 z16 (IntKind.wrap .i64 (z17 + 1)) z18 z19)))
 z8 z9 z10 z13.2.1 (↑(List.length z13.2.1)) 0 z11 z12 z13)
 s1 s2 s3 y6.1 (↑(List.length y6.1)) 0 s4 s5 y6)
 (k2)) → I1 s1 s2 s3 s4 s5) →
 I1 s1 s2 s3 s4 s5
structure c14 (x1 : tFU) (k1 : Int → Prop) : Prop where
of :
 l14r3
 (fun z2 => k1 z2)
 (k1 0)
 x1.2.1 (↑(List.length x1.2.1)) 0 x1 []
structure l15r11 (k1 : Int → Int → Int → (List tBK) → Int → Int → tFU → (List Bool) → Prop) (s1 s2 s3 s4 : Int) (s5 : List tBK) (s6 s7 : Int) (s8 : List tED) (s9 s10 : Int) (s11 : tFU) (s12 : List Bool) : Prop where
of :
 ∀ (I1 : Int → Int → Int → Int → (List tBK) → Int → Int → (List tED) → Int → Int → tFU → (List Bool) → Prop),
 (∀ (s1 s2 s3 s4 : Int) (s5 : List tBK) (s6 s7 : Int) (s8 : List tED) (s9 s10 : Int) (s11 : tFU) (s12 : List Bool), (br (decide (s10 < s9))
 (need False (at? s8 s10) fun y13 =>
 br (decide (0 ≤ s2 ∧ s2 < (↑(List.length s12))))
 (need False (s12)[(Int.toNat s2)]? fun y14 =>
 br (y14)
 (br ((y13.1 : Int) != s1)
 (c13 y13.1 0 (IntKind.wrap .i64 ((↑(List.length s11.2.1)) - 1))
 (fun z15 => br (z15)
 (br (decide ((0 : Int) ≤ y13.1 ∧ (y13.1 : Int) < (↑(List.length s12))))
 (need False (s12)[(Int.toNat y13.1)]? fun y16 =>
 I1 s1 s2 s3 s4 s5 s6 s7 s8 s9 (IntKind.wrap .i64 (s10 + 1)) s11 (List.set s12 (Int.toNat y13.1) true))
 False)
 (I1 s1 s2 s3 s4 s5 s6 s7 s8 s9 (IntKind.wrap .i64 (s10 + 1)) s11 s12)))
 (I1 s1 s2 s3 s4 s5 s6 s7 s8 s9 (IntKind.wrap .i64 (s10 + 1)) s11 s12))
 (I1 s1 s2 s3 s4 s5 s6 s7 s8 s9 (IntKind.wrap .i64 (s10 + 1)) s11 s12))
 False)
 (k1 s1 s3 s4 s5 s6 s7 s11 s12)) → I1 s1 s2 s3 s4 s5 s6 s7 s8 s9 s10 s11 s12) →
 I1 s1 s2 s3 s4 s5 s6 s7 s8 s9 s10 s11 s12
structure l15r8 (k1 : Int → Int → Int → tFU → (List Bool) → Prop) (s1 s2 s3 : Int) (s4 : List tBK) (s5 s6 : Int) (s7 : tFU) (s8 : List Bool) : Prop where
of :
 ∀ (I1 : Int → Int → Int → (List tBK) → Int → Int → tFU → (List Bool) → Prop),
 (∀ (s1 s2 s3 : Int) (s4 : List tBK) (s5 s6 : Int) (s7 : tFU) (s8 : List Bool), (br (decide (s6 < s5))
 (need False (at? s4 s6) fun y9 =>
 l15r11
 (fun z10 z11 z12 z13 z14 z15 z16 z17 => I1 z10 z11 z12 z13 z14 (IntKind.wrap .i64 (z15 + 1)) z16 z17)
 s1 s6 s2 s3 s4 s5 s6 y9.2.2.1.2.2.2.2.1 (↑(List.length y9.2.2.1.2.2.2.2.1)) 0 s7 s8)
 (k1 s1 s2 s3 s7 s8)) → I1 s1 s2 s3 s4 s5 s6 s7 s8) →
 I1 s1 s2 s3 s4 s5 s6 s7 s8
structure l15r6 (k1 : (List Bool) → Prop) (s1 s2 s3 : Int) (s4 : tFU) (s5 : List Bool) : Prop where
of :
 ∀ (I1 : Int → Int → Int → tFU → (List Bool) → Prop),
 (∀ (s1 s2 s3 : Int) (s4 : tFU) (s5 : List Bool), (br (decide (s3 < s2))
 (l15r8
 (fun z6 z7 z8 z9 z10 => I1 z6 z7 (IntKind.wrap .i64 (z8 + 1)) z9 z10)
 s1 s2 s3 s4.2.1 (↑(List.length s4.2.1)) 0 s4 s5)
 (k1 s5)) → I1 s1 s2 s3 s4 s5) →
 I1 s1 s2 s3 s4 s5
structure c15 (x1 : tFU) (x2 : Int) (k1 : (List Bool) → Prop) : Prop where
of :
 br (decide ((0 : Int) ≤ (↑(List.length x1.2.1)) ∧ ((↑(List.length x1.2.1)) : Int) ≤ (↑(List.length x1.2.1)) ∧ (((↑(List.length x1.2.1)) * 1) : Int) ≤ 140737488355328))
 (br (x2 == 0)
 (k1 (List.replicate (Int.toNat (↑(List.length x1.2.1))) (false : Bool)))
 (br (((↑(List.length x1.2.1)) : Int) == 0)
 (k1 (List.replicate (Int.toNat (↑(List.length x1.2.1))) (false : Bool)))
 (br (decide ((0 : Int) ≤ 0 ∧ (0 : Int) < (↑(List.length (List.replicate (Int.toNat (↑(List.length x1.2.1))) (false : Bool))))))
 (need False ((List.replicate (Int.toNat (↑(List.length x1.2.1))) (false : Bool)))[0]? fun y3 =>
 l15r6
 (fun z4 => k1 z4)
 x2 (↑(List.length x1.2.1)) 0 x1 (List.set (List.replicate (Int.toNat (↑(List.length x1.2.1))) (false : Bool)) 0 true))
 False)))
 False
structure l16r6 (k1 : Int → Int → Int → (List Bool) → Int → Bool → (List tBK) → Int → Int → tFU → Prop) (s1 s2 s3 : Int) (s4 : List Bool) (s5 : Int) (s6 : Bool) (s7 : List tBK) (s8 s9 : Int) (s10 : List tIN) (s11 s12 : Int) (s13 : tFU) : Prop where
of :
 ∀ (I1 : Int → Int → Int → (List Bool) → Int → Bool → (List tBK) → Int → Int → (List tIN) → Int → Int → tFU → Prop),
 (∀ (s1 s2 s3 : Int) (s4 : List Bool) (s5 : Int) (s6 : Bool) (s7 : List tBK) (s8 s9 : Int) (s10 : List tIN) (s11 s12 : Int) (s13 : tFU), (br (decide (s12 < s11))
 (need False (at? s10 s12) fun y14 =>
 br (s6)
 (I1 s1 s2 s3 s4 s5 true s7 s8 s9 s10 s11 (IntKind.wrap .i64 (s12 + 1)) s13)
 (br ((y14.1 : Int) == s1)
 (br (s5 != s2)
 (I1 s1 s2 s3 s4 s5 true s7 s8 s9 s10 s11 (IntKind.wrap .i64 (s12 + 1)) s13)
 (br (decide (s12 < s3))
 (I1 s1 s2 s3 s4 s5 true s7 s8 s9 s10 s11 (IntKind.wrap .i64 (s12 + 1)) s13)
 (need False (at? s4 s2) fun y15 =>
 I1 s1 s2 s3 s4 s5 (!y15) s7 s8 s9 s10 s11 (IntKind.wrap .i64 (s12 + 1)) s13)))
 (I1 s1 s2 s3 s4 s5 false s7 s8 s9 s10 s11 (IntKind.wrap .i64 (s12 + 1)) s13)))
 (k1 s1 s2 s3 s4 s5 s6 s7 s8 s9 s13)) → I1 s1 s2 s3 s4 s5 s6 s7 s8 s9 s10 s11 s12 s13) →
 I1 s1 s2 s3 s4 s5 s6 s7 s8 s9 s10 s11 s12 s13
structure c29 (x1 : tFU) (x2 x3 : Int) (k1 : Bool → Prop) : Prop where
of :
 br (x2 == x3)
 (k1 true)
 (c15 x1 x2
 (fun z4 => br (decide (0 ≤ x3 ∧ x3 < (↑(List.length z4))))
 (need False (z4)[(Int.toNat x3)]? fun y5 =>
 k1 (!y5))
 False))
structure l16r2 (k1 : Bool → Prop) (k2 : Prop) (s1 s2 s3 : Int) (s4 : List Bool) (s5 : List tBK) (s6 s7 : Int) (s8 : tFU) : Prop where
of :
 ∀ (I1 : Int → Int → Int → (List Bool) → (List tBK) → Int → Int → tFU → Prop),
 (∀ (s1 s2 s3 : Int) (s4 : List Bool) (s5 : List tBK) (s6 s7 : Int) (s8 : tFU), (br (decide (s7 < s6))
 (need False (at? s5 s7) fun y9 =>
 c24 y9.1 s1
 (fun z10 => l16r6
 (fun z11 z12 z13 z14 z15 z16 z17 z18 z19 z20 => br (z16)
 (need False (at? z14 z12) fun y21 =>
 br (!y21)
 (k1 true)
 (c29 z20 z15 z12
 (fun z22 => k1 z22)))
 (I1 z11 z12 z13 z14 z17 z18 (IntKind.wrap .i64 (z19 + 1)) z20))
 s1 s2 s3 s4 s7 z10 s5 s6 s7 y9.2.1 (↑(List.length y9.2.1)) 0 s8))
 (k2)) → I1 s1 s2 s3 s4 s5 s6 s7 s8) →
 I1 s1 s2 s3 s4 s5 s6 s7 s8
structure c16 (x1 : tFU) (x2 x3 x4 : Int) (x5 : List Bool) (k1 : Bool → Prop) : Prop where
of :
 l16r2
 (fun z6 => k1 z6)
 (k1 false)
 x2 x3 x4 x5 x1.2.1 (↑(List.length x1.2.1)) 0 x1
structure l7r24 (k1 : Int → Prop) (k2 : Int → (List tBK) → Int → Int → (List tIN) → Int → Int → tFU → (List Bool) → tBK → Prop) (s1 s2 : Int) (s3 : List tBK) (s4 s5 : Int) (s6 : List tIN) (s7 s8 : Int) (s9 : List Int) (s10 s11 : Int) (s12 : tFU) (s13 : List Bool) (s14 : tBK) : Prop where
of :
 ∀ (I1 : Int → Int → (List tBK) → Int → Int → (List tIN) → Int → Int → (List Int) → Int → Int → tFU → (List Bool) → tBK → Prop),
 (∀ (s1 s2 : Int) (s3 : List tBK) (s4 s5 : Int) (s6 : List tIN) (s7 s8 : Int) (s9 : List Int) (s10 s11 : Int) (s12 : tFU) (s13 : List Bool) (s14 : tBK), (br (decide (s11 < s10))
 (need False (at? s9 s11) fun y15 =>
 c16 s12 y15 s1 s2 s13
 (fun z16 => br (!z16)
 (k1 6)
 (I1 s1 s2 s3 s4 s5 s6 s7 s8 s9 s10 (IntKind.wrap .i64 (s11 + 1)) s12 s13 s14)))
 (k2 s1 s3 s4 s5 s6 s7 s8 s12 s13 s14)) → I1 s1 s2 s3 s4 s5 s6 s7 s8 s9 s10 s11 s12 s13 s14) →
 I1 s1 s2 s3 s4 s5 s6 s7 s8 s9 s10 s11 s12 s13 s14
structure l7r21 (k1 : Int → Prop) (k2 : Int → (List tBK) → Int → Int → tFU → (List Bool) → tBK → Prop) (s1 : Int) (s2 : List tBK) (s3 s4 : Int) (s5 : List tIN) (s6 s7 : Int) (s8 : tFU) (s9 : List Bool) (s10 : tBK) : Prop where
of :
 ∀ (I1 : Int → (List tBK) → Int → Int → (List tIN) → Int → Int → tFU → (List Bool) → tBK → Prop),
 (∀ (s1 : Int) (s2 : List tBK) (s3 s4 : Int) (s5 : List tIN) (s6 s7 : Int) (s8 : tFU) (s9 : List Bool) (s10 : tBK), (br (decide (s7 < s6))
 (need False (at? s5 s7) fun y11 =>
 l7r24
 (fun z12 => k1 z12)
 (fun z13 z14 z15 z16 z17 z18 z19 z20 z21 z22 => I1 z13 z14 z15 z16 z17 z18 (IntKind.wrap .i64 (z19 + 1)) z20 z21 z22)
 s1 s7 s2 s3 s4 s5 s6 s7 y11.2.2.2.1 (↑(List.length y11.2.2.2.1)) 0 s8 s9 s10)
 (k2 s1 s2 s3 s4 s8 s9 s10)) → I1 s1 s2 s3 s4 s5 s6 s7 s8 s9 s10) →
 I1 s1 s2 s3 s4 s5 s6 s7 s8 s9 s10
structure l17r5 (k1 : (List Int) → Prop) (s1 : List tED) (s2 s3 : Int) (s4 : List Int) : Prop where
of :
 ∀ (I1 : (List tED) → Int → Int → (List Int) → Prop),
 (∀ (s1 : List tED) (s2 s3 : Int) (s4 : List Int), (br (decide (s3 < s2))
 (need False (at? s1 s3) fun y5 =>
 br (List.isEmpty y5.2.1)
 (I1 s1 s2 (IntKind.wrap .i64 (s3 + 1)) s4)
 (br (roomB ((List.length s4) + (List.length y5.2.1)) 8)
 (I1 s1 s2 (IntKind.wrap .i64 (s3 + 1)) (s4 ++ y5.2.1))
 False))
 (k1 s4)) → I1 s1 s2 s3 s4) →
 I1 s1 s2 s3 s4
structure c17 (x1 : tTM) (k1 : (List Int) → Prop) : Prop where
of :
 br ((x1.1 : Int) == 0)
 (br (true)
 (l17r5
 (fun z2 => k1 z2)
 x1.2.2.2.2.1 (↑(List.length x1.2.2.2.2.1)) 0 ([] ++ [x1.2.1]))
 False)
 (br ((x1.1 : Int) == 2)
 (br (true)
 (l17r5
 (fun z3 => k1 z3)
 x1.2.2.2.2.1 (↑(List.length x1.2.2.2.2.1)) 0 ([] ++ [x1.2.1]))
 False)
 (br ((x1.1 : Int) == 3)
 (br (true)
 (l17r5
 (fun z4 => k1 z4)
 x1.2.2.2.2.1 (↑(List.length x1.2.2.2.2.1)) 0 ([] ++ [x1.2.1]))
 False)
 (l17r5
 (fun z5 => k1 z5)
 x1.2.2.2.2.1 (↑(List.length x1.2.2.2.2.1)) 0 [])))
structure l7r31 (k1 : Int → Prop) (k2 : (List tBK) → Int → Int → tFU → (List Bool) → Prop) (s1 : Int) (s2 : List tBK) (s3 s4 s5 s6 : Int) (s7 : tFU) (s8 : List Bool) (s9 : tBK) (s10 : List Int) : Prop where
of :
 ∀ (I1 : Int → (List tBK) → Int → Int → Int → Int → tFU → (List Bool) → tBK → (List Int) → Prop),
 (∀ (s1 : Int) (s2 : List tBK) (s3 s4 s5 s6 : Int) (s7 : tFU) (s8 : List Bool) (s9 : tBK) (s10 : List Int), (br (decide (s6 < s5))
 (br (decide (0 ≤ s6 ∧ s6 < (↑(List.length s10))))
 (need False (s10)[(Int.toNat s6)]? fun y11 =>
 c16 s7 y11 s1 (↑(List.length s9.2.1)) s8
 (fun z12 => br (!z12)
 (k1 6)
 (I1 s1 s2 s3 s4 s5 (IntKind.wrap .i64 (s6 + 1)) s7 s8 s9 s10)))
 False)
 (k2 s2 s3 s4 s7 s8)) → I1 s1 s2 s3 s4 s5 s6 s7 s8 s9 s10) →
 I1 s1 s2 s3 s4 s5 s6 s7 s8 s9 s10
structure l7r18 (k1 : Int → Prop) (k2 : Prop) (s1 : List tBK) (s2 s3 : Int) (s4 : tFU) (s5 : List Bool) : Prop where
of :
 ∀ (I1 : (List tBK) → Int → Int → tFU → (List Bool) → Prop),
 (∀ (s1 : List tBK) (s2 s3 : Int) (s4 : tFU) (s5 : List Bool), (br (decide (s3 < s2))
 (need False (at? s1 s3) fun y6 =>
 l7r21
 (fun z7 => k1 z7)
 (fun z8 z9 z10 z11 z12 z13 z14 => c17 z14.2.2.1
 (fun z15 => l7r31
 (fun z16 => k1 z16)
 (fun z17 z18 z19 z20 z21 => I1 z17 z18 (IntKind.wrap .i64 (z19 + 1)) z20 z21)
 z8 z9 z10 z11 (↑(List.length z15)) 0 z12 z13 z14 z15))
 s3 s1 s2 s3 y6.2.1 (↑(List.length y6.2.1)) 0 s4 s5 y6)
 (k2)) → I1 s1 s2 s3 s4 s5) →
 I1 s1 s2 s3 s4 s5
structure c7 (x1 : tFU) (k1 : Int → Prop) : Prop where
of :
 l7r3
 (fun z2 z3 => br (((↑(List.length z3.2.1)) : Int) == 0)
 (k1 3)
 (br (decide (((↑(List.length z3.2.1)) : Int) > 128))
 (k1 2)
 (br (decide (z2 > 1024))
 (k1 2)
 (need False (at? z3.2.1 0) fun y4 =>
 br (decide (((↑(List.length y4.1)) : Int) > 6))
 (k1 2)
 (c13 z3.1 (-1) 1048575
 (fun z5 => br (!z5)
 (k1 4)
 (c14 z3
 (fun z6 => br (z6 != 0)
 (k1 z6)
 (c15 z3 (-1)
 (fun z7 => l7r18
 (fun z8 => k1 z8)
 (k1 0)
 z3.2.1 (↑(List.length z3.2.1)) 0 z3 z7))))))))))
 0 x1.2.1 (↑(List.length x1.2.1)) 0 x1
structure l32r7v2 (k1 : (List tED) → Int → Int → tFU → Int → q1 → q1 → tTM → (List Bool) → Prop) (s1 : List tED) (s2 s3 s4 s5 : Int) (s6 : tFU) (s7 : Int) (s8 s9 : List (List Bool)) (s10 : Nat) (s11 : List Bool) (s12 : tTM) (s13 : List Bool) (s14 : tED) : Prop where
of :
 ∀ (I1 : (List tED) → Int → Int → Int → Int → tFU → Int → q1 → q1 → Nat → (List Bool) → tTM → (List Bool) → tED → Prop),
 (∀ (s1 : List tED) (s2 s3 s4 s5 : Int) (s6 : tFU) (s7 : Int) (s8 s9 : List (List Bool)) (s10 : Nat) (s11 : List Bool) (s12 : tTM) (s13 : List Bool) (s14 : tED), (br (decide (s5 < s4))
 (br (decide (0 ≤ s5 ∧ s5 < (↑(List.length s11))))
 (need False (s11)[(Int.toNat s5)]? fun y15 =>
 br (y15)
 (need False (at? s6.2.1 s14.1) fun y16 =>
 br (eqT (.int .i64) s5 s5)
 (c43 y16.1 s5
 (fun z17 => br (!z17)
 (br (decide (0 ≤ s5 ∧ s5 < (↑(List.length s13))))
 (need False (s13)[(Int.toNat s5)]? fun y18 =>
 I1 s1 s2 s3 s4 (IntKind.wrap .i64 (s5 + 1)) s6 s7 s8 s9 s10 s11 s12 (List.set s13 (Int.toNat s5) true) s14)
 False)
 (I1 s1 s2 s3 s4 (IntKind.wrap .i64 (s5 + 1)) s6 s7 s8 s9 s10 s11 s12 s13 s14)))
 False)
 (I1 s1 s2 s3 s4 (IntKind.wrap .i64 (s5 + 1)) s6 s7 s8 s9 s10 s11 s12 s13 s14))
 False)
 (k1 s1 s2 s3 s6 s7 s8 (List.set s9 s10 s11) s12 s13)) → I1 s1 s2 s3 s4 s5 s6 s7 s8 s9 s10 s11 s12 s13 s14) →
 I1 s1 s2 s3 s4 s5 s6 s7 s8 s9 s10 s11 s12 s13 s14
structure l32r4v2 (k1 : tFU → Int → q1 → q1 → tTM → (List Bool) → Prop) (s1 : List tED) (s2 s3 : Int) (s4 : tFU) (s5 : Int) (s6 s7 : List (List Bool)) (s8 : tTM) (s9 : List Bool) : Prop where
of :
 ∀ (I1 : (List tED) → Int → Int → tFU → Int → q1 → q1 → tTM → (List Bool) → Prop),
 (∀ (s1 : List tED) (s2 s3 : Int) (s4 : tFU) (s5 : Int) (s6 s7 : List (List Bool)) (s8 : tTM) (s9 : List Bool), (br (decide (s3 < s2))
 (need False (at? s1 s3) fun y10 =>
 br (decide ((0 : Int) ≤ y10.1 ∧ (y10.1 : Int) < (↑(List.length s7))))
 (need False (s7)[(Int.toNat y10.1)]? fun y11 =>
 need False (s7)[(Int.toNat y10.1)]? fun y12 =>
 l32r7v2
 (fun z13 z14 z15 z16 z17 z18 z19 z20 z21 => I1 z13 z14 (IntKind.wrap .i64 (z15 + 1)) z16 z17 z18 z19 z20 z21)
 s1 s2 s3 (↑(List.length y12)) 0 s4 s5 s6 s7 (Int.toNat y10.1) y12 s8 s9 y10)
 False)
 (k1 s4 s5 s6 s7 s8 s9)) → I1 s1 s2 s3 s4 s5 s6 s7 s8 s9) →
 I1 s1 s2 s3 s4 s5 s6 s7 s8 s9
structure l32r19v2 (k1 : (List tED) → Int → Int → tFU → Int → q1 → q1 → (List Bool) → Prop) (s1 : List tED) (s2 s3 : Int) (s4 : List Int) (s5 s6 : Int) (s7 : tFU) (s8 : Int) (s9 s10 : List (List Bool)) (s11 : List Bool) : Prop where
of :
 ∀ (I1 : (List tED) → Int → Int → (List Int) → Int → Int → tFU → Int → q1 → q1 → (List Bool) → Prop),
 (∀ (s1 : List tED) (s2 s3 : Int) (s4 : List Int) (s5 s6 : Int) (s7 : tFU) (s8 : Int) (s9 s10 : List (List Bool)) (s11 : List Bool), (br (decide (s6 < s5))
 (need False (at? s4 s6) fun y12 =>
 br (decide (0 ≤ y12 ∧ y12 < (↑(List.length s11))))
 (need False (s11)[(Int.toNat y12)]? fun y13 =>
 I1 s1 s2 s3 s4 s5 (IntKind.wrap .i64 (s6 + 1)) s7 s8 s9 s10 (List.set s11 (Int.toNat y12) true))
 False)
 (k1 s1 s2 s3 s7 s8 s9 s10 s11)) → I1 s1 s2 s3 s4 s5 s6 s7 s8 s9 s10 s11) →
 I1 s1 s2 s3 s4 s5 s6 s7 s8 s9 s10 s11
structure l32r16v2 (k1 : tFU → Int → q1 → q1 → (List Bool) → Prop) (s1 : List tED) (s2 s3 : Int) (s4 : tFU) (s5 : Int) (s6 s7 : List (List Bool)) (s8 : List Bool) : Prop where
of :
 ∀ (I1 : (List tED) → Int → Int → tFU → Int → q1 → q1 → (List Bool) → Prop),
 (∀ (s1 : List tED) (s2 s3 : Int) (s4 : tFU) (s5 : Int) (s6 s7 : List (List Bool)) (s8 : List Bool), (br (decide (s3 < s2))
 (need False (at? s1 s3) fun y9 =>
 l32r19v2
 (fun z10 z11 z12 z13 z14 z15 z16 z17 => I1 z10 z11 (IntKind.wrap .i64 (z12 + 1)) z13 z14 z15 z16 z17)
 s1 s2 s3 y9.2.1 (↑(List.length y9.2.1)) 0 s4 s5 s6 s7 s8)
 (k1 s4 s5 s6 s7 s8)) → I1 s1 s2 s3 s4 s5 s6 s7 s8) →
 I1 s1 s2 s3 s4 s5 s6 s7 s8
structure c32v2 (x1 : Int) (x2 : tFU) (x3 : Int) (x4 x5 : List (List Bool)) (k1 : tFU → Int → q1 → q1 → (List Bool) → Prop) : Prop where
of :
 need False (at? x2.2.1 x1) fun y6 =>
 br (decide ((0 : Int) ≤ x3 ∧ (x3 : Int) ≤ x3 ∧ ((x3 * 1) : Int) ≤ 140737488355328))
 (l32r4v2
 (fun z7 z8 z9 z10 z11 z12 => br ((z11.1 : Int) != 1)
 (br ((z11.1 : Int) != 4)
 (br (decide ((0 : Int) ≤ z11.2.1 ∧ (z11.2.1 : Int) < (↑(List.length z12))))
 (need False (z12)[(Int.toNat z11.2.1)]? fun y13 =>
 l32r16v2
 (fun z14 z15 z16 z17 z18 => k1 z14 z15 z16 z17 z18)
 z11.2.2.2.2.1 (↑(List.length z11.2.2.2.2.1)) 0 z7 z8 z9 z10 (List.set z12 (Int.toNat z11.2.1) true))
 False)
 (l32r16v2
 (fun z19 z20 z21 z22 z23 => k1 z19 z20 z21 z22 z23)
 z11.2.2.2.2.1 (↑(List.length z11.2.2.2.2.1)) 0 z7 z8 z9 z10 z12))
 (l32r16v2
 (fun z24 z25 z26 z27 z28 => k1 z24 z25 z26 z27 z28)
 z11.2.2.2.2.1 (↑(List.length z11.2.2.2.2.1)) 0 z7 z8 z9 z10 z12))
 y6.2.2.1.2.2.2.2.1 (↑(List.length y6.2.2.1.2.2.2.2.1)) 0 x2 x3 x4 x5 y6.2.2.1 (List.replicate (Int.toNat x3) (false : Bool)))
 False
structure l19r12v3 (k1 : Unit → Int → tFU → Int → q1 → tBK → (List Bool) → Prop) (s1 : Unit) (s2 : Int) (s3 : List Int) (s4 s5 : Int) (s6 : tFU) (s7 : Int) (s8 : List (List Bool)) (s9 : tBK) (s10 : List Bool) : Prop where
of :
 ∀ (I1 : Unit → Int → (List Int) → Int → Int → tFU → Int → q1 → tBK → (List Bool) → Prop),
 (∀ (s1 : Unit) (s2 : Int) (s3 : List Int) (s4 s5 : Int) (s6 : tFU) (s7 : Int) (s8 : List (List Bool)) (s9 : tBK) (s10 : List Bool), (br (decide (s5 < s4))
 (need False (at? s3 s5) fun y11 =>
 br (decide (0 ≤ y11 ∧ y11 < (↑(List.length s10))))
 (need False (s10)[(Int.toNat y11)]? fun y12 =>
 I1 s1 s2 s3 s4 (IntKind.wrap .i64 (s5 + 1)) s6 s7 s8 s9 (List.set s10 (Int.toNat y11) true))
 False)
 (k1 s1 s2 s6 s7 s8 s9 s10)) → I1 s1 s2 s3 s4 s5 s6 s7 s8 s9 s10) →
 I1 s1 s2 s3 s4 s5 s6 s7 s8 s9 s10
structure l19r5v3 (k1 : tFU → Int → q1 → (List Bool) → Prop) (s1 : Unit) (s2 : Int) (s3 : tFU) (s4 : Int) (s5 : List (List Bool)) (s6 : tBK) (s7 : List Bool) : Prop where
of :
 ∀ (I1 : Unit → Int → tFU → Int → q1 → tBK → (List Bool) → Prop),
 (∀ (s1 : Unit) (s2 : Int) (s3 : tFU) (s4 : Int) (s5 : List (List Bool)) (s6 : tBK) (s7 : List Bool), (br (s2 == 0)
 (k1 s3 s4 s5 s7)
 (need False (at? s6.2.1 (IntKind.wrap .i64 (s2 - 1))) fun y8 =>
 br (decide ((0 : Int) ≤ y8.1 ∧ (y8.1 : Int) < (↑(List.length s7))))
 (need False (s7)[(Int.toNat y8.1)]? fun y9 =>
 l19r12v3
 (fun z10 z11 z12 z13 z14 z15 z16 => I1 z10 (IntKind.wrap .i64 (z11 - 1)) z12 z13 z14 z15 z16)
 s1 s2 y8.2.2.2.1 (↑(List.length y8.2.2.2.1)) 0 s3 s4 s5 s6 (List.set s7 (Int.toNat y8.1) false))
 False)) → I1 s1 s2 s3 s4 s5 s6 s7) →
 I1 s1 s2 s3 s4 s5 s6 s7
structure c19v3 (x1 : Int) (x2 : Unit) (x3 : tFU) (x4 : Int) (x5 : List (List Bool)) (k1 : tFU → Int → q1 → (List Bool) → Prop) : Prop where
of :
 need False (at? x3.2.1 x1) fun y6 =>
 br (decide (0 ≤ x1 ∧ x1 < (↑(List.length x5))))
 (need False (x5)[(Int.toNat x1)]? fun y7 =>
 need False (x5)[(Int.toNat x1)]? fun y8 =>
 c34 y8
 (fun z9 => l19r5v3
 (fun z10 z11 z12 z13 => k1 z10 z11 z12 z13)
 x2 (↑(List.length y6.2.1)) x3 x4 (List.set x5 (Int.toNat x1) y8) y6 z9))
 False
structure l18r10v2 (k1 : Bool → tFU → tFU → Int → q1 → q1 → Prop) (s1 : Bool) (s2 : Int) (s3 s4 : tFU) (s5 : Int) (s6 s7 : List (List Bool)) : Prop where
of :
 ∀ (I1 : Bool → Int → tFU → tFU → Int → q1 → q1 → Prop),
 (∀ (s1 : Bool) (s2 : Int) (s3 s4 : tFU) (s5 : Int) (s6 s7 : List (List Bool)), (br (decide (s2 ≥ 0))
 (c32v2 s2 s4 s5 s6 s7
 (fun z8 z9 z10 z11 z12 => br (decide (0 ≤ s2 ∧ s2 < (↑(List.length z10))))
 (need False (z10)[(Int.toNat s2)]? fun y13 =>
 need False (z10)[(Int.toNat s2)]? fun y14 =>
 br (List.isEmpty y14)
 ((br (decide (0 ≤ s2 ∧ s2 < (↑(List.length (List.set z10 (Int.toNat s2) y14)))))
 (need False ((List.set z10 (Int.toNat s2) y14))[(Int.toNat s2)]? fun y15 =>
 c19v3 s2 () z8 z9 (List.set (List.set z10 (Int.toNat s2) y14) (Int.toNat s2) z12)
 (fun z16 z17 z18 z19 => br (decide (0 ≤ s2 ∧ s2 < (↑(List.length z11))))
 (need False (z11)[(Int.toNat s2)]? fun y20 =>
 I1 true (IntKind.wrap .i64 (s2 - 1)) s3 z16 z17 z18 (List.set z11 (Int.toNat s2) z19))
 False))
 False) ∧
 (br (decide (0 ≤ s2 ∧ s2 < (↑(List.length z10))))
 (need False (z10)[(Int.toNat s2)]? fun y21 =>
 br (decide ((Int.toNat s2) = (Int.toNat s2)))
 (c33 z12 y14
 (fun z22 => br (z22)
 (I1 s1 (IntKind.wrap .i64 (s2 - 1)) s3 z8 z9 (List.set z10 (Int.toNat s2) y14) z11)
 (br (decide (0 ≤ s2 ∧ s2 < (↑(List.length (List.set z10 (Int.toNat s2) y14)))))
 (need False ((List.set z10 (Int.toNat s2) y14))[(Int.toNat s2)]? fun y23 =>
 c19v3 s2 () z8 z9 (List.set (List.set z10 (Int.toNat s2) y14) (Int.toNat s2) z12)
 (fun z24 z25 z26 z27 => br (decide (0 ≤ s2 ∧ s2 < (↑(List.length z11))))
 (need False (z11)[(Int.toNat s2)]? fun y28 =>
 I1 true (IntKind.wrap .i64 (s2 - 1)) s3 z24 z25 z26 (List.set z11 (Int.toNat s2) z27))
 False))
 False)))
 (need False (z10)[(Int.toNat s2)]? fun y29 =>
 c33 z12 y29
 (fun z30 => br (z30)
 (I1 s1 (IntKind.wrap .i64 (s2 - 1)) s3 z8 z9 (List.set (List.set z10 (Int.toNat s2) y29) (Int.toNat s2) y14) z11)
 (br (decide (0 ≤ s2 ∧ s2 < (↑(List.length (List.set (List.set z10 (Int.toNat s2) y29) (Int.toNat s2) y14)))))
 (need False ((List.set (List.set z10 (Int.toNat s2) y29) (Int.toNat s2) y14))[(Int.toNat s2)]? fun y31 =>
 c19v3 s2 () z8 z9 (List.set (List.set (List.set z10 (Int.toNat s2) y29) (Int.toNat s2) y14) (Int.toNat s2) z12)
 (fun z32 z33 z34 z35 => br (decide (0 ≤ s2 ∧ s2 < (↑(List.length z11))))
 (need False (z11)[(Int.toNat s2)]? fun y36 =>
 I1 true (IntKind.wrap .i64 (s2 - 1)) s3 z32 z33 z34 (List.set z11 (Int.toNat s2) z35))
 False))
 False))))
 False))
 (br (decide (0 ≤ s2 ∧ s2 < (↑(List.length z10))))
 (need False (z10)[(Int.toNat s2)]? fun y37 =>
 br (decide ((Int.toNat s2) = (Int.toNat s2)))
 (c33 z12 y14
 (fun z38 => br (z38)
 (I1 s1 (IntKind.wrap .i64 (s2 - 1)) s3 z8 z9 (List.set z10 (Int.toNat s2) y14) z11)
 (br (decide (0 ≤ s2 ∧ s2 < (↑(List.length (List.set z10 (Int.toNat s2) y14)))))
 (need False ((List.set z10 (Int.toNat s2) y14))[(Int.toNat s2)]? fun y39 =>
 c19v3 s2 () z8 z9 (List.set (List.set z10 (Int.toNat s2) y14) (Int.toNat s2) z12)
 (fun z40 z41 z42 z43 => br (decide (0 ≤ s2 ∧ s2 < (↑(List.length z11))))
 (need False (z11)[(Int.toNat s2)]? fun y44 =>
 I1 true (IntKind.wrap .i64 (s2 - 1)) s3 z40 z41 z42 (List.set z11 (Int.toNat s2) z43))
 False))
 False)))
 (need False (z10)[(Int.toNat s2)]? fun y45 =>
 c33 z12 y45
 (fun z46 => br (z46)
 (I1 s1 (IntKind.wrap .i64 (s2 - 1)) s3 z8 z9 (List.set (List.set z10 (Int.toNat s2) y45) (Int.toNat s2) y14) z11)
 (br (decide (0 ≤ s2 ∧ s2 < (↑(List.length (List.set (List.set z10 (Int.toNat s2) y45) (Int.toNat s2) y14)))))
 (need False ((List.set (List.set z10 (Int.toNat s2) y45) (Int.toNat s2) y14))[(Int.toNat s2)]? fun y47 =>
 c19v3 s2 () z8 z9 (List.set (List.set (List.set z10 (Int.toNat s2) y45) (Int.toNat s2) y14) (Int.toNat s2) z12)
 (fun z48 z49 z50 z51 => br (decide (0 ≤ s2 ∧ s2 < (↑(List.length z11))))
 (need False (z11)[(Int.toNat s2)]? fun y52 =>
 I1 true (IntKind.wrap .i64 (s2 - 1)) s3 z48 z49 z50 (List.set z11 (Int.toNat s2) z51))
 False))
 False))))
 False))
 False))
 (k1 s1 s3 s4 s5 s6 s7)) → I1 s1 s2 s3 s4 s5 s6 s7) →
 I1 s1 s2 s3 s4 s5 s6 s7
structure l18r7v2 (k1 : tFU → Int → q1 → q1 → Prop) (s1 : Bool) (s2 s3 : tFU) (s4 : Int) (s5 s6 : List (List Bool)) : Prop where
of :
 ∀ (I1 : Bool → tFU → tFU → Int → q1 → q1 → Prop),
 (∀ (s1 : Bool) (s2 s3 : tFU) (s4 : Int) (s5 s6 : List (List Bool)), (br (s1)
 (l18r10v2
 (fun z7 z8 z9 z10 z11 z12 => I1 z7 z8 z9 z10 z11 z12)
 false (IntKind.wrap .i64 ((↑(List.length s2.2.1)) - 1)) s2 s3 s4 s5 s6)
 (k1 s3 s4 s5 s6)) → I1 s1 s2 s3 s4 s5 s6) →
 I1 s1 s2 s3 s4 s5 s6
structure c18v2 (x1 : tFU) (k1 : Unit → Int → q1 → Prop) (k2 : Int → tFU → Int → q1 → q1 → Prop) : Prop where
of :
 c30 x1
 (fun z2 => br (z2 != 0)
 (k1 () z2 [])
 ((c31 x1
 (fun z3 => br (eqT (.pair (.int .i64) (.pair (.sl (.pair (.sl (.int .i64)) (.pair (.sl (.pair (.int .i64) (.pair (.int .i64) (.pair (.int .i64) (.pair (.sl (.int .i64)) .unit))))) (.pair (.pair (.int .i64) (.pair (.int .i64) (.pair (.int .i64) (.pair (.sl (.int .i64)) (.pair (.sl (.pair (.int .i64) (.pair (.sl (.int .i64)) .unit))) .unit))))) .unit)))) .unit)) x1 x1)
 (br (true && true)
 (br (eqT (.sl (.pair (.sl (.int .i64)) (.pair (.sl (.pair (.int .i64) (.pair (.int .i64) (.pair (.int .i64) (.pair (.sl (.int .i64)) .unit))))) (.pair (.pair (.int .i64) (.pair (.int .i64) (.pair (.int .i64) (.pair (.sl (.int .i64)) (.pair (.sl (.pair (.int .i64) (.pair (.sl (.int .i64)) .unit))) .unit))))) .unit)))) x1.2.1 x1.2.1)
 (br (eqT (.int .i64) (((List.length x1.2.1) : Nat) : Int) (((List.length x1.2.1) : Nat) : Int))
 (br (decide ((((List.length x1.2.1) : Nat) : Int) = (((List.length x1.2.1) : Nat) : Int)))
 (br (decide ((0 : Int) ≤ (↑(List.length x1.2.1)) ∧ ((↑(List.length x1.2.1)) : Int) ≤ (↑(List.length x1.2.1)) ∧ (((↑(List.length x1.2.1)) * 24) : Int) ≤ 140737488355328))
 (br (eqT (.pair (.int .i64) (.pair (.sl (.pair (.sl (.int .i64)) (.pair (.sl (.pair (.int .i64) (.pair (.int .i64) (.pair (.int .i64) (.pair (.sl (.int .i64)) .unit))))) (.pair (.pair (.int .i64) (.pair (.int .i64) (.pair (.int .i64) (.pair (.sl (.int .i64)) (.pair (.sl (.pair (.int .i64) (.pair (.sl (.int .i64)) .unit))) .unit))))) .unit)))) .unit)) x1 x1)
 (br (eqT (.int .i64) (IntKind.wrap .i64 (z3 + 1)) (IntKind.wrap .i64 (z3 + 1)))
 (br (decide ((((List.length x1.2.1) : Nat) : Int) = (((List.length x1.2.1) : Nat) : Int)))
 (br (decide ((0 : Int) ≤ (↑(List.length x1.2.1)) ∧ ((↑(List.length x1.2.1)) : Int) ≤ (↑(List.length x1.2.1)) ∧ (((↑(List.length x1.2.1)) * 24) : Int) ≤ 140737488355328))
 (l18r7v2
 (fun z4 z5 z6 z7 => k2 0 z4 z5 z6 z7)
 true x1 x1 (IntKind.wrap .i64 (z3 + 1)) (List.replicate (Int.toNat (↑(List.length x1.2.1))) ([] : List (Bool))) (List.replicate (Int.toNat (↑(List.length x1.2.1))) ([] : List (Bool))))
 False)
 False)
 False)
 False)
 False)
 False)
 False)
 False)
 False)
 False)) ∧
 (br (decide ((((List.length x1.2.1) : Nat) : Int) = (((List.length x1.2.1) : Nat) : Int)))
 (br (decide ((0 : Int) ≤ (↑(List.length x1.2.1)) ∧ ((↑(List.length x1.2.1)) : Int) ≤ (↑(List.length x1.2.1)) ∧ (((↑(List.length x1.2.1)) * 24) : Int) ≤ 140737488355328))
 (br (eqT (.pair (.int .i64) (.pair (.sl (.pair (.sl (.int .i64)) (.pair (.sl (.pair (.int .i64) (.pair (.int .i64) (.pair (.int .i64) (.pair (.sl (.int .i64)) .unit))))) (.pair (.pair (.int .i64) (.pair (.int .i64) (.pair (.int .i64) (.pair (.sl (.int .i64)) (.pair (.sl (.pair (.int .i64) (.pair (.sl (.int .i64)) .unit))) .unit))))) .unit)))) .unit)) x1 x1)
 (br (eqT (.pair (.int .i64) (.pair (.sl (.pair (.sl (.int .i64)) (.pair (.sl (.pair (.int .i64) (.pair (.int .i64) (.pair (.int .i64) (.pair (.sl (.int .i64)) .unit))))) (.pair (.pair (.int .i64) (.pair (.int .i64) (.pair (.int .i64) (.pair (.sl (.int .i64)) (.pair (.sl (.pair (.int .i64) (.pair (.sl (.int .i64)) .unit))) .unit))))) .unit)))) .unit)) x1 x1)
 (c31 x1
 (fun z8 => br (eqT (.pair (.int .i64) (.pair (.sl (.pair (.sl (.int .i64)) (.pair (.sl (.pair (.int .i64) (.pair (.int .i64) (.pair (.int .i64) (.pair (.sl (.int .i64)) .unit))))) (.pair (.pair (.int .i64) (.pair (.int .i64) (.pair (.int .i64) (.pair (.sl (.int .i64)) (.pair (.sl (.pair (.int .i64) (.pair (.sl (.int .i64)) .unit))) .unit))))) .unit)))) .unit)) x1 x1)
 (br (decide ((((List.length x1.2.1) : Nat) : Int) = (((List.length x1.2.1) : Nat) : Int)))
 (br (decide ((0 : Int) ≤ (↑(List.length x1.2.1)) ∧ ((↑(List.length x1.2.1)) : Int) ≤ (↑(List.length x1.2.1)) ∧ (((↑(List.length x1.2.1)) * 24) : Int) ≤ 140737488355328))
 (l18r7v2
 (fun z9 z10 z11 z12 => k2 0 z9 z10 z11 z12)
 true x1 x1 (IntKind.wrap .i64 (z8 + 1)) (List.replicate (Int.toNat (↑(List.length x1.2.1))) ([] : List (Bool))) (List.replicate (Int.toNat (↑(List.length x1.2.1))) ([] : List (Bool))))
 False)
 False)
 False))
 False)
 False)
 False)
 False)))
structure l19r12v4 (k1 : Int → tFU → Int → q1 → (List (List q0)) → Int → tBK → (List Bool) → Prop) (s1 : Int) (s2 : List Int) (s3 s4 : Int) (s5 : tFU) (s6 : Int) (s7 : List (List Bool)) (s8 : List (List q0)) (s9 : Int) (s10 : tBK) (s11 : List Bool) : Prop where
of :
 ∀ (I1 : Int → (List Int) → Int → Int → tFU → Int → q1 → (List (List q0)) → Int → tBK → (List Bool) → Prop),
 (∀ (s1 : Int) (s2 : List Int) (s3 s4 : Int) (s5 : tFU) (s6 : Int) (s7 : List (List Bool)) (s8 : List (List q0)) (s9 : Int) (s10 : tBK) (s11 : List Bool), (br (decide (s4 < s3))
 (need False (at? s2 s4) fun y12 =>
 br (decide (0 ≤ y12 ∧ y12 < (↑(List.length s11))))
 (need False (s11)[(Int.toNat y12)]? fun y13 =>
 I1 s1 s2 s3 (IntKind.wrap .i64 (s4 + 1)) s5 s6 s7 s8 s9 s10 (List.set s11 (Int.toNat y12) true))
 False)
 (k1 s1 s5 s6 s7 s8 s9 s10 s11)) → I1 s1 s2 s3 s4 s5 s6 s7 s8 s9 s10 s11) →
 I1 s1 s2 s3 s4 s5 s6 s7 s8 s9 s10 s11
structure l19r5v4 (k1 : tFU → Int → q1 → (List (List q0)) → Int → (List Bool) → Prop) (s1 : Int) (s2 : tFU) (s3 : Int) (s4 : List (List Bool)) (s5 : List (List q0)) (s6 : Int) (s7 : tBK) (s8 : List Bool) : Prop where
of :
 ∀ (I1 : Int → tFU → Int → q1 → (List (List q0)) → Int → tBK → (List Bool) → Prop),
 (∀ (s1 : Int) (s2 : tFU) (s3 : Int) (s4 : List (List Bool)) (s5 : List (List q0)) (s6 : Int) (s7 : tBK) (s8 : List Bool), (c20 s1 s8 s5 s6
 (fun z9 z10 => br (s1 == 0)
 (k1 s2 s3 s4 z9 z10 s8)
 (need False (at? s7.2.1 (IntKind.wrap .i64 (s1 - 1))) fun y11 =>
 br (decide ((0 : Int) ≤ y11.1 ∧ (y11.1 : Int) < (↑(List.length s8))))
 (need False (s8)[(Int.toNat y11.1)]? fun y12 =>
 l19r12v4
 (fun z13 z14 z15 z16 z17 z18 z19 z20 => I1 (IntKind.wrap .i64 (z13 - 1)) z14 z15 z16 z17 z18 z19 z20)
 s1 y11.2.2.2.1 (↑(List.length y11.2.2.2.1)) 0 s2 s3 s4 z9 z10 s7 (List.set s8 (Int.toNat y11.1) false))
 False))) → I1 s1 s2 s3 s4 s5 s6 s7 s8) →
 I1 s1 s2 s3 s4 s5 s6 s7 s8
structure c19v4 (x1 : Int) (x2 : tFU) (x3 : Int) (x4 : List (List Bool)) (x5 : List (List q0)) (x6 : Int) (k1 : tFU → Int → q1 → (List (List q0)) → Int → (List Bool) → Prop) : Prop where
of :
 need False (at? x2.2.1 x1) fun y7 =>
 br (decide (0 ≤ x1 ∧ x1 < (↑(List.length x4))))
 (need False (x4)[(Int.toNat x1)]? fun y8 =>
 need False (x4)[(Int.toNat x1)]? fun y9 =>
 c34 y9
 (fun z10 => l19r5v4
 (fun z11 z12 z13 z14 z15 z16 => k1 z11 z12 z13 z14 z15 z16)
 (↑(List.length y7.2.1)) x2 x3 (List.set x4 (Int.toNat x1) y9) x5 x6 y7 z10))
 False
structure l8r6v2 (k1 : (List (List q0)) → Prop) (s1 s2 : Int) (s3 : tFU) (s4 : Int) (s5 : List (List Bool)) (s6 : List (List q0)) : Prop where
of :
 ∀ (I1 : Int → Int → tFU → Int → q1 → (List (List q0)) → Prop),
 (∀ (s1 s2 : Int) (s3 : tFU) (s4 : Int) (s5 : List (List Bool)) (s6 : List (List q0)), (br (decide (s2 < s1))
 (c19v4 s2 s3 s4 s5 s6 s2
 (fun z7 z8 z9 z10 z11 z12 => I1 s1 (IntKind.wrap .i64 (s2 + 1)) z7 z8 z9 z10))
 (k1 s6)) → I1 s1 s2 s3 s4 s5 s6) →
 I1 s1 s2 s3 s4 s5 s6
structure c8v2 (x1 : tFU) (k1 : Int → (List q0) → Prop) (k2 : Nat → Nat → Nat → Int → (List q0) → Prop) : Prop where
of :
 c18v2 x1
 (fun z2 z3 z4 => br (z3 != 0)
 (k1 z3 [])
 False)
 (fun z5 z6 z7 z8 z9 => br (z5 != 0)
 (k1 z5 [])
 (br (decide (z7 = z7))
 (br (decide ((0 : Int) ≤ z7 ∧ (z7 : Int) ≤ z7 ∧ ((z7 * 24) : Int) ≤ 140737488355328))
 (l8r6v2
 (fun z10 => c22 z10
 (fun z11 z12 z13 z14 z15 => k2 z11 z12 z13 0 z15)
 (fun z16 z17 => k1 0 z17))
 (↑(List.length x1.2.1)) 0 z6 z7 z8 (List.replicate (Int.toNat z7) ([] : List ((Int) × (Int) × (Int) × (Int) × Unit))))
 False)
 False))
structure c19v5 (x1 : Unit) (x2 x3 : Int) : Prop where
of :
 False
structure l9r6 (k1 : Int → Prop) (s1 : Unit) (s2 s3 s4 : Int) : Prop where
of :
 ∀ (I1 : Unit → Int → Int → Int → Prop),
 (∀ (s1 : Unit) (s2 s3 s4 : Int), (br (decide (s3 < s2))
 (c19v5 s1 s3 s4)
 (k1 s4)) → I1 s1 s2 s3 s4) →
 I1 s1 s2 s3 s4
structure c23 (x1 : Int) (x2 : List Bool) (x3 : Int) (k1 : Int → Prop) : Prop where
of :
 c21 x2
 (fun z4 => br (eqT (.int .i64) x3 x3)
 (k1 (maxI x3 (↑(List.length z4))))
 False)
structure l19r12v5 (k1 : Int → tFU → Int → q1 → Int → tBK → (List Bool) → Prop) (s1 : Int) (s2 : List Int) (s3 s4 : Int) (s5 : tFU) (s6 : Int) (s7 : List (List Bool)) (s8 : Int) (s9 : tBK) (s10 : List Bool) : Prop where
of :
 ∀ (I1 : Int → (List Int) → Int → Int → tFU → Int → q1 → Int → tBK → (List Bool) → Prop),
 (∀ (s1 : Int) (s2 : List Int) (s3 s4 : Int) (s5 : tFU) (s6 : Int) (s7 : List (List Bool)) (s8 : Int) (s9 : tBK) (s10 : List Bool), (br (decide (s4 < s3))
 (need False (at? s2 s4) fun y11 =>
 br (decide (0 ≤ y11 ∧ y11 < (↑(List.length s10))))
 (need False (s10)[(Int.toNat y11)]? fun y12 =>
 I1 s1 s2 s3 (IntKind.wrap .i64 (s4 + 1)) s5 s6 s7 s8 s9 (List.set s10 (Int.toNat y11) true))
 False)
 (k1 s1 s5 s6 s7 s8 s9 s10)) → I1 s1 s2 s3 s4 s5 s6 s7 s8 s9 s10) →
 I1 s1 s2 s3 s4 s5 s6 s7 s8 s9 s10
structure l19r5v5 (k1 : tFU → Int → q1 → Int → (List Bool) → Prop) (s1 : Int) (s2 : tFU) (s3 : Int) (s4 : List (List Bool)) (s5 : Int) (s6 : tBK) (s7 : List Bool) : Prop where
of :
 ∀ (I1 : Int → tFU → Int → q1 → Int → tBK → (List Bool) → Prop),
 (∀ (s1 : Int) (s2 : tFU) (s3 : Int) (s4 : List (List Bool)) (s5 : Int) (s6 : tBK) (s7 : List Bool), (c23 s1 s7 s5
 (fun z8 => br (s1 == 0)
 (k1 s2 s3 s4 z8 s7)
 (need False (at? s6.2.1 (IntKind.wrap .i64 (s1 - 1))) fun y9 =>
 br (decide ((0 : Int) ≤ y9.1 ∧ (y9.1 : Int) < (↑(List.length s7))))
 (need False (s7)[(Int.toNat y9.1)]? fun y10 =>
 l19r12v5
 (fun z11 z12 z13 z14 z15 z16 z17 => I1 (IntKind.wrap .i64 (z11 - 1)) z12 z13 z14 z15 z16 z17)
 s1 y9.2.2.2.1 (↑(List.length y9.2.2.2.1)) 0 s2 s3 s4 z8 s6 (List.set s7 (Int.toNat y9.1) false))
 False))) → I1 s1 s2 s3 s4 s5 s6 s7) →
 I1 s1 s2 s3 s4 s5 s6 s7
structure c19v6 (x1 : Int) (x2 : tFU) (x3 : Int) (x4 : List (List Bool)) (x5 : Int) (k1 : tFU → Int → q1 → Int → (List Bool) → Prop) : Prop where
of :
 need False (at? x2.2.1 x1) fun y6 =>
 br (decide (0 ≤ x1 ∧ x1 < (↑(List.length x4))))
 (need False (x4)[(Int.toNat x1)]? fun y7 =>
 need False (x4)[(Int.toNat x1)]? fun y8 =>
 c34 y8
 (fun z9 => l19r5v5
 (fun z10 z11 z12 z13 z14 => k1 z10 z11 z12 z13 z14)
 (↑(List.length y6.2.1)) x2 x3 (List.set x4 (Int.toNat x1) y8) x5 y6 z9))
 False
structure l9r6v2 (k1 : Int → Prop) (s1 s2 : Int) (s3 : tFU) (s4 : Int) (s5 : List (List Bool)) (s6 : Int) : Prop where
of :
 ∀ (I1 : Int → Int → tFU → Int → q1 → Int → Prop),
 (∀ (s1 s2 : Int) (s3 : tFU) (s4 : Int) (s5 : List (List Bool)) (s6 : Int), (br (decide (s2 < s1))
 (c19v6 s2 s3 s4 s5 s6
 (fun z7 z8 z9 z10 z11 => I1 s1 (IntKind.wrap .i64 (s2 + 1)) z7 z8 z9 z10))
 (k1 s6)) → I1 s1 s2 s3 s4 s5 s6) →
 I1 s1 s2 s3 s4 s5 s6
structure c9 (x1 : tFU) (k1 : Int → Int → Prop) : Prop where
of :
 c18v2 x1
 (fun z2 z3 z4 => br (z3 != 0)
 (k1 0 z3)
 (l9r6
 (fun z5 => k1 z5 0)
 z2 (↑(List.length x1.2.1)) 0 0))
 (fun z6 z7 z8 z9 z10 => br (z6 != 0)
 (k1 0 z6)
 (l9r6v2
 (fun z11 => k1 z11 0)
 (↑(List.length x1.2.1)) 0 z7 z8 z9 0))
structure l10r9 (k1 : Bool → Prop) (k2 : Int → Nat → Nat → Nat → Bool → tFU → (List Bool) → (List (Int × Int × Unit)) → tBK → Prop) (s1 : Int) (s2 s3 s4 : Nat) (s5 : Bool) (s6 : Int) (s7 : tFU) (s8 : List Bool) (s9 : List (Int × Int × Unit)) (s10 : tBK) : Prop where
of :
 ∀ (I1 : Int → Nat → Nat → Nat → Bool → Int → tFU → (List Bool) → (List (Int × Int × Unit)) → tBK → Prop),
 (∀ (s1 : Int) (s2 s3 s4 : Nat) (s5 : Bool) (s6 : Int) (s7 : tFU) (s8 : List Bool) (s9 : List (Int × Int × Unit)) (s10 : tBK), (br (decide (s6 < (↑(List.length s10.2.1))))
 (br (!s5)
 (need False (at? s10.2.1 s6) fun y11 =>
 c24 y11.2.2.2.1 s1
 (fun z12 => br (z12)
 (k1 true)
 (need False (at? s10.2.1 s6) fun y13 =>
 I1 s1 s2 s3 s4 ((y13.1 : Int) == s1) (IntKind.wrap .i64 (s6 + 1)) s7 s8 s9 s10)))
 (k2 s1 s2 s3 s4 s5 s7 s8 s9 s10))
 (k2 s1 s2 s3 s4 s5 s7 s8 s9 s10)) → I1 s1 s2 s3 s4 s5 s6 s7 s8 s9 s10) →
 I1 s1 s2 s3 s4 s5 s6 s7 s8 s9 s10
structure l10r18 (k1 : Int → Nat → Nat → Nat → tFU → (List Bool) → (List (Int × Int × Unit)) → Prop) (k2 : Int → tFU → (List Bool) → (List (Int × Int × Unit)) → Prop) (s1 : Int) (s2 s3 s4 : Nat) (s5 : List tED) (s6 s7 : Int) (s8 : tFU) (s9 : List Bool) (s10 : List (Int × Int × Unit)) : Prop where
of :
 ∀ (I1 : Int → Nat → Nat → Nat → (List tED) → Int → Int → tFU → (List Bool) → (List (Int × Int × Unit)) → Prop) (I2 : Int → (List tED) → Int → Int → tFU → (List Bool) → (List (Int × Int × Unit)) → Prop),
 (∀ (s1 : Int) (s2 s3 s4 : Nat) (s5 : List tED) (s6 s7 : Int) (s8 : tFU) (s9 : List Bool) (s10 : List (Int × Int × Unit)), (br (decide (s7 < s6))
 (need False (at? s5 s7) fun y11 =>
 br (decide ((0 : Int) ≤ y11.1 ∧ (y11.1 : Int) < (↑(List.length s9))))
 (need False (s9)[(Int.toNat y11.1)]? fun y12 =>
 br (!y12)
 (need False (at? s8.2.1 y11.1) fun y13 =>
 c24 y13.1 s1
 (fun z14 => br (!z14)
 (br (decide ((0 : Int) ≤ y11.1 ∧ (y11.1 : Int) < (↑(List.length s9))))
 (need False (s9)[(Int.toNat y11.1)]? fun y15 =>
 br (decide ((s3 + 1) ≤ s4))
 (I1 s1 s2 (s3 + 1) s4 s5 s6 (IntKind.wrap .i64 (s7 + 1)) s8 (List.set s9 (Int.toNat y11.1) true) (((List.take (s2 + s3) s10) ++ [(y11.1, 0, ())]) ++ (List.drop ((s2 + s3) + 1) s10)))
 (br (roomB (s3 + 1) 16)
 (br (decide (s2 = 0))
 (I2 s1 s5 s6 (IntKind.wrap .i64 (s7 + 1)) s8 (List.set s9 (Int.toNat y11.1) true) ((List.take s3 s10) ++ [(y11.1, 0, ())]))
 ((I2 s1 s5 s6 (IntKind.wrap .i64 (s7 + 1)) s8 (List.set s9 (Int.toNat y11.1) true) ((List.take s3 (List.drop s2 s10)) ++ [(y11.1, 0, ())])) ∧
 (I1 s1 s2 (s3 + 1) (s3 + 1) s5 s6 (IntKind.wrap .i64 (s7 + 1)) s8 (List.set s9 (Int.toNat y11.1) true) ((List.take (s2 + s3) s10) ++ [(y11.1, 0, ())]))))
 False))
 False)
 (I1 s1 s2 s3 s4 s5 s6 (IntKind.wrap .i64 (s7 + 1)) s8 s9 s10)))
 (I1 s1 s2 s3 s4 s5 s6 (IntKind.wrap .i64 (s7 + 1)) s8 s9 s10))
 False)
 (k1 s1 s2 s3 s4 s8 s9 s10)) → I1 s1 s2 s3 s4 s5 s6 s7 s8 s9 s10) →
 (∀ (s16 : Int) (s17 : List tED) (s18 s19 : Int) (s20 : tFU) (s21 : List Bool) (s22 : List (Int × Int × Unit)), (br (decide (s19 < s18))
 (need False (at? s17 s19) fun y23 =>
 br (decide ((0 : Int) ≤ y23.1 ∧ (y23.1 : Int) < (↑(List.length s21))))
 (need False (s21)[(Int.toNat y23.1)]? fun y24 =>
 br (!y24)
 (need False (at? s20.2.1 y23.1) fun y25 =>
 c24 y25.1 s16
 (fun z26 => br (!z26)
 (br (decide ((0 : Int) ≤ y23.1 ∧ (y23.1 : Int) < (↑(List.length s21))))
 (need False (s21)[(Int.toNat y23.1)]? fun y27 =>
 br (roomB ((List.length s22) + 1) 16)
 (I2 s16 s17 s18 (IntKind.wrap .i64 (s19 + 1)) s20 (List.set s21 (Int.toNat y23.1) true) (s22 ++ [(y23.1, 0, ())]))
 False)
 False)
 (I2 s16 s17 s18 (IntKind.wrap .i64 (s19 + 1)) s20 s21 s22)))
 (I2 s16 s17 s18 (IntKind.wrap .i64 (s19 + 1)) s20 s21 s22))
 False)
 (k2 s16 s20 s21 s22)) → I2 s16 s17 s18 s19 s20 s21 s22) →
 I1 s1 s2 s3 s4 s5 s6 s7 s8 s9 s10
structure l10r3 (k1 : Bool → Prop) (k2 : Prop) (s1 : Int) (s2 : tFU) (s3 : List Bool) (s4 : List (Int × Int × Unit)) : Prop where
of :
 ∀ (I1 : Int → tFU → (List Bool) → (List (Int × Int × Unit)) → Prop) (I2 : Int → Nat → Nat → Nat → tFU → (List Bool) → (List (Int × Int × Unit)) → Prop),
 (∀ (s1 : Int) (s2 : tFU) (s3 : List Bool) (s4 : List (Int × Int × Unit)), (br (decide (((↑(List.length s4)) : Int) > 0))
 (br (decide ((0 : Int) ≤ (IntKind.wrap .i64 ((↑(List.length s4)) - 1)) ∧ ((IntKind.wrap .i64 ((↑(List.length s4)) - 1)) : Int) < (↑(List.length s4))))
 (need False (s4)[(Int.toNat (IntKind.wrap .i64 ((↑(List.length s4)) - 1)))]? fun y5 =>
 br (decide ((0 : Int) ≤ 0 ∧ (0 : Int) ≤ (IntKind.wrap .i64 ((↑(List.length s4)) - 1)) ∧ ((IntKind.wrap .i64 ((↑(List.length s4)) - 1)) : Int) ≤ (↑(List.length s4)) ∧ ((↑(List.length s4)) : Int) ≤ (↑(List.length s4))))
 (need False (at? s2.2.1 y5.1) fun y6 =>
 l10r9
 (fun z7 => k1 z7)
 (fun z8 z9 z10 z11 z12 z13 z14 z15 z16 => br (z12)
 (I2 z8 z9 z10 z11 z13 z14 z15)
 (c17 z16.2.2.1
 (fun z17 => c24 z17 z8
 (fun z18 => br (z18)
 (k1 true)
 (l10r18
 (fun z19 z20 z21 z22 z23 z24 z25 => I2 z19 z20 z21 z22 z23 z24 z25)
 (fun z26 z27 z28 z29 => I1 z26 z27 z28 z29)
 z8 z9 z10 z11 z16.2.2.1.2.2.2.2.1 (↑(List.length z16.2.2.1.2.2.2.2.1)) 0 z13 z14 z15)))))
 s1 0 (Int.toNat ((IntKind.wrap .i64 ((↑(List.length s4)) - 1)) - 0)) (Int.toNat ((↑(List.length s4)) - 0)) false y5.2.1 s2 s3 s4 y6)
 False)
 False)
 (k2)) → I1 s1 s2 s3 s4) →
 (∀ (s30 : Int) (s31 s32 s33 : Nat) (s34 : tFU) (s35 : List Bool) (s36 : List (Int × Int × Unit)), (br (decide ((((s32 : Nat) : Int) : Int) > 0))
 (br (decide ((0 : Int) ≤ (IntKind.wrap .i64 (((s32 : Nat) : Int) - 1)) ∧ ((IntKind.wrap .i64 (((s32 : Nat) : Int) - 1)) : Int) < ((s32 : Nat) : Int)))
 (need False (s36)[(s31 + (Int.toNat (IntKind.wrap .i64 (((s32 : Nat) : Int) - 1))))]? fun y37 =>
 br (decide ((0 : Int) ≤ 0 ∧ (0 : Int) ≤ (IntKind.wrap .i64 (((s32 : Nat) : Int) - 1)) ∧ ((IntKind.wrap .i64 (((s32 : Nat) : Int) - 1)) : Int) ≤ ((s33 : Nat) : Int) ∧ (((s33 : Nat) : Int) : Int) ≤ ((s33 : Nat) : Int)))
 (need False (at? s34.2.1 y37.1) fun y38 =>
 l10r9
 (fun z39 => k1 z39)
 (fun z40 z41 z42 z43 z44 z45 z46 z47 z48 => br (z44)
 (I2 z40 z41 z42 z43 z45 z46 z47)
 (c17 z48.2.2.1
 (fun z49 => c24 z49 z40
 (fun z50 => br (z50)
 (k1 true)
 (l10r18
 (fun z51 z52 z53 z54 z55 z56 z57 => I2 z51 z52 z53 z54 z55 z56 z57)
 (fun z58 z59 z60 z61 => I1 z58 z59 z60 z61)
 z40 z41 z42 z43 z48.2.2.1.2.2.2.2.1 (↑(List.length z48.2.2.1.2.2.2.2.1)) 0 z45 z46 z47)))))
 s30 (s31 + 0) (Int.toNat ((IntKind.wrap .i64 (((s32 : Nat) : Int) - 1)) - 0)) (Int.toNat (((s33 : Nat) : Int) - 0)) false y37.2.1 s34 s35 s36 y38)
 False)
 False)
 (k2)) → I2 s30 s31 s32 s33 s34 s35 s36) →
 I1 s1 s2 s3 s4
structure c10 (x1 : tFU) (x2 x3 x4 : Int) (k1 : Bool → Prop) : Prop where
of :
 br (decide ((0 : Int) ≤ (↑(List.length x1.2.1)) ∧ ((↑(List.length x1.2.1)) : Int) ≤ (↑(List.length x1.2.1)) ∧ (((↑(List.length x1.2.1)) * 1) : Int) ≤ 140737488355328))
 (l10r3
 (fun z5 => k1 z5)
 (k1 false)
 x2 x1 (List.replicate (Int.toNat (↑(List.length x1.2.1))) (false : Bool)) [(x3, x4, ())])
 False
structure l3r16 (k1 : Int → Int → Int → Int → Int → Int → Int → Int → Int → Int → Int → (List tBK) → Int → Int → tFU → (List q0) → Prop) (s1 s2 s3 s4 s5 s6 s7 s8 s9 s10 s11 s12 : Int) (s13 : List tBK) (s14 s15 : Int) (s16 : tFU) (s17 : List q0) (s18 : tBK) : Prop where
of :
 ∀ (I1 : Int → Int → Int → Int → Int → Int → Int → Int → Int → Int → Int → Int → (List tBK) → Int → Int → tFU → (List q0) → tBK → Prop),
 (∀ (s1 s2 s3 s4 s5 s6 s7 s8 s9 s10 s11 s12 : Int) (s13 : List tBK) (s14 s15 : Int) (s16 : tFU) (s17 : List q0) (s18 : tBK), (br (decide (s10 ≤ (↑(List.length s18.2.1))))
 (c10 s16 s6 s7 s10
 (fun z19 => br (z19)
 (br (decide (s8 < 0))
 (I1 s1 s2 s3 s4 s5 s6 s7 s10 s10 (IntKind.wrap .i64 (s10 + 1)) s11 s12 s13 s14 s15 s16 s17 s18)
 (I1 s1 s2 s3 s4 s5 s6 s7 s8 s10 (IntKind.wrap .i64 (s10 + 1)) s11 s12 s13 s14 s15 s16 s17 s18))
 (I1 s1 s2 s3 s4 s5 s6 s7 s8 s9 (IntKind.wrap .i64 (s10 + 1)) s11 s12 s13 s14 s15 s16 s17 s18)))
 (k1 s1 s2 s3 s4 s5 s6 s7 s8 s9 s11 s12 s13 s14 s15 s16 s17)) → I1 s1 s2 s3 s4 s5 s6 s7 s8 s9 s10 s11 s12 s13 s14 s15 s16 s17 s18) →
 I1 s1 s2 s3 s4 s5 s6 s7 s8 s9 s10 s11 s12 s13 s14 s15 s16 s17 s18
structure l3r12 (k1 : Bool → Prop) (k2 : Int → Int → Int → Int → Int → Int → Int → tFU → (List q0) → Prop) (s1 s2 s3 s4 s5 s6 s7 s8 : Int) (s9 : List tBK) (s10 s11 : Int) (s12 : tFU) (s13 : List q0) : Prop where
of :
 ∀ (I1 : Int → Int → Int → Int → Int → Int → Int → Int → (List tBK) → Int → Int → tFU → (List q0) → Prop),
 (∀ (s1 s2 s3 s4 s5 s6 s7 s8 : Int) (s9 : List tBK) (s10 s11 : Int) (s12 : tFU) (s13 : List q0), (br (decide (s11 < s10))
 (need False (at? s9 s11) fun y14 =>
 l3r16
 (fun z15 z16 z17 z18 z19 z20 z21 z22 z23 z24 z25 z26 z27 z28 z29 z30 => br (decide (z22 < 0))
 (I1 z15 z16 z17 z18 z19 z20 z24 z25 z26 z27 (IntKind.wrap .i64 (z28 + 1)) z29 z30)
 (br (decide (z18 ≥ (↑(List.length z30))))
 (k1 false)
 (br (decide (0 ≤ z18 ∧ z18 < (↑(List.length z30))))
 (need False (z30)[(Int.toNat z18)]? fun y31 =>
 br (!(((y31.1 : Int) == z20) && (((y31.2.1 : Int) == z21) && (((y31.2.2.1 : Int) == z22) && (((y31.2.2.2.1 : Int) == z23) && true)))))
 (k1 false)
 (I1 z15 z16 z17 (IntKind.wrap .i64 (z18 + 1)) z19 z20 z24 z25 z26 z27 (IntKind.wrap .i64 (z28 + 1)) z29 z30))
 False)))
 s1 s2 s3 s4 s5 s6 s11 (-1) (-1) 0 s7 s8 s9 s10 s11 s12 s13 y14)
 (k2 s1 s2 s3 s4 s5 s7 s8 s12 s13)) → I1 s1 s2 s3 s4 s5 s6 s7 s8 s9 s10 s11 s12 s13) →
 I1 s1 s2 s3 s4 s5 s6 s7 s8 s9 s10 s11 s12 s13
structure l3r9 (k1 : Bool → Prop) (k2 : Int → Int → Int → Int → Int → tFU → (List q0) → Prop) (s1 s2 s3 s4 s5 s6 s7 : Int) (s8 : tFU) (s9 : List q0) : Prop where
of :
 ∀ (I1 : Int → Int → Int → Int → Int → Int → Int → tFU → (List q0) → Prop),
 (∀ (s1 s2 s3 s4 s5 s6 s7 : Int) (s8 : tFU) (s9 : List q0), (br (decide (s7 < s6))
 (l3r12
 (fun z10 => k1 z10)
 (fun z11 z12 z13 z14 z15 z16 z17 z18 z19 => I1 z11 z12 z13 z14 z15 z16 (IntKind.wrap .i64 (z17 + 1)) z18 z19)
 s1 s2 s3 s4 s5 s7 s6 s7 s8.2.1 (↑(List.length s8.2.1)) 0 s8 s9)
 (k2 s1 s2 s3 s4 s5 s8 s9)) → I1 s1 s2 s3 s4 s5 s6 s7 s8 s9) →
 I1 s1 s2 s3 s4 s5 s6 s7 s8 s9
structure l3r36 (k1 : Int → Int → Int → Int → Int → Int → Int → Int → (List tBK) → Int → Int → tFU → (List q0) → tBK → Prop) (s1 s2 s3 s4 s5 s6 s7 s8 : Int) (s9 : List tBK) (s10 s11 s12 s13 : Int) (s14 : tFU) (s15 : List q0) (s16 : tBK) : Prop where
of :
 ∀ (I1 : Int → Int → Int → Int → Int → Int → Int → Int → (List tBK) → Int → Int → Int → Int → tFU → (List q0) → tBK → Prop),
 (∀ (s1 s2 s3 s4 s5 s6 s7 s8 : Int) (s9 : List tBK) (s10 s11 s12 s13 : Int) (s14 : tFU) (s15 : List q0) (s16 : tBK), (br (decide (s13 < s12))
 (c10 s14 s13 s6 s7
 (fun z17 => br (z17)
 (I1 s1 s2 s3 s4 s5 s6 s7 (IntKind.wrap .i64 (s8 + 1)) s9 s10 s11 s12 (IntKind.wrap .i64 (s13 + 1)) s14 s15 s16)
 (I1 s1 s2 s3 s4 s5 s6 s7 s8 s9 s10 s11 s12 (IntKind.wrap .i64 (s13 + 1)) s14 s15 s16)))
 (k1 s1 s2 s3 s4 s5 s6 s7 s8 s9 s10 s11 s14 s15 s16)) → I1 s1 s2 s3 s4 s5 s6 s7 s8 s9 s10 s11 s12 s13 s14 s15 s16) →
 I1 s1 s2 s3 s4 s5 s6 s7 s8 s9 s10 s11 s12 s13 s14 s15 s16
structure l3r32 (k1 : Int → Int → Int → Int → Int → (List tBK) → Int → Int → tFU → (List q0) → Prop) (s1 s2 s3 s4 s5 s6 s7 : Int) (s8 : List tBK) (s9 s10 : Int) (s11 : tFU) (s12 : List q0) (s13 : tBK) : Prop where
of :
 ∀ (I1 : Int → Int → Int → Int → Int → Int → Int → (List tBK) → Int → Int → tFU → (List q0) → tBK → Prop),
 (∀ (s1 s2 s3 s4 s5 s6 s7 : Int) (s8 : List tBK) (s9 s10 : Int) (s11 : tFU) (s12 : List q0) (s13 : tBK), (br (decide (s7 ≤ (↑(List.length s13.2.1))))
 (c6 s11
 (fun z14 => l3r36
 (fun z15 z16 z17 z18 z19 z20 z21 z22 z23 z24 z25 z26 z27 z28 => I1 z15 z16 z17 z18 (maxI z19 z22) z20 (IntKind.wrap .i64 (z21 + 1)) z23 z24 z25 z26 z27 z28)
 s1 s2 s3 s4 s5 s6 s7 0 s8 s9 s10 z14 0 s11 s12 s13))
 (k1 s1 s2 s3 s4 s5 s8 s9 s10 s11 s12)) → I1 s1 s2 s3 s4 s5 s6 s7 s8 s9 s10 s11 s12 s13) →
 I1 s1 s2 s3 s4 s5 s6 s7 s8 s9 s10 s11 s12 s13
structure l3r29 (k1 : Int → Int → Int → Int → Int → (List q0) → Prop) (s1 s2 s3 s4 s5 : Int) (s6 : List tBK) (s7 s8 : Int) (s9 : tFU) (s10 : List q0) : Prop where
of :
 ∀ (I1 : Int → Int → Int → Int → Int → (List tBK) → Int → Int → tFU → (List q0) → Prop),
 (∀ (s1 s2 s3 s4 s5 : Int) (s6 : List tBK) (s7 s8 : Int) (s9 : tFU) (s10 : List q0), (br (decide (s8 < s7))
 (need False (at? s6 s8) fun y11 =>
 l3r32
 (fun z12 z13 z14 z15 z16 z17 z18 z19 z20 z21 => I1 z12 z13 z14 z15 z16 z17 z18 (IntKind.wrap .i64 (z19 + 1)) z20 z21)
 s1 s2 s3 s4 s5 s8 0 s6 s7 s8 s9 s10 y11)
 (k1 s1 s2 s3 s4 s5 s10)) → I1 s1 s2 s3 s4 s5 s6 s7 s8 s9 s10) →
 I1 s1 s2 s3 s4 s5 s6 s7 s8 s9 s10
structure l3r16v2 (k1 : Nat → Nat → Nat → Int → Int → Int → Int → Int → Int → Int → Int → Int → Int → Int → (List tBK) → Int → Int → tFU → (List q0) → Prop) (s1 s2 s3 : Nat) (s4 s5 s6 s7 s8 s9 s10 s11 s12 s13 s14 s15 : Int) (s16 : List tBK) (s17 s18 : Int) (s19 : tFU) (s20 : List q0) (s21 : tBK) : Prop where
of :
 ∀ (I1 : Nat → Nat → Nat → Int → Int → Int → Int → Int → Int → Int → Int → Int → Int → Int → Int → (List tBK) → Int → Int → tFU → (List q0) → tBK → Prop),
 (∀ (s1 s2 s3 : Nat) (s4 s5 s6 s7 s8 s9 s10 s11 s12 s13 s14 s15 : Int) (s16 : List tBK) (s17 s18 : Int) (s19 : tFU) (s20 : List q0) (s21 : tBK), (br (decide (s13 ≤ (↑(List.length s21.2.1))))
 (c10 s19 s9 s10 s13
 (fun z22 => br (z22)
 (br (decide (s11 < 0))
 (I1 s1 s2 s3 s4 s5 s6 s7 s8 s9 s10 s13 s13 (IntKind.wrap .i64 (s13 + 1)) s14 s15 s16 s17 s18 s19 s20 s21)
 (I1 s1 s2 s3 s4 s5 s6 s7 s8 s9 s10 s11 s13 (IntKind.wrap .i64 (s13 + 1)) s14 s15 s16 s17 s18 s19 s20 s21))
 (I1 s1 s2 s3 s4 s5 s6 s7 s8 s9 s10 s11 s12 (IntKind.wrap .i64 (s13 + 1)) s14 s15 s16 s17 s18 s19 s20 s21)))
 (k1 s1 s2 s3 s4 s5 s6 s7 s8 s9 s10 s11 s12 s14 s15 s16 s17 s18 s19 s20)) → I1 s1 s2 s3 s4 s5 s6 s7 s8 s9 s10 s11 s12 s13 s14 s15 s16 s17 s18 s19 s20 s21) →
 I1 s1 s2 s3 s4 s5 s6 s7 s8 s9 s10 s11 s12 s13 s14 s15 s16 s17 s18 s19 s20 s21
structure l3r12v2 (k1 : Bool → Prop) (k2 : Nat → Nat → Nat → Int → Int → Int → Int → Int → Int → Int → tFU → (List q0) → Prop) (s1 s2 s3 : Nat) (s4 s5 s6 s7 s8 s9 s10 s11 : Int) (s12 : List tBK) (s13 s14 : Int) (s15 : tFU) (s16 : List q0) : Prop where
of :
 ∀ (I1 : Nat → Nat → Nat → Int → Int → Int → Int → Int → Int → Int → Int → (List tBK) → Int → Int → tFU → (List q0) → Prop),
 (∀ (s1 s2 s3 : Nat) (s4 s5 s6 s7 s8 s9 s10 s11 : Int) (s12 : List tBK) (s13 s14 : Int) (s15 : tFU) (s16 : List q0), (br (decide (s14 < s13))
 (need False (at? s12 s14) fun y17 =>
 l3r16v2
 (fun z18 z19 z20 z21 z22 z23 z24 z25 z26 z27 z28 z29 z30 z31 z32 z33 z34 z35 z36 => br (decide (z28 < 0))
 (I1 z18 z19 z20 z21 z22 z23 z24 z25 z26 z30 z31 z32 z33 (IntKind.wrap .i64 (z34 + 1)) z35 z36)
 (br (decide (z24 ≥ ((z19 : Nat) : Int)))
 (k1 false)
 (br (decide (0 ≤ z24 ∧ z24 < ((z19 : Nat) : Int)))
 (need False (z36)[(z18 + (Int.toNat z24))]? fun y37 =>
 br (!(((y37.1 : Int) == z26) && (((y37.2.1 : Int) == z27) && (((y37.2.2.1 : Int) == z28) && (((y37.2.2.2.1 : Int) == z29) && true)))))
 (k1 false)
 (I1 z18 z19 z20 z21 z22 z23 (IntKind.wrap .i64 (z24 + 1)) z25 z26 z30 z31 z32 z33 (IntKind.wrap .i64 (z34 + 1)) z35 z36))
 False)))
 s1 s2 s3 s4 s5 s6 s7 s8 s9 s14 (-1) (-1) 0 s10 s11 s12 s13 s14 s15 s16 y17)
 (k2 s1 s2 s3 s4 s5 s6 s7 s8 s10 s11 s15 s16)) → I1 s1 s2 s3 s4 s5 s6 s7 s8 s9 s10 s11 s12 s13 s14 s15 s16) →
 I1 s1 s2 s3 s4 s5 s6 s7 s8 s9 s10 s11 s12 s13 s14 s15 s16
structure l3r9v2 (k1 : Bool → Prop) (k2 : Nat → Nat → Nat → Int → Int → Int → Int → Int → tFU → (List q0) → Prop) (s1 s2 s3 : Nat) (s4 s5 s6 s7 s8 s9 s10 : Int) (s11 : tFU) (s12 : List q0) : Prop where
of :
 ∀ (I1 : Nat → Nat → Nat → Int → Int → Int → Int → Int → Int → Int → tFU → (List q0) → Prop),
 (∀ (s1 s2 s3 : Nat) (s4 s5 s6 s7 s8 s9 s10 : Int) (s11 : tFU) (s12 : List q0), (br (decide (s10 < s9))
 (l3r12v2
 (fun z13 => k1 z13)
 (fun z14 z15 z16 z17 z18 z19 z20 z21 z22 z23 z24 z25 => I1 z14 z15 z16 z17 z18 z19 z20 z21 z22 (IntKind.wrap .i64 (z23 + 1)) z24 z25)
 s1 s2 s3 s4 s5 s6 s7 s8 s10 s9 s10 s11.2.1 (↑(List.length s11.2.1)) 0 s11 s12)
 (k2 s1 s2 s3 s4 s5 s6 s7 s8 s11 s12)) → I1 s1 s2 s3 s4 s5 s6 s7 s8 s9 s10 s11 s12) →
 I1 s1 s2 s3 s4 s5 s6 s7 s8 s9 s10 s11 s12
structure l3r36v2 (k1 : Nat → Nat → Nat → Int → Int → Int → Int → Int → Int → Int → Int → (List tBK) → Int → Int → tFU → (List q0) → tBK → Prop) (s1 s2 s3 : Nat) (s4 s5 s6 s7 s8 s9 s10 s11 : Int) (s12 : List tBK) (s13 s14 s15 s16 : Int) (s17 : tFU) (s18 : List q0) (s19 : tBK) : Prop where
of :
 ∀ (I1 : Nat → Nat → Nat → Int → Int → Int → Int → Int → Int → Int → Int → (List tBK) → Int → Int → Int → Int → tFU → (List q0) → tBK → Prop),
 (∀ (s1 s2 s3 : Nat) (s4 s5 s6 s7 s8 s9 s10 s11 : Int) (s12 : List tBK) (s13 s14 s15 s16 : Int) (s17 : tFU) (s18 : List q0) (s19 : tBK), (br (decide (s16 < s15))
 (c10 s17 s16 s9 s10
 (fun z20 => br (z20)
 (I1 s1 s2 s3 s4 s5 s6 s7 s8 s9 s10 (IntKind.wrap .i64 (s11 + 1)) s12 s13 s14 s15 (IntKind.wrap .i64 (s16 + 1)) s17 s18 s19)
 (I1 s1 s2 s3 s4 s5 s6 s7 s8 s9 s10 s11 s12 s13 s14 s15 (IntKind.wrap .i64 (s16 + 1)) s17 s18 s19)))
 (k1 s1 s2 s3 s4 s5 s6 s7 s8 s9 s10 s11 s12 s13 s14 s17 s18 s19)) → I1 s1 s2 s3 s4 s5 s6 s7 s8 s9 s10 s11 s12 s13 s14 s15 s16 s17 s18 s19) →
 I1 s1 s2 s3 s4 s5 s6 s7 s8 s9 s10 s11 s12 s13 s14 s15 s16 s17 s18 s19
structure l3r32v2 (k1 : Nat → Nat → Nat → Int → Int → Int → Int → Int → (List tBK) → Int → Int → tFU → (List q0) → Prop) (s1 s2 s3 : Nat) (s4 s5 s6 s7 s8 s9 s10 : Int) (s11 : List tBK) (s12 s13 : Int) (s14 : tFU) (s15 : List q0) (s16 : tBK) : Prop where
of :
 ∀ (I1 : Nat → Nat → Nat → Int → Int → Int → Int → Int → Int → Int → (List tBK) → Int → Int → tFU → (List q0) → tBK → Prop),
 (∀ (s1 s2 s3 : Nat) (s4 s5 s6 s7 s8 s9 s10 : Int) (s11 : List tBK) (s12 s13 : Int) (s14 : tFU) (s15 : List q0) (s16 : tBK), (br (decide (s10 ≤ (↑(List.length s16.2.1))))
 (c6 s14
 (fun z17 => l3r36v2
 (fun z18 z19 z20 z21 z22 z23 z24 z25 z26 z27 z28 z29 z30 z31 z32 z33 z34 => I1 z18 z19 z20 z21 z22 z23 z24 (maxI z25 z28) z26 (IntKind.wrap .i64 (z27 + 1)) z29 z30 z31 z32 z33 z34)
 s1 s2 s3 s4 s5 s6 s7 s8 s9 s10 0 s11 s12 s13 z17 0 s14 s15 s16))
 (k1 s1 s2 s3 s4 s5 s6 s7 s8 s11 s12 s13 s14 s15)) → I1 s1 s2 s3 s4 s5 s6 s7 s8 s9 s10 s11 s12 s13 s14 s15 s16) →
 I1 s1 s2 s3 s4 s5 s6 s7 s8 s9 s10 s11 s12 s13 s14 s15 s16
structure l3r29v2 (k1 : Nat → Nat → Nat → Int → Int → Int → Int → Int → (List q0) → Prop) (s1 s2 s3 : Nat) (s4 s5 s6 s7 s8 : Int) (s9 : List tBK) (s10 s11 : Int) (s12 : tFU) (s13 : List q0) : Prop where
of :
 ∀ (I1 : Nat → Nat → Nat → Int → Int → Int → Int → Int → (List tBK) → Int → Int → tFU → (List q0) → Prop),
 (∀ (s1 s2 s3 : Nat) (s4 s5 s6 s7 s8 : Int) (s9 : List tBK) (s10 s11 : Int) (s12 : tFU) (s13 : List q0), (br (decide (s11 < s10))
 (need False (at? s9 s11) fun y14 =>
 l3r32v2
 (fun z15 z16 z17 z18 z19 z20 z21 z22 z23 z24 z25 z26 z27 => I1 z15 z16 z17 z18 z19 z20 z21 z22 z23 z24 (IntKind.wrap .i64 (z25 + 1)) z26 z27)
 s1 s2 s3 s4 s5 s6 s7 s8 s11 0 s9 s10 s11 s12 s13 y14)
 (k1 s1 s2 s3 s4 s5 s6 s7 s8 s13)) → I1 s1 s2 s3 s4 s5 s6 s7 s8 s9 s10 s11 s12 s13) →
 I1 s1 s2 s3 s4 s5 s6 s7 s8 s9 s10 s11 s12 s13
structure c3 (x1 : tFU) (k1 : Bool → Prop) : Prop where
of :
 c4 
 (fun z2 => br (!z2)
 (k1 false)
 (c5 x1
 (fun z3 => br (!z3)
 (k1 true)
 (c6 x1
 (fun z4 => br (decide (z4 > 60))
 (k1 true)
 (c7 x1
 (fun z5 => br (z5 != 0)
 (k1 true)
 (c8v2 x1
 (fun z6 z7 => c9 x1
 (fun z8 z9 => c6 x1
 (fun z10 => l3r9
 (fun z11 => k1 z11)
 (fun z12 z13 z14 z15 z16 z17 z18 => l3r29
 (fun z19 z20 z21 z22 z23 z24 => br (z19 == 0)
 (br (z21 == 0)
 (br (z22 == (↑(List.length z24)))
 (k1 ((z20 : Int) == z23))
 (k1 false))
 (k1 false))
 (k1 false))
 z12 z13 z14 z15 z16 z17.2.1 (↑(List.length z17.2.1)) 0 z17 z18)
 z6 z8 z9 0 0 z10 0 x1 z7)))
 (fun z25 z26 z27 z28 z29 => c9 x1
 (fun z30 z31 => c6 x1
 (fun z32 => l3r9v2
 (fun z33 => k1 z33)
 (fun z34 z35 z36 z37 z38 z39 z40 z41 z42 z43 => l3r29v2
 (fun z44 z45 z46 z47 z48 z49 z50 z51 z52 => br (z47 == 0)
 (br (z49 == 0)
 (br (z50 == ((z45 : Nat) : Int))
 (k1 ((z48 : Int) == z51))
 (k1 false))
 (k1 false))
 (k1 false))
 z34 z35 z36 z37 z38 z39 z40 z41 z42.2.1 (↑(List.length z42.2.1)) 0 z42 z43)
 z25 z26 z27 z28 z30 z31 0 0 z32 0 x1 z29)))))))))))
end Go.Proofs.Ytgbmfhchieahjaa
