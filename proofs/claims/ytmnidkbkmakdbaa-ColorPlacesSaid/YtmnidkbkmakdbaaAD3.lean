/- What the functions compute, as plain Lean (printed by a program). -/
import Derived.Test.YtmnidkbkmakdbaaATypT
namespace Go.Proofs.Ytmnidkbkmakdbaa
open Go.Abs
abbrev tFN := Int × (List Int) × Int × (List ((List (Int × Int × Int × Int × Int × (List Int) × Unit)) × (Int × Int × Int × Int × Int × (List Int) × Unit) × Unit)) × Unit
abbrev tBK := (List (Int × Int × Int × Int × Int × (List Int) × Unit)) × (Int × Int × Int × Int × Int × (List Int) × Unit) × Unit
abbrev tIN := Int × Int × Int × Int × Int × (List Int) × Unit
abbrev q0 := (List (List Bool))
set_option linter.unusedVariables false
structure c11 (k1 : Int → Int → (List Int) → (List tBK) → Prop) : Prop where
of :
 k1 0 2 [1] [([], (0, 0, 1, 0, 0, [], ()), ())]
structure c26 (x1 x2 x3 : Int) (k1 : Bool → Prop) : Prop where
of :
 br (decide (x1 ≥ x2))
 (k1 (decide ((x1 : Int) ≤ x3)))
 (k1 false)
structure l45r2 (k1 : Int → Prop) (k2 : Prop) (s1 : List Int) (s2 s3 s4 : Int) : Prop where
of :
 ∀ (I1 : (List Int) → Int → Int → Int → Prop),
 (∀ (s1 : List Int) (s2 s3 s4 : Int), (br (decide (s4 < s3))
 (need False (at? s1 s4) fun y5 =>
 br (s2 == y5)
 (k1 s4)
 (I1 s1 s2 s3 (IntKind.wrap .i64 (s4 + 1))))
 (k2)) → I1 s1 s2 s3 s4) →
 I1 s1 s2 s3 s4
structure c45 (x1 : List Int) (x2 : Int) (k1 : Int → Prop) : Prop where
of :
 l45r2
 (fun z3 => k1 z3)
 (k1 (-1))
 x1 x2 (↑(List.length x1)) 0
structure c27 (x1 : List Int) (x2 : Int) (k1 : Bool → Prop) : Prop where
of :
 c45 x1 x2
 (fun z3 => k1 (decide ((z3 : Int) ≥ 0)))
structure l12r6 (k1 : Int → Prop) (k2 : tFN → Prop) (s1 : List Int) (s2 s3 : Int) (s4 : tFN) : Prop where
of :
 ∀ (I1 : (List Int) → Int → Int → tFN → Prop),
 (∀ (s1 : List Int) (s2 s3 : Int) (s4 : tFN), (br (decide (s3 < s2))
 (need False (at? s1 s3) fun y5 =>
 c26 y5 1 (IntKind.wrap .i64 (s4.2.2.1 - 1))
 (fun z6 => br (!z6)
 (k1 6)
 (br (decide ((0 : Int) ≤ 0 ∧ (0 : Int) ≤ s3 ∧ (s3 : Int) ≤ (↑(List.length s4.2.1))))
 (c27 (List.drop 0 (List.take (Int.toNat s3) s4.2.1)) y5
 (fun z7 => br (z7)
 (k1 7)
 (I1 s1 s2 (IntKind.wrap .i64 (s3 + 1)) s4)))
 False)))
 (k2 s4)) → I1 s1 s2 s3 s4) →
 I1 s1 s2 s3 s4
structure c46 (x1 : Int) (k1 : (Bool × Bool × Bool × Bool × Bool × Unit) → Bool → Prop) : Prop where
of :
 br (x1 == 1)
 (k1 (true, true, true, false, false, ()) true)
 (br (x1 == 2)
 (k1 (true, true, true, false, false, ()) true)
 (br (x1 == 3)
 (k1 (true, true, true, false, false, ()) true)
 (br (x1 == 4)
 (k1 (true, true, true, false, false, ()) true)
 (br (x1 == 5)
 (k1 (true, true, true, false, false, ()) true)
 (br (x1 == 6)
 (k1 (true, true, true, false, false, ()) true)
 (br (x1 == 7)
 (k1 (true, true, true, false, false, ()) true)
 (br (x1 == 15)
 (k1 (true, true, true, false, false, ()) true)
 (br (x1 == 8)
 (k1 (true, true, false, true, false, ()) true)
 (br (x1 == 9)
 (k1 (true, true, false, true, false, ()) true)
 (br (x1 == 10)
 (k1 (true, true, false, true, false, ()) true)
 (br (x1 == 12)
 (k1 (true, true, false, true, false, ()) true)
 (br (x1 == 11)
 (k1 (true, false, false, true, false, ()) true)
 (br (x1 == 103)
 (k1 (true, false, false, true, false, ()) true)
 (br (x1 == 13)
 (k1 (false, true, true, true, false, ()) true)
 (br (x1 == 14)
 (k1 (true, false, true, true, false, ()) true)
 (br (x1 == 23)
 (k1 (false, true, false, false, false, ()) true)
 (br (x1 == 100)
 (k1 (true, true, false, false, false, ()) true)
 (br (x1 == 101)
 (k1 (true, false, false, true, true, ()) true)
 (br (x1 == 102)
 (k1 (true, true, false, false, true, ()) true)
 (k1 (false, false, false, false, false, ()) false))))))))))))))))))))
structure j28s4 (k1 : Int → Prop) (k2 : Int → tIN → Prop) (s1 : Int) (s2 : Bool) (s3 : tIN) : Prop where
of :
 br (s2)
 (k1 3)
 (k2 s1 s3)
structure j28s6 (k1 : Int → Prop) (k2 : Int → tIN → Prop) (s1 : Int) (s2 : Bool) (s3 : tIN) : Prop where
of :
 br (s2)
 (k1 4)
 (k2 s1 s3)
structure l28r9 (k1 : Int → Prop) (k2 : Prop) (s1 s2 s3 : Int) (s4 : List Int) : Prop where
of :
 ∀ (I1 : Int → Int → Int → (List Int) → Prop),
 (∀ (s1 s2 s3 : Int) (s4 : List Int), (br (decide (s3 < s2))
 (br (decide (0 ≤ s3 ∧ s3 < (↑(List.length s4))))
 (need False (s4)[(Int.toNat s3)]? fun y5 =>
 c26 y5 0 (IntKind.wrap .i64 (s1 - 1))
 (fun z6 => br (!z6)
 (k1 6)
 (I1 s1 s2 (IntKind.wrap .i64 (s3 + 1)) s4)))
 False)
 (k2)) → I1 s1 s2 s3 s4) →
 I1 s1 s2 s3 s4
structure j28r8 (k1 : Int → Prop) (s1 : Int) (s2 : tIN) : Prop where
of :
 br (List.isEmpty s2.2.2.2.2.2.1)
 (l28r9
 (fun z3 => k1 z3)
 (k1 0)
 s1 ((3 : Nat) : Int) 0 [s2.2.1, s2.2.2.1, s2.2.2.2.1])
 (br (roomB (3 + (List.length s2.2.2.2.2.2.1)) 8)
 (l28r9
 (fun z4 => k1 z4)
 (k1 0)
 s1 (↑(List.length ([s2.2.1, s2.2.2.1, s2.2.2.2.1] ++ s2.2.2.2.2.2.1))) 0 ([s2.2.1, s2.2.2.1, s2.2.2.2.1] ++ s2.2.2.2.2.2.1))
 False)
structure j28r6 (k1 : Int → Prop) (s1 : Int) (s2 : tIN) : Prop where
of :
 br (decide (((↑(List.length s2.2.2.2.2.2.1)) : Int) > 6))
 (j28s6
 (fun z3 => k1 z3)
 (fun z4 z5 => j28r8
 (fun z6 => k1 z6)
 z4 z5)
 s1 true s2)
 (c26 s2.2.2.2.2.1 (-2147483648) 2147483647
 (fun z7 => br (!z7)
 (j28s6
 (fun z8 => k1 z8)
 (fun z9 z10 => j28r8
 (fun z11 => k1 z11)
 z9 z10)
 s1 true s2)
 (br ((s2.1 : Int) == 101)
 (c26 s2.2.2.2.2.1 0 255
 (fun z12 => br (!z12)
 (j28s6
 (fun z13 => k1 z13)
 (fun z14 z15 => j28r8
 (fun z16 => k1 z16)
 z14 z15)
 s1 true s2)
 (br ((s2.1 : Int) == 9)
 (c26 s2.2.2.2.2.1 0 31
 (fun z17 => br (!z17)
 (j28s6
 (fun z18 => k1 z18)
 (fun z19 z20 => j28r8
 (fun z21 => k1 z21)
 z19 z20)
 s1 true s2)
 (br ((s2.1 : Int) == 14)
 (c26 s2.2.2.2.2.1 0 4095
 (fun z22 => j28s6
 (fun z23 => k1 z23)
 (fun z24 z25 => j28r8
 (fun z26 => k1 z26)
 z24 z25)
 s1 (!z22) s2))
 (j28s6
 (fun z27 => k1 z27)
 (fun z28 z29 => j28r8
 (fun z30 => k1 z30)
 z28 z29)
 s1 false s2))))
 (br ((s2.1 : Int) == 10)
 (c26 s2.2.2.2.2.1 0 31
 (fun z31 => br (!z31)
 (j28s6
 (fun z32 => k1 z32)
 (fun z33 z34 => j28r8
 (fun z35 => k1 z35)
 z33 z34)
 s1 true s2)
 (br ((s2.1 : Int) == 14)
 (c26 s2.2.2.2.2.1 0 4095
 (fun z36 => j28s6
 (fun z37 => k1 z37)
 (fun z38 z39 => j28r8
 (fun z40 => k1 z40)
 z38 z39)
 s1 (!z36) s2))
 (j28s6
 (fun z41 => k1 z41)
 (fun z42 z43 => j28r8
 (fun z44 => k1 z44)
 z42 z43)
 s1 false s2))))
 (br ((s2.1 : Int) == 14)
 (c26 s2.2.2.2.2.1 0 4095
 (fun z45 => j28s6
 (fun z46 => k1 z46)
 (fun z47 z48 => j28r8
 (fun z49 => k1 z49)
 z47 z48)
 s1 (!z45) s2))
 (j28s6
 (fun z50 => k1 z50)
 (fun z51 z52 => j28r8
 (fun z53 => k1 z53)
 z51 z52)
 s1 false s2))))))
 (br ((s2.1 : Int) == 103)
 (c26 s2.2.2.2.2.1 0 255
 (fun z54 => br (!z54)
 (j28s6
 (fun z55 => k1 z55)
 (fun z56 z57 => j28r8
 (fun z58 => k1 z58)
 z56 z57)
 s1 true s2)
 (br ((s2.1 : Int) == 9)
 (c26 s2.2.2.2.2.1 0 31
 (fun z59 => br (!z59)
 (j28s6
 (fun z60 => k1 z60)
 (fun z61 z62 => j28r8
 (fun z63 => k1 z63)
 z61 z62)
 s1 true s2)
 (br ((s2.1 : Int) == 14)
 (c26 s2.2.2.2.2.1 0 4095
 (fun z64 => j28s6
 (fun z65 => k1 z65)
 (fun z66 z67 => j28r8
 (fun z68 => k1 z68)
 z66 z67)
 s1 (!z64) s2))
 (j28s6
 (fun z69 => k1 z69)
 (fun z70 z71 => j28r8
 (fun z72 => k1 z72)
 z70 z71)
 s1 false s2))))
 (br ((s2.1 : Int) == 10)
 (c26 s2.2.2.2.2.1 0 31
 (fun z73 => br (!z73)
 (j28s6
 (fun z74 => k1 z74)
 (fun z75 z76 => j28r8
 (fun z77 => k1 z77)
 z75 z76)
 s1 true s2)
 (br ((s2.1 : Int) == 14)
 (c26 s2.2.2.2.2.1 0 4095
 (fun z78 => j28s6
 (fun z79 => k1 z79)
 (fun z80 z81 => j28r8
 (fun z82 => k1 z82)
 z80 z81)
 s1 (!z78) s2))
 (j28s6
 (fun z83 => k1 z83)
 (fun z84 z85 => j28r8
 (fun z86 => k1 z86)
 z84 z85)
 s1 false s2))))
 (br ((s2.1 : Int) == 14)
 (c26 s2.2.2.2.2.1 0 4095
 (fun z87 => j28s6
 (fun z88 => k1 z88)
 (fun z89 z90 => j28r8
 (fun z91 => k1 z91)
 z89 z90)
 s1 (!z87) s2))
 (j28s6
 (fun z92 => k1 z92)
 (fun z93 z94 => j28r8
 (fun z95 => k1 z95)
 z93 z94)
 s1 false s2))))))
 (br ((s2.1 : Int) == 9)
 (c26 s2.2.2.2.2.1 0 31
 (fun z96 => br (!z96)
 (j28s6
 (fun z97 => k1 z97)
 (fun z98 z99 => j28r8
 (fun z100 => k1 z100)
 z98 z99)
 s1 true s2)
 (br ((s2.1 : Int) == 14)
 (c26 s2.2.2.2.2.1 0 4095
 (fun z101 => j28s6
 (fun z102 => k1 z102)
 (fun z103 z104 => j28r8
 (fun z105 => k1 z105)
 z103 z104)
 s1 (!z101) s2))
 (j28s6
 (fun z106 => k1 z106)
 (fun z107 z108 => j28r8
 (fun z109 => k1 z109)
 z107 z108)
 s1 false s2))))
 (br ((s2.1 : Int) == 10)
 (c26 s2.2.2.2.2.1 0 31
 (fun z110 => br (!z110)
 (j28s6
 (fun z111 => k1 z111)
 (fun z112 z113 => j28r8
 (fun z114 => k1 z114)
 z112 z113)
 s1 true s2)
 (br ((s2.1 : Int) == 14)
 (c26 s2.2.2.2.2.1 0 4095
 (fun z115 => j28s6
 (fun z116 => k1 z116)
 (fun z117 z118 => j28r8
 (fun z119 => k1 z119)
 z117 z118)
 s1 (!z115) s2))
 (j28s6
 (fun z120 => k1 z120)
 (fun z121 z122 => j28r8
 (fun z123 => k1 z123)
 z121 z122)
 s1 false s2))))
 (br ((s2.1 : Int) == 14)
 (c26 s2.2.2.2.2.1 0 4095
 (fun z124 => j28s6
 (fun z125 => k1 z125)
 (fun z126 z127 => j28r8
 (fun z128 => k1 z128)
 z126 z127)
 s1 (!z124) s2))
 (j28s6
 (fun z129 => k1 z129)
 (fun z130 z131 => j28r8
 (fun z132 => k1 z132)
 z130 z131)
 s1 false s2))))))))
structure c28 (x1 : tIN) (x2 : Int) (k1 : Int → Prop) : Prop where
of :
 c46 x1.1
 (fun z3 z4 => br (!z4)
 (k1 1)
 (br (!z3.1)
 (br ((x1.2.1 : Int) != 0)
 (j28s4
 (fun z5 => k1 z5)
 (fun z6 z7 => j28r6
 (fun z8 => k1 z8)
 z6 z7)
 x2 true x1)
 (br (!z3.2.1)
 (br ((x1.2.2.1 : Int) != 0)
 (j28s4
 (fun z9 => k1 z9)
 (fun z10 z11 => j28r6
 (fun z12 => k1 z12)
 z10 z11)
 x2 true x1)
 (br (!z3.2.2.1)
 (br ((x1.2.2.2.1 : Int) != 0)
 (j28s4
 (fun z13 => k1 z13)
 (fun z14 z15 => j28r6
 (fun z16 => k1 z16)
 z14 z15)
 x2 true x1)
 (br (!z3.2.2.2.1)
 (br ((x1.2.2.2.2.1 : Int) != 0)
 (j28s4
 (fun z17 => k1 z17)
 (fun z18 z19 => j28r6
 (fun z20 => k1 z20)
 z18 z19)
 x2 true x1)
 (br (!z3.2.2.2.2.1)
 (j28s4
 (fun z21 => k1 z21)
 (fun z22 z23 => j28r6
 (fun z24 => k1 z24)
 z22 z23)
 x2 (decide (((↑(List.length x1.2.2.2.2.2.1)) : Int) > 0)) x1)
 (j28s4
 (fun z25 => k1 z25)
 (fun z26 z27 => j28r6
 (fun z28 => k1 z28)
 z26 z27)
 x2 false x1)))
 (br (!z3.2.2.2.2.1)
 (j28s4
 (fun z29 => k1 z29)
 (fun z30 z31 => j28r6
 (fun z32 => k1 z32)
 z30 z31)
 x2 (decide (((↑(List.length x1.2.2.2.2.2.1)) : Int) > 0)) x1)
 (j28s4
 (fun z33 => k1 z33)
 (fun z34 z35 => j28r6
 (fun z36 => k1 z36)
 z34 z35)
 x2 false x1))))
 (br (!z3.2.2.2.1)
 (br ((x1.2.2.2.2.1 : Int) != 0)
 (j28s4
 (fun z37 => k1 z37)
 (fun z38 z39 => j28r6
 (fun z40 => k1 z40)
 z38 z39)
 x2 true x1)
 (br (!z3.2.2.2.2.1)
 (j28s4
 (fun z41 => k1 z41)
 (fun z42 z43 => j28r6
 (fun z44 => k1 z44)
 z42 z43)
 x2 (decide (((↑(List.length x1.2.2.2.2.2.1)) : Int) > 0)) x1)
 (j28s4
 (fun z45 => k1 z45)
 (fun z46 z47 => j28r6
 (fun z48 => k1 z48)
 z46 z47)
 x2 false x1)))
 (br (!z3.2.2.2.2.1)
 (j28s4
 (fun z49 => k1 z49)
 (fun z50 z51 => j28r6
 (fun z52 => k1 z52)
 z50 z51)
 x2 (decide (((↑(List.length x1.2.2.2.2.2.1)) : Int) > 0)) x1)
 (j28s4
 (fun z53 => k1 z53)
 (fun z54 z55 => j28r6
 (fun z56 => k1 z56)
 z54 z55)
 x2 false x1)))))
 (br (!z3.2.2.1)
 (br ((x1.2.2.2.1 : Int) != 0)
 (j28s4
 (fun z57 => k1 z57)
 (fun z58 z59 => j28r6
 (fun z60 => k1 z60)
 z58 z59)
 x2 true x1)
 (br (!z3.2.2.2.1)
 (br ((x1.2.2.2.2.1 : Int) != 0)
 (j28s4
 (fun z61 => k1 z61)
 (fun z62 z63 => j28r6
 (fun z64 => k1 z64)
 z62 z63)
 x2 true x1)
 (br (!z3.2.2.2.2.1)
 (j28s4
 (fun z65 => k1 z65)
 (fun z66 z67 => j28r6
 (fun z68 => k1 z68)
 z66 z67)
 x2 (decide (((↑(List.length x1.2.2.2.2.2.1)) : Int) > 0)) x1)
 (j28s4
 (fun z69 => k1 z69)
 (fun z70 z71 => j28r6
 (fun z72 => k1 z72)
 z70 z71)
 x2 false x1)))
 (br (!z3.2.2.2.2.1)
 (j28s4
 (fun z73 => k1 z73)
 (fun z74 z75 => j28r6
 (fun z76 => k1 z76)
 z74 z75)
 x2 (decide (((↑(List.length x1.2.2.2.2.2.1)) : Int) > 0)) x1)
 (j28s4
 (fun z77 => k1 z77)
 (fun z78 z79 => j28r6
 (fun z80 => k1 z80)
 z78 z79)
 x2 false x1))))
 (br (!z3.2.2.2.1)
 (br ((x1.2.2.2.2.1 : Int) != 0)
 (j28s4
 (fun z81 => k1 z81)
 (fun z82 z83 => j28r6
 (fun z84 => k1 z84)
 z82 z83)
 x2 true x1)
 (br (!z3.2.2.2.2.1)
 (j28s4
 (fun z85 => k1 z85)
 (fun z86 z87 => j28r6
 (fun z88 => k1 z88)
 z86 z87)
 x2 (decide (((↑(List.length x1.2.2.2.2.2.1)) : Int) > 0)) x1)
 (j28s4
 (fun z89 => k1 z89)
 (fun z90 z91 => j28r6
 (fun z92 => k1 z92)
 z90 z91)
 x2 false x1)))
 (br (!z3.2.2.2.2.1)
 (j28s4
 (fun z93 => k1 z93)
 (fun z94 z95 => j28r6
 (fun z96 => k1 z96)
 z94 z95)
 x2 (decide (((↑(List.length x1.2.2.2.2.2.1)) : Int) > 0)) x1)
 (j28s4
 (fun z97 => k1 z97)
 (fun z98 z99 => j28r6
 (fun z100 => k1 z100)
 z98 z99)
 x2 false x1))))))
 (br (!z3.2.1)
 (br ((x1.2.2.1 : Int) != 0)
 (j28s4
 (fun z101 => k1 z101)
 (fun z102 z103 => j28r6
 (fun z104 => k1 z104)
 z102 z103)
 x2 true x1)
 (br (!z3.2.2.1)
 (br ((x1.2.2.2.1 : Int) != 0)
 (j28s4
 (fun z105 => k1 z105)
 (fun z106 z107 => j28r6
 (fun z108 => k1 z108)
 z106 z107)
 x2 true x1)
 (br (!z3.2.2.2.1)
 (br ((x1.2.2.2.2.1 : Int) != 0)
 (j28s4
 (fun z109 => k1 z109)
 (fun z110 z111 => j28r6
 (fun z112 => k1 z112)
 z110 z111)
 x2 true x1)
 (br (!z3.2.2.2.2.1)
 (j28s4
 (fun z113 => k1 z113)
 (fun z114 z115 => j28r6
 (fun z116 => k1 z116)
 z114 z115)
 x2 (decide (((↑(List.length x1.2.2.2.2.2.1)) : Int) > 0)) x1)
 (j28s4
 (fun z117 => k1 z117)
 (fun z118 z119 => j28r6
 (fun z120 => k1 z120)
 z118 z119)
 x2 false x1)))
 (br (!z3.2.2.2.2.1)
 (j28s4
 (fun z121 => k1 z121)
 (fun z122 z123 => j28r6
 (fun z124 => k1 z124)
 z122 z123)
 x2 (decide (((↑(List.length x1.2.2.2.2.2.1)) : Int) > 0)) x1)
 (j28s4
 (fun z125 => k1 z125)
 (fun z126 z127 => j28r6
 (fun z128 => k1 z128)
 z126 z127)
 x2 false x1))))
 (br (!z3.2.2.2.1)
 (br ((x1.2.2.2.2.1 : Int) != 0)
 (j28s4
 (fun z129 => k1 z129)
 (fun z130 z131 => j28r6
 (fun z132 => k1 z132)
 z130 z131)
 x2 true x1)
 (br (!z3.2.2.2.2.1)
 (j28s4
 (fun z133 => k1 z133)
 (fun z134 z135 => j28r6
 (fun z136 => k1 z136)
 z134 z135)
 x2 (decide (((↑(List.length x1.2.2.2.2.2.1)) : Int) > 0)) x1)
 (j28s4
 (fun z137 => k1 z137)
 (fun z138 z139 => j28r6
 (fun z140 => k1 z140)
 z138 z139)
 x2 false x1)))
 (br (!z3.2.2.2.2.1)
 (j28s4
 (fun z141 => k1 z141)
 (fun z142 z143 => j28r6
 (fun z144 => k1 z144)
 z142 z143)
 x2 (decide (((↑(List.length x1.2.2.2.2.2.1)) : Int) > 0)) x1)
 (j28s4
 (fun z145 => k1 z145)
 (fun z146 z147 => j28r6
 (fun z148 => k1 z148)
 z146 z147)
 x2 false x1)))))
 (br (!z3.2.2.1)
 (br ((x1.2.2.2.1 : Int) != 0)
 (j28s4
 (fun z149 => k1 z149)
 (fun z150 z151 => j28r6
 (fun z152 => k1 z152)
 z150 z151)
 x2 true x1)
 (br (!z3.2.2.2.1)
 (br ((x1.2.2.2.2.1 : Int) != 0)
 (j28s4
 (fun z153 => k1 z153)
 (fun z154 z155 => j28r6
 (fun z156 => k1 z156)
 z154 z155)
 x2 true x1)
 (br (!z3.2.2.2.2.1)
 (j28s4
 (fun z157 => k1 z157)
 (fun z158 z159 => j28r6
 (fun z160 => k1 z160)
 z158 z159)
 x2 (decide (((↑(List.length x1.2.2.2.2.2.1)) : Int) > 0)) x1)
 (j28s4
 (fun z161 => k1 z161)
 (fun z162 z163 => j28r6
 (fun z164 => k1 z164)
 z162 z163)
 x2 false x1)))
 (br (!z3.2.2.2.2.1)
 (j28s4
 (fun z165 => k1 z165)
 (fun z166 z167 => j28r6
 (fun z168 => k1 z168)
 z166 z167)
 x2 (decide (((↑(List.length x1.2.2.2.2.2.1)) : Int) > 0)) x1)
 (j28s4
 (fun z169 => k1 z169)
 (fun z170 z171 => j28r6
 (fun z172 => k1 z172)
 z170 z171)
 x2 false x1))))
 (br (!z3.2.2.2.1)
 (br ((x1.2.2.2.2.1 : Int) != 0)
 (j28s4
 (fun z173 => k1 z173)
 (fun z174 z175 => j28r6
 (fun z176 => k1 z176)
 z174 z175)
 x2 true x1)
 (br (!z3.2.2.2.2.1)
 (j28s4
 (fun z177 => k1 z177)
 (fun z178 z179 => j28r6
 (fun z180 => k1 z180)
 z178 z179)
 x2 (decide (((↑(List.length x1.2.2.2.2.2.1)) : Int) > 0)) x1)
 (j28s4
 (fun z181 => k1 z181)
 (fun z182 z183 => j28r6
 (fun z184 => k1 z184)
 z182 z183)
 x2 false x1)))
 (br (!z3.2.2.2.2.1)
 (j28s4
 (fun z185 => k1 z185)
 (fun z186 z187 => j28r6
 (fun z188 => k1 z188)
 z186 z187)
 x2 (decide (((↑(List.length x1.2.2.2.2.2.1)) : Int) > 0)) x1)
 (j28s4
 (fun z189 => k1 z189)
 (fun z190 z191 => j28r6
 (fun z192 => k1 z192)
 z190 z191)
 x2 false x1)))))))
structure l12r21 (k1 : Int → Prop) (k2 : Int → (List tBK) → Int → Int → tFN → tBK → Prop) (s1 : Int) (s2 : List tBK) (s3 s4 : Int) (s5 : List tIN) (s6 s7 : Int) (s8 : tFN) (s9 : tBK) : Prop where
of :
 ∀ (I1 : Int → (List tBK) → Int → Int → (List tIN) → Int → Int → tFN → tBK → Prop),
 (∀ (s1 : Int) (s2 : List tBK) (s3 s4 : Int) (s5 : List tIN) (s6 s7 : Int) (s8 : tFN) (s9 : tBK), (br (decide (s7 < s6))
 (need False (at? s5 s7) fun y10 =>
 c28 y10 s8.2.2.1
 (fun z11 => br (z11 != 0)
 (k1 z11)
 (I1 s1 s2 s3 s4 s5 s6 (IntKind.wrap .i64 (s7 + 1)) s8 s9)))
 (k2 s1 s2 s3 s4 s8 s9)) → I1 s1 s2 s3 s4 s5 s6 s7 s8 s9) →
 I1 s1 s2 s3 s4 s5 s6 s7 s8 s9
structure l29r17 (k1 : Int → Prop) (k2 : Prop) (s1 : Int) (s2 : List Int) (s3 s4 : Int) : Prop where
of :
 ∀ (I1 : Int → (List Int) → Int → Int → Prop),
 (∀ (s1 : Int) (s2 : List Int) (s3 s4 : Int), (br (decide (s4 < s3))
 (need False (at? s2 s4) fun y5 =>
 c26 y5 1 (IntKind.wrap .i64 (s1 - 1))
 (fun z6 => br (!z6)
 (k1 4)
 (I1 s1 s2 s3 (IntKind.wrap .i64 (s4 + 1)))))
 (k2)) → I1 s1 s2 s3 s4) →
 I1 s1 s2 s3 s4
structure j29r12 (k1 : Int → Prop) (s1 s2 s3 : Int) (s4 : Bool) (s5 : tIN) : Prop where
of :
 br (!s4)
 (k1 3)
 (br (((↑(List.length s5.2.2.2.2.2.1)) : Int) != s3)
 (k1 3)
 (c26 s5.2.2.1 0 (IntKind.wrap .i64 (s1 - 1))
 (fun z6 => br (!z6)
 (k1 6)
 (c26 s5.2.2.2.1 0 (IntKind.wrap .i64 (s1 - 1))
 (fun z7 => br (!z7)
 (k1 6)
 (l29r17
 (fun z8 => k1 z8)
 (k1 0)
 s2 s5.2.2.2.2.2.1 (↑(List.length s5.2.2.2.2.2.1)) 0))))))
structure c29 (x1 : tIN) (x2 x3 : Int) (k1 : Int → Prop) : Prop where
of :
 br ((x1.1 : Int) == 0)
 (br ((x1.2.1 : Int) == 0)
 (br ((x1.2.2.2.1 : Int) == 0)
 (j29r12
 (fun z4 => k1 z4)
 x2 x3 0 ((x1.2.2.2.2.1 : Int) == 0) x1)
 (j29r12
 (fun z5 => k1 z5)
 x2 x3 0 false x1))
 (j29r12
 (fun z6 => k1 z6)
 x2 x3 0 false x1))
 (br ((x1.1 : Int) == 1)
 (br ((x1.2.1 : Int) == 0)
 (br ((x1.2.2.1 : Int) == 0)
 (br ((x1.2.2.2.1 : Int) == 0)
 (j29r12
 (fun z7 => k1 z7)
 x2 x3 1 ((x1.2.2.2.2.1 : Int) == 0) x1)
 (j29r12
 (fun z8 => k1 z8)
 x2 x3 1 false x1))
 (j29r12
 (fun z9 => k1 z9)
 x2 x3 1 false x1))
 (j29r12
 (fun z10 => k1 z10)
 x2 x3 1 false x1))
 (br ((x1.1 : Int) == 2)
 (br ((x1.2.1 : Int) == 16)
 (j29r12
 (fun z11 => k1 z11)
 x2 x3 2 ((x1.2.2.2.2.1 : Int) == 0) x1)
 (br ((x1.2.1 : Int) == 17)
 (j29r12
 (fun z12 => k1 z12)
 x2 x3 2 ((x1.2.2.2.2.1 : Int) == 0) x1)
 (br ((x1.2.1 : Int) == 18)
 (j29r12
 (fun z13 => k1 z13)
 x2 x3 2 ((x1.2.2.2.2.1 : Int) == 0) x1)
 (j29r12
 (fun z14 => k1 z14)
 x2 x3 2 false x1))))
 (br ((x1.1 : Int) == 3)
 (br ((x1.2.1 : Int) == 0)
 (br ((x1.2.2.1 : Int) == 0)
 (br ((x1.2.2.2.1 : Int) == 0)
 (c26 x1.2.2.2.2.1 1 6
 (fun z15 => j29r12
 (fun z16 => k1 z16)
 x2 x3 0 z15 x1))
 (j29r12
 (fun z17 => k1 z17)
 x2 x3 0 false x1))
 (j29r12
 (fun z18 => k1 z18)
 x2 x3 0 false x1))
 (j29r12
 (fun z19 => k1 z19)
 x2 x3 0 false x1))
 (k1 1))))
structure l12r15 (k1 : Int → Prop) (k2 : tFN → Prop) (s1 : Int) (s2 : List tBK) (s3 s4 : Int) (s5 : tFN) : Prop where
of :
 ∀ (I1 : Int → (List tBK) → Int → Int → tFN → Prop),
 (∀ (s1 : Int) (s2 : List tBK) (s3 s4 : Int) (s5 : tFN), (br (decide (s4 < s3))
 (need False (at? s2 s4) fun y6 =>
 br (decide (((IntKind.wrap .i64 (s1 + (↑(List.length y6.1)))) : Int) > 4096))
 (k1 2)
 (l12r21
 (fun z7 => k1 z7)
 (fun z8 z9 z10 z11 z12 z13 => c29 z13.2.1 z12.2.2.1 (↑(List.length z12.2.2.2.1))
 (fun z14 => br (z14 != 0)
 (k1 z14)
 (I1 z8 z9 z10 (IntKind.wrap .i64 (z11 + 1)) z12)))
 (IntKind.wrap .i64 (s1 + (↑(List.length y6.1)))) s2 s3 s4 y6.1 (↑(List.length y6.1)) 0 s5 y6))
 (k2 s5)) → I1 s1 s2 s3 s4 s5) →
 I1 s1 s2 s3 s4 s5
structure l30r3 (k1 : tFN → q0 → Prop) (s1 s2 : Int) (s3 : tFN) (s4 : List (List Bool)) : Prop where
of :
 ∀ (I1 : Int → Int → tFN → q0 → Prop),
 (∀ (s1 s2 : Int) (s3 : tFN) (s4 : List (List Bool)), (br (decide (s2 < s1))
 (br (decide ((0 : Int) ≤ s3.2.2.1 ∧ (s3.2.2.1 : Int) ≤ s3.2.2.1 ∧ ((s3.2.2.1 * 1) : Int) ≤ 140737488355328))
 (br (decide (0 ≤ s2 ∧ s2 < (↑(List.length s4))))
 (need False (s4)[(Int.toNat s2)]? fun y5 =>
 I1 s1 (IntKind.wrap .i64 (s2 + 1)) s3 (List.set s4 (Int.toNat s2) (List.replicate (Int.toNat s3.2.2.1) (false : Bool))))
 False)
 False)
 (k1 s3 s4)) → I1 s1 s2 s3 s4) →
 I1 s1 s2 s3 s4
structure l47r6 (k1 : (List Int) → Int → Int → q0 → (List Bool) → Prop) (s1 : List Int) (s2 s3 s4 s5 : Int) (s6 : List (List Bool)) (s7 : Nat) (s8 s9 : List Bool) : Prop where
of :
 ∀ (I1 : (List Int) → Int → Int → Int → Int → q0 → Nat → (List Bool) → (List Bool) → Prop),
 (∀ (s1 : List Int) (s2 s3 s4 s5 : Int) (s6 : List (List Bool)) (s7 : Nat) (s8 s9 : List Bool), (br (decide (s5 < s4))
 (br (decide (0 ≤ s5 ∧ s5 < (↑(List.length s8))))
 (need False (s8)[(Int.toNat s5)]? fun y10 =>
 br (decide (0 ≤ s5 ∧ s5 < (↑(List.length s9))))
 (need False (s9)[(Int.toNat s5)]? fun y11 =>
 br (y11)
 (br (decide (0 ≤ s5 ∧ s5 < (↑(List.length s9))))
 (need False (s9)[(Int.toNat s5)]? fun y12 =>
 I1 s1 s2 s3 s4 (IntKind.wrap .i64 (s5 + 1)) s6 s7 s8 (List.set s9 (Int.toNat s5) true))
 False)
 (br (decide (0 ≤ s5 ∧ s5 < (↑(List.length s9))))
 (need False (s9)[(Int.toNat s5)]? fun y13 =>
 I1 s1 s2 s3 s4 (IntKind.wrap .i64 (s5 + 1)) s6 s7 s8 (List.set s9 (Int.toNat s5) y10))
 False))
 False)
 False)
 (k1 s1 s2 s3 (List.set s6 s7 s8) s9)) → I1 s1 s2 s3 s4 s5 s6 s7 s8 s9) →
 I1 s1 s2 s3 s4 s5 s6 s7 s8 s9
structure l47r3 (k1 : q0 → (List Bool) → Prop) (s1 : List Int) (s2 s3 : Int) (s4 : List (List Bool)) (s5 : List Bool) : Prop where
of :
 ∀ (I1 : (List Int) → Int → Int → q0 → (List Bool) → Prop),
 (∀ (s1 : List Int) (s2 s3 : Int) (s4 : List (List Bool)) (s5 : List Bool), (br (decide (s3 < s2))
 (need False (at? s1 s3) fun y6 =>
 br (decide (0 ≤ y6 ∧ y6 < (↑(List.length s4))))
 (need False (s4)[(Int.toNat y6)]? fun y7 =>
 need False (s4)[(Int.toNat y6)]? fun y8 =>
 l47r6
 (fun z9 z10 z11 z12 z13 => I1 z9 z10 (IntKind.wrap .i64 (z11 + 1)) z12 z13)
 s1 s2 s3 (↑(List.length y8)) 0 s4 (Int.toNat y6) y8 s5)
 False)
 (k1 s4 s5)) → I1 s1 s2 s3 s4 s5) →
 I1 s1 s2 s3 s4 s5
structure c47 (x1 : tFN) (x2 : Int) (x3 : List (List Bool)) (k1 : q0 → (List Bool) → Prop) : Prop where
of :
 br (decide ((0 : Int) ≤ x1.2.2.1 ∧ (x1.2.2.1 : Int) ≤ x1.2.2.1 ∧ ((x1.2.2.1 * 1) : Int) ≤ 140737488355328))
 (need False (at? x1.2.2.2.1 x2) fun y4 =>
 l47r3
 (fun z5 z6 => k1 z5 z6)
 y4.2.1.2.2.2.2.2.1 (↑(List.length y4.2.1.2.2.2.2.2.1)) 0 x3 (List.replicate (Int.toNat x1.2.2.1) (false : Bool)))
 False
structure c51 (x1 : Int) (k1 : Bool → Prop) : Prop where
of :
 k1 ((x1 : Int) == 0)
structure l55r2 (k1 : Int → Prop) (k2 : Prop) (s1 : List Int) (s2 s3 : Int) : Prop where
of :
 ∀ (I1 : (List Int) → Int → Int → Prop),
 (∀ (s1 : List Int) (s2 s3 : Int), (br (decide (s3 < s2))
 (need False (at? s1 s3) fun y4 =>
 c51 y4
 (fun z5 => br (z5)
 (k1 s3)
 (I1 s1 s2 (IntKind.wrap .i64 (s3 + 1)))))
 (k2)) → I1 s1 s2 s3) →
 I1 s1 s2 s3
structure c55 (x1 : List Int) (k1 : Int → Prop) : Prop where
of :
 l55r2
 (fun z2 => k1 z2)
 (k1 (-1))
 x1 (↑(List.length x1)) 0
structure l50r5 (k1 : Int → (List Int) → Prop) (s1 s2 : Int) (s3 : List Int) : Prop where
of :
 ∀ (I1 : Int → Int → (List Int) → Prop),
 (∀ (s1 s2 : Int) (s3 : List Int), (br (decide (s2 < (↑(List.length s3))))
 (br (decide (0 ≤ s2 ∧ s2 < (↑(List.length s3))))
 (need False (s3)[(Int.toNat s2)]? fun y4 =>
 c51 y4
 (fun z5 => br (!z5)
 (br (decide (0 ≤ s1 ∧ s1 < (↑(List.length s3))))
 (need False (s3)[(Int.toNat s1)]? fun y6 =>
 I1 (IntKind.wrap .i64 (s1 + 1)) (IntKind.wrap .i64 (s2 + 1)) (List.set s3 (Int.toNat s1) y4))
 False)
 (I1 s1 (IntKind.wrap .i64 (s2 + 1)) s3)))
 False)
 (k1 s1 s3)) → I1 s1 s2 s3) →
 I1 s1 s2 s3
structure c50 (x1 : List Int) (k1 : (List Int) → Prop) (k2 : Nat → Nat → Nat → (List Int) → Prop) : Prop where
of :
 c55 x1
 (fun z2 => br (z2 == (-1))
 (k1 x1)
 (l50r5
 (fun z3 z4 => br (decide ((0 : Int) ≤ z3 ∧ (z3 : Int) ≤ (↑(List.length z4)) ∧ ((↑(List.length z4)) : Int) ≤ (↑(List.length z4)) ∧ ((↑(List.length z4)) : Int) ≤ (↑(List.length z4))))
 (br (decide ((0 : Int) ≤ 0 ∧ (0 : Int) ≤ z3 ∧ (z3 : Int) ≤ (↑(List.length (((List.take (Int.toNat z3) z4) ++ (List.replicate (Int.toNat ((↑(List.length z4)) - z3)) (0 : Int))) ++ (List.drop ((Int.toNat z3) + (List.length (List.replicate (Int.toNat ((↑(List.length z4)) - z3)) (0 : Int)))) z4)))) ∧ ((↑(List.length (((List.take (Int.toNat z3) z4) ++ (List.replicate (Int.toNat ((↑(List.length z4)) - z3)) (0 : Int))) ++ (List.drop ((Int.toNat z3) + (List.length (List.replicate (Int.toNat ((↑(List.length z4)) - z3)) (0 : Int)))) z4)))) : Int) ≤ (↑(List.length (((List.take (Int.toNat z3) z4) ++ (List.replicate (Int.toNat ((↑(List.length z4)) - z3)) (0 : Int))) ++ (List.drop ((Int.toNat z3) + (List.length (List.replicate (Int.toNat ((↑(List.length z4)) - z3)) (0 : Int)))) z4))))))
 (k2 0 (Int.toNat (z3 - 0)) (Int.toNat ((↑(List.length (((List.take (Int.toNat z3) z4) ++ (List.replicate (Int.toNat ((↑(List.length z4)) - z3)) (0 : Int))) ++ (List.drop ((Int.toNat z3) + (List.length (List.replicate (Int.toNat ((↑(List.length z4)) - z3)) (0 : Int)))) z4)))) - 0)) (((List.take (Int.toNat z3) z4) ++ (List.replicate (Int.toNat ((↑(List.length z4)) - z3)) (0 : Int))) ++ (List.drop ((Int.toNat z3) + (List.length (List.replicate (Int.toNat ((↑(List.length z4)) - z3)) (0 : Int)))) z4)))
 False)
 False)
 z2 (IntKind.wrap .i64 (z2 + 1)) x1))
structure c33 (x1 : tIN) (k1 : (List Int) → Prop) (k2 : Nat → Nat → Nat → (List Int) → Prop) : Prop where
of :
 c50 [x1.2.2.1, x1.2.2.2.1]
 (fun z2 => k1 z2)
 (fun z3 z4 z5 z6 => k2 z3 z4 z5 z6)
structure l48r2 (k1 : (List Bool) → tBK → Prop) (s1 s2 : Int) (s3 : List Bool) (s4 : tBK) (s5 : List Int) : Prop where
of :
 ∀ (I1 : Int → Int → (List Bool) → tBK → (List Int) → Prop),
 (∀ (s1 s2 : Int) (s3 : List Bool) (s4 : tBK) (s5 : List Int), (br (decide (s2 < s1))
 (br (decide (0 ≤ s2 ∧ s2 < (↑(List.length s5))))
 (need False (s5)[(Int.toNat s2)]? fun y6 =>
 br (decide (0 ≤ y6 ∧ y6 < (↑(List.length s3))))
 (need False (s3)[(Int.toNat y6)]? fun y7 =>
 I1 s1 (IntKind.wrap .i64 (s2 + 1)) (List.set s3 (Int.toNat y6) true) s4 s5)
 False)
 False)
 (k1 s3 s4)) → I1 s1 s2 s3 s4 s5) →
 I1 s1 s2 s3 s4 s5
structure c34 (x1 : tIN) (k1 : Int → Prop) : Prop where
of :
 br ((x1.1 : Int) == 13)
 (k1 0)
 (br ((x1.1 : Int) == 23)
 (k1 0)
 (k1 x1.2.1))
structure c52 (x1 : Int) (k1 : Bool → Prop) : Prop where
of :
 k1 ((x1 : Int) == 0)
structure l55r2v2 (k1 : Int → Prop) (k2 : Prop) (s1 : List Int) (s2 s3 : Int) : Prop where
of :
 ∀ (I1 : (List Int) → Int → Int → Prop),
 (∀ (s1 : List Int) (s2 s3 : Int), (br (decide (s3 < s2))
 (need False (at? s1 s3) fun y4 =>
 c52 y4
 (fun z5 => br (z5)
 (k1 s3)
 (I1 s1 s2 (IntKind.wrap .i64 (s3 + 1)))))
 (k2)) → I1 s1 s2 s3) →
 I1 s1 s2 s3
structure c55v2 (x1 : List Int) (k1 : Int → Prop) : Prop where
of :
 l55r2v2
 (fun z2 => k1 z2)
 (k1 (-1))
 x1 (↑(List.length x1)) 0
structure l50r5v2 (k1 : Int → (List Int) → Prop) (s1 s2 : Int) (s3 : List Int) : Prop where
of :
 ∀ (I1 : Int → Int → (List Int) → Prop),
 (∀ (s1 s2 : Int) (s3 : List Int), (br (decide (s2 < (↑(List.length s3))))
 (br (decide (0 ≤ s2 ∧ s2 < (↑(List.length s3))))
 (need False (s3)[(Int.toNat s2)]? fun y4 =>
 c52 y4
 (fun z5 => br (!z5)
 (br (decide (0 ≤ s1 ∧ s1 < (↑(List.length s3))))
 (need False (s3)[(Int.toNat s1)]? fun y6 =>
 I1 (IntKind.wrap .i64 (s1 + 1)) (IntKind.wrap .i64 (s2 + 1)) (List.set s3 (Int.toNat s1) y4))
 False)
 (I1 s1 (IntKind.wrap .i64 (s2 + 1)) s3)))
 False)
 (k1 s1 s3)) → I1 s1 s2 s3) →
 I1 s1 s2 s3
structure c50v2 (x1 : List Int) (k1 : (List Int) → Prop) (k2 : Nat → Nat → Nat → (List Int) → Prop) : Prop where
of :
 c55v2 x1
 (fun z2 => br (z2 == (-1))
 (k1 x1)
 (l50r5v2
 (fun z3 z4 => br (decide ((0 : Int) ≤ z3 ∧ (z3 : Int) ≤ (↑(List.length z4)) ∧ ((↑(List.length z4)) : Int) ≤ (↑(List.length z4)) ∧ ((↑(List.length z4)) : Int) ≤ (↑(List.length z4))))
 (br (decide ((0 : Int) ≤ 0 ∧ (0 : Int) ≤ z3 ∧ (z3 : Int) ≤ (↑(List.length (((List.take (Int.toNat z3) z4) ++ (List.replicate (Int.toNat ((↑(List.length z4)) - z3)) (0 : Int))) ++ (List.drop ((Int.toNat z3) + (List.length (List.replicate (Int.toNat ((↑(List.length z4)) - z3)) (0 : Int)))) z4)))) ∧ ((↑(List.length (((List.take (Int.toNat z3) z4) ++ (List.replicate (Int.toNat ((↑(List.length z4)) - z3)) (0 : Int))) ++ (List.drop ((Int.toNat z3) + (List.length (List.replicate (Int.toNat ((↑(List.length z4)) - z3)) (0 : Int)))) z4)))) : Int) ≤ (↑(List.length (((List.take (Int.toNat z3) z4) ++ (List.replicate (Int.toNat ((↑(List.length z4)) - z3)) (0 : Int))) ++ (List.drop ((Int.toNat z3) + (List.length (List.replicate (Int.toNat ((↑(List.length z4)) - z3)) (0 : Int)))) z4))))))
 (k2 0 (Int.toNat (z3 - 0)) (Int.toNat ((↑(List.length (((List.take (Int.toNat z3) z4) ++ (List.replicate (Int.toNat ((↑(List.length z4)) - z3)) (0 : Int))) ++ (List.drop ((Int.toNat z3) + (List.length (List.replicate (Int.toNat ((↑(List.length z4)) - z3)) (0 : Int)))) z4)))) - 0)) (((List.take (Int.toNat z3) z4) ++ (List.replicate (Int.toNat ((↑(List.length z4)) - z3)) (0 : Int))) ++ (List.drop ((Int.toNat z3) + (List.length (List.replicate (Int.toNat ((↑(List.length z4)) - z3)) (0 : Int)))) z4)))
 False)
 False)
 z2 (IntKind.wrap .i64 (z2 + 1)) x1))
structure c50v3 (x1 : List Int) (k1 : (List Int) → Prop) (k2 : Nat → Nat → Nat → (List Int) → Prop) : Prop where
of :
 c55v2 x1
 (fun z2 => br (z2 == (-1))
 (k1 x1)
 (l50r5v2
 (fun z3 z4 => br (decide ((0 : Int) ≤ z3 ∧ (z3 : Int) ≤ (↑(List.length z4)) ∧ ((↑(List.length z4)) : Int) ≤ (↑(List.length z4)) ∧ ((↑(List.length z4)) : Int) ≤ (↑(List.length z4))))
 (br (decide ((0 : Int) ≤ 0 ∧ (0 : Int) ≤ z3 ∧ (z3 : Int) ≤ (↑(List.length (((List.take (Int.toNat z3) z4) ++ (List.replicate (Int.toNat ((↑(List.length z4)) - z3)) (0 : Int))) ++ (List.drop ((Int.toNat z3) + (List.length (List.replicate (Int.toNat ((↑(List.length z4)) - z3)) (0 : Int)))) z4)))) ∧ ((↑(List.length (((List.take (Int.toNat z3) z4) ++ (List.replicate (Int.toNat ((↑(List.length z4)) - z3)) (0 : Int))) ++ (List.drop ((Int.toNat z3) + (List.length (List.replicate (Int.toNat ((↑(List.length z4)) - z3)) (0 : Int)))) z4)))) : Int) ≤ (↑(List.length (((List.take (Int.toNat z3) z4) ++ (List.replicate (Int.toNat ((↑(List.length z4)) - z3)) (0 : Int))) ++ (List.drop ((Int.toNat z3) + (List.length (List.replicate (Int.toNat ((↑(List.length z4)) - z3)) (0 : Int)))) z4))))))
 (k2 0 (Int.toNat (z3 - 0)) (Int.toNat ((↑(List.length (((List.take (Int.toNat z3) z4) ++ (List.replicate (Int.toNat ((↑(List.length z4)) - z3)) (0 : Int))) ++ (List.drop ((Int.toNat z3) + (List.length (List.replicate (Int.toNat ((↑(List.length z4)) - z3)) (0 : Int)))) z4)))) - 0)) (((List.take (Int.toNat z3) z4) ++ (List.replicate (Int.toNat ((↑(List.length z4)) - z3)) (0 : Int))) ++ (List.drop ((Int.toNat z3) + (List.length (List.replicate (Int.toNat ((↑(List.length z4)) - z3)) (0 : Int)))) z4)))
 False)
 False)
 z2 (IntKind.wrap .i64 (z2 + 1)) x1))
structure c37 (x1 : tIN) (k1 : (List Int) → Prop) (k2 : Nat → Nat → Nat → (List Int) → Prop) : Prop where
of :
 br (List.isEmpty x1.2.2.2.2.2.1)
 (c50v2 [x1.2.2.1, x1.2.2.2.1]
 (fun z2 => k1 z2)
 (fun z3 z4 z5 z6 => k2 z3 z4 z5 z6))
 (br (roomB (2 + (List.length x1.2.2.2.2.2.1)) 8)
 (c50v3 ([x1.2.2.1, x1.2.2.2.1] ++ x1.2.2.2.2.2.1)
 (fun z7 => k1 z7)
 (fun z8 z9 z10 z11 => k2 z8 z9 z10 z11))
 False)
structure l48r11 (k1 : Int → (List Bool) → tBK → Prop) (s1 s2 s3 : Int) (s4 : List Bool) (s5 : tBK) (s6 : List Int) : Prop where
of :
 ∀ (I1 : Int → Int → Int → (List Bool) → tBK → (List Int) → Prop),
 (∀ (s1 s2 s3 : Int) (s4 : List Bool) (s5 : tBK) (s6 : List Int), (br (decide (s3 < s2))
 (br (decide (0 ≤ s3 ∧ s3 < (↑(List.length s6))))
 (need False (s6)[(Int.toNat s3)]? fun y7 =>
 br (decide (0 ≤ y7 ∧ y7 < (↑(List.length s4))))
 (need False (s4)[(Int.toNat y7)]? fun y8 =>
 I1 s1 s2 (IntKind.wrap .i64 (s3 + 1)) (List.set s4 (Int.toNat y7) true) s5 s6)
 False)
 False)
 (k1 s1 s4 s5)) → I1 s1 s2 s3 s4 s5 s6) →
 I1 s1 s2 s3 s4 s5 s6
structure l48r11v2 (k1 : Int → (List Bool) → tBK → Prop) (s1 : Int) (s2 s3 s4 : Nat) (s5 s6 : Int) (s7 : List Bool) (s8 : tBK) (s9 : List Int) : Prop where
of :
 ∀ (I1 : Int → Nat → Nat → Nat → Int → Int → (List Bool) → tBK → (List Int) → Prop),
 (∀ (s1 : Int) (s2 s3 s4 : Nat) (s5 s6 : Int) (s7 : List Bool) (s8 : tBK) (s9 : List Int), (br (decide (s6 < s5))
 (br (decide (0 ≤ s6 ∧ s6 < ((s3 : Nat) : Int)))
 (need False (s9)[(s2 + (Int.toNat s6))]? fun y10 =>
 br (decide (0 ≤ y10 ∧ y10 < (↑(List.length s7))))
 (need False (s7)[(Int.toNat y10)]? fun y11 =>
 I1 s1 s2 s3 s4 s5 (IntKind.wrap .i64 (s6 + 1)) (List.set s7 (Int.toNat y10) true) s8 s9)
 False)
 False)
 (k1 s1 s7 s8)) → I1 s1 s2 s3 s4 s5 s6 s7 s8 s9) →
 I1 s1 s2 s3 s4 s5 s6 s7 s8 s9
structure l48r7 (k1 : (List Bool) → Prop) (s1 : Int) (s2 : List Bool) (s3 : tBK) : Prop where
of :
 ∀ (I1 : Int → (List Bool) → tBK → Prop),
 (∀ (s1 : Int) (s2 : List Bool) (s3 : tBK), (br (decide (s1 ≥ 0))
 (need False (at? s3.1 s1) fun y4 =>
 c34 y4
 (fun z5 => br (decide (0 ≤ z5 ∧ z5 < (↑(List.length s2))))
 (need False (s2)[(Int.toNat z5)]? fun y6 =>
 need False (at? s3.1 s1) fun y7 =>
 c37 y7
 (fun z8 => l48r11
 (fun z9 z10 z11 => I1 (IntKind.wrap .i64 (z9 - 1)) z10 z11)
 s1 (↑(List.length z8)) 0 (List.set s2 (Int.toNat z5) false) s3 z8)
 (fun z12 z13 z14 z15 => l48r11v2
 (fun z16 z17 z18 => I1 (IntKind.wrap .i64 (z16 - 1)) z17 z18)
 s1 z12 z13 z14 ((z13 : Nat) : Int) 0 (List.set s2 (Int.toNat z5) false) s3 z15))
 False))
 (k1 s2)) → I1 s1 s2 s3) →
 I1 s1 s2 s3
structure l48r2v2 (k1 : (List Bool) → tBK → Prop) (s1 s2 s3 : Nat) (s4 s5 : Int) (s6 : List Bool) (s7 : tBK) (s8 : List Int) : Prop where
of :
 ∀ (I1 : Nat → Nat → Nat → Int → Int → (List Bool) → tBK → (List Int) → Prop),
 (∀ (s1 s2 s3 : Nat) (s4 s5 : Int) (s6 : List Bool) (s7 : tBK) (s8 : List Int), (br (decide (s5 < s4))
 (br (decide (0 ≤ s5 ∧ s5 < ((s2 : Nat) : Int)))
 (need False (s8)[(s1 + (Int.toNat s5))]? fun y9 =>
 br (decide (0 ≤ y9 ∧ y9 < (↑(List.length s6))))
 (need False (s6)[(Int.toNat y9)]? fun y10 =>
 I1 s1 s2 s3 s4 (IntKind.wrap .i64 (s5 + 1)) (List.set s6 (Int.toNat y9) true) s7 s8)
 False)
 False)
 (k1 s6 s7)) → I1 s1 s2 s3 s4 s5 s6 s7 s8) →
 I1 s1 s2 s3 s4 s5 s6 s7 s8
structure c48 (x1 : tBK) (x2 : List Bool) (k1 : (List Bool) → Prop) : Prop where
of :
 c33 x1.2.1
 (fun z3 => l48r2
 (fun z4 z5 => l48r7
 (fun z6 => br (decide ((0 : Int) ≤ 0 ∧ (0 : Int) < (↑(List.length z6))))
 (need False (z6)[0]? fun y7 =>
 k1 (List.set z6 0 false))
 False)
 (IntKind.wrap .i64 ((↑(List.length z5.1)) - 1)) z4 z5)
 (↑(List.length z3)) 0 x2 x1 z3)
 (fun z8 z9 z10 z11 => l48r2v2
 (fun z12 z13 => l48r7
 (fun z14 => br (decide ((0 : Int) ≤ 0 ∧ (0 : Int) < (↑(List.length z14))))
 (need False (z14)[0]? fun y15 =>
 k1 (List.set z14 0 false))
 False)
 (IntKind.wrap .i64 ((↑(List.length z13.1)) - 1)) z12 z13)
 z8 z9 z10 ((z9 : Nat) : Int) 0 x2 x1 z11)
structure l49r4 (k1 : Bool → Prop) (k2 : Prop) (s1 s2 : List Bool) (s3 s4 : Int) : Prop where
of :
 ∀ (I1 : (List Bool) → (List Bool) → Int → Int → Prop),
 (∀ (s1 s2 : List Bool) (s3 s4 : Int), (br (decide (s4 < s3))
 (need False (at? s1 s4) fun y5 =>
 need False (at? s2 s4) fun y6 =>
 br (!((y5 : Bool) == y6))
 (k1 false)
 (I1 s1 s2 s3 (IntKind.wrap .i64 (s4 + 1))))
 (k2)) → I1 s1 s2 s3 s4) →
 I1 s1 s2 s3 s4
structure c49 (x1 x2 : List Bool) (k1 : Bool → Prop) : Prop where
of :
 br (((↑(List.length x1)) : Int) != (↑(List.length x2)))
 (k1 false)
 (l49r4
 (fun z3 => k1 z3)
 (k1 true)
 x1 x2 (↑(List.length x1)) 0)
structure l30r11 (k1 : Bool → tFN → q0 → Prop) (s1 : Bool) (s2 : Int) (s3 : tFN) (s4 : List (List Bool)) : Prop where
of :
 ∀ (I1 : Bool → Int → tFN → q0 → Prop),
 (∀ (s1 : Bool) (s2 : Int) (s3 : tFN) (s4 : List (List Bool)), (br (decide (s2 ≥ 0))
 (c47 s3 s2 s4
 (fun z5 z6 => need False (at? s3.2.2.2.1 s2) fun y7 =>
 c48 y7 z6
 (fun z8 => br (decide (0 ≤ s2 ∧ s2 < (↑(List.length z5))))
 (need False (z5)[(Int.toNat s2)]? fun y9 =>
 need False (z5)[(Int.toNat s2)]? fun y10 =>
 c49 z8 y10
 (fun z11 => br (!z11)
 (br (decide (0 ≤ s2 ∧ s2 < (↑(List.length z5))))
 (need False (z5)[(Int.toNat s2)]? fun y12 =>
 br (decide ((Int.toNat s2) = (Int.toNat s2)))
 (I1 true (IntKind.wrap .i64 (s2 - 1)) s3 (List.set z5 (Int.toNat s2) z8))
 (I1 true (IntKind.wrap .i64 (s2 - 1)) s3 (List.set (List.set z5 (Int.toNat s2) z8) (Int.toNat s2) y10)))
 False)
 (I1 s1 (IntKind.wrap .i64 (s2 - 1)) s3 (List.set z5 (Int.toNat s2) y10))))
 False)))
 (k1 s1 s3 s4)) → I1 s1 s2 s3 s4) →
 I1 s1 s2 s3 s4
structure l30r8 (k1 : q0 → Prop) (s1 : Bool) (s2 : tFN) (s3 : List (List Bool)) : Prop where
of :
 ∀ (I1 : Bool → tFN → q0 → Prop),
 (∀ (s1 : Bool) (s2 : tFN) (s3 : List (List Bool)), (br (s1)
 (l30r11
 (fun z4 z5 z6 => I1 z4 z5 z6)
 false (IntKind.wrap .i64 ((↑(List.length s2.2.2.2.1)) - 1)) s2 s3)
 (k1 s3)) → I1 s1 s2 s3) →
 I1 s1 s2 s3
structure c30 (x1 : tFN) (k1 : q0 → Prop) : Prop where
of :
 br (decide ((((List.length x1.2.2.2.1) : Nat) : Int) = (((List.length x1.2.2.2.1) : Nat) : Int)))
 (br (decide ((0 : Int) ≤ (↑(List.length x1.2.2.2.1)) ∧ ((↑(List.length x1.2.2.2.1)) : Int) ≤ (↑(List.length x1.2.2.2.1)) ∧ (((↑(List.length x1.2.2.2.1)) * 24) : Int) ≤ 140737488355328))
 (l30r3
 (fun z2 z3 => l30r8
 (fun z4 => k1 z4)
 true z2 z3)
 (↑(List.length (List.replicate (Int.toNat (↑(List.length x1.2.2.2.1))) ([] : List (Bool))))) 0 x1 (List.replicate (Int.toNat (↑(List.length x1.2.2.2.1))) ([] : List (Bool))))
 False)
 False
structure l12r33 (k1 : Int → Prop) (k2 : Prop) (s1 : Int) (s2 : tFN) (s3 : List (List Bool)) : Prop where
of :
 ∀ (I1 : Int → tFN → q0 → Prop),
 (∀ (s1 : Int) (s2 : tFN) (s3 : List (List Bool)), (br (decide (s1 < s2.2.2.1))
 (br (decide ((0 : Int) ≤ 0 ∧ (0 : Int) < (↑(List.length s3))))
 (need False (s3)[0]? fun y4 =>
 need False (s3)[0]? fun y5 =>
 br (decide (0 ≤ s1 ∧ s1 < (↑(List.length y5))))
 (need False (y5)[(Int.toNat s1)]? fun y6 =>
 br (y6)
 (c27 s2.2.1 s1
 (fun z7 => br (!z7)
 (k1 12)
 (I1 (IntKind.wrap .i64 (s1 + 1)) s2 (List.set s3 0 y5))))
 (I1 (IntKind.wrap .i64 (s1 + 1)) s2 (List.set s3 0 y5)))
 False)
 False)
 (k2)) → I1 s1 s2 s3) →
 I1 s1 s2 s3
structure c12 (x1 : tFN) (k1 : Int → Prop) : Prop where
of :
 br (decide (((↑(List.length x1.2.1)) : Int) > 6))
 (k1 2)
 (br (decide (((↑(List.length x1.2.2.2.1)) : Int) > 4096))
 (k1 2)
 (c26 x1.2.2.1 1 8192
 (fun z2 => br (!z2)
 (k1 2)
 (br (((↑(List.length x1.2.2.2.1)) : Int) == 0)
 (k1 3)
 (l12r6
 (fun z3 => k1 z3)
 (fun z4 => l12r15
 (fun z5 => k1 z5)
 (fun z6 => c30 z6
 (fun z7 => l12r33
 (fun z8 => k1 z8)
 (k1 0)
 1 z6 z7))
 0 z4.2.2.2.1 (↑(List.length z4.2.2.2.1)) 0 z4)
 x1.2.1 (↑(List.length x1.2.1)) 0 x1)))))
structure l13r3 (k1 : tFN → q0 → (List Bool) → (List Bool) → (List (List Int)) → Prop) (s1 s2 : Int) (s3 : tFN) (s4 : List (List Bool)) (s5 s6 : List Bool) (s7 : List (List Int)) : Prop where
of :
 ∀ (I1 : Int → Int → tFN → q0 → (List Bool) → (List Bool) → (List (List Int)) → Prop),
 (∀ (s1 s2 : Int) (s3 : tFN) (s4 : List (List Bool)) (s5 s6 : List Bool) (s7 : List (List Int)), (br (decide (s2 < s1))
 (br (decide ((0 : Int) ≤ s3.2.2.1 ∧ (s3.2.2.1 : Int) ≤ s3.2.2.1 ∧ ((s3.2.2.1 * 1) : Int) ≤ 140737488355328))
 (br (true)
 (br (true)
 (br (true)
 (br (true && true)
 (br (true)
 (br (true)
 (br (true)
 (br (true && true)
 (br (roomB ((List.length s4) + 1) 24)
 (br (true)
 (I1 s1 (IntKind.wrap .i64 (s2 + 1)) s3 (List.set (s4 ++ (List.replicate 1 ([] : List (Bool)))) ((List.length s4) + 0) (List.replicate (Int.toNat s3.2.2.1) (false : Bool))) s5 s6 s7)
 False)
 False)
 False)
 False)
 False)
 False)
 False)
 False)
 False)
 False)
 False)
 (k1 s3 s4 s5 s6 s7)) → I1 s1 s2 s3 s4 s5 s6 s7) →
 I1 s1 s2 s3 s4 s5 s6 s7
structure l31r6 (k1 : q0 → q0 → Prop) (s1 s2 : Int) (s3 : tFN) (s4 s5 : List (List Bool)) : Prop where
of :
 ∀ (I1 : Int → Int → tFN → q0 → q0 → Prop),
 (∀ (s1 s2 : Int) (s3 : tFN) (s4 s5 : List (List Bool)), (br (decide (s2 < s1))
 (c47 s3 s2 s4
 (fun z6 z7 => br (roomB ((List.length s5) + 1) 24)
 (I1 s1 (IntKind.wrap .i64 (s2 + 1)) s3 z6 (List.set (s5 ++ (List.replicate 1 ([] : List (Bool)))) ((List.length s5) + 0) z7))
 False))
 (k1 s4 s5)) → I1 s1 s2 s3 s4 s5) →
 I1 s1 s2 s3 s4 s5
structure c31 (x1 : tFN) (k1 : Int → q0 → q0 → Prop) : Prop where
of :
 c12 x1
 (fun z2 => br (z2 != 0)
 (k1 z2 [] [])
 (c30 x1
 (fun z3 => l31r6
 (fun z4 z5 => k1 0 z4 z5)
 (↑(List.length x1.2.2.2.1)) 0 x1 z3 [])))
structure l32r1 (k1 : (List Bool) → q0 → (List Bool) → (List Bool) → (List (List Int)) → Prop) (s1 : List Int) (s2 s3 : Int) (s4 : List Bool) (s5 : List (List Bool)) (s6 s7 : List Bool) (s8 : List (List Int)) : Prop where
of :
 ∀ (I1 : (List Int) → Int → Int → (List Bool) → q0 → (List Bool) → (List Bool) → (List (List Int)) → Prop),
 (∀ (s1 : List Int) (s2 s3 : Int) (s4 : List Bool) (s5 : List (List Bool)) (s6 s7 : List Bool) (s8 : List (List Int)), (br (decide (s3 < s2))
 (need False (at? s1 s3) fun y9 =>
 (br (eqT (.int .i64) y9 y9)
 (br (true)
 (br (true)
 (br (true && true)
 (br (eqT (.int .i64) y9 y9)
 (br (eqT (.int .i64) y9 y9)
 (br (eqT (.int .i64) y9 y9)
 (br (decide (0 ≤ y9 ∧ y9 < (↑(List.length s4))))
 (need False (s4)[(Int.toNat y9)]? fun y10 =>
 br (eqT (.int .i64) y9 y9)
 (br (decide (0 ≤ y9 ∧ y9 < (↑(List.length s7))))
 (need False (s7)[(Int.toNat y9)]? fun y11 =>
 I1 s1 s2 (IntKind.wrap .i64 (s3 + 1)) (List.set s4 (Int.toNat y9) true) s5 s6 (List.set s7 (Int.toNat y9) true) s8)
 False)
 False)
 False)
 False)
 False)
 False)
 False)
 False)
 False)
 False) ∧
 (br (eqT (.int .i64) y9 y9)
 (br (eqT (.int .i64) y9 y9)
 (br (eqT (.int .i64) y9 y9)
 (br (eqT (.int .i64) y9 y9)
 (br (decide (0 ≤ y9 ∧ y9 < (↑(List.length s4))))
 (need False (s4)[(Int.toNat y9)]? fun y12 =>
 br (eqT (.int .i64) y9 y9)
 (br (decide (0 ≤ y9 ∧ y9 < (↑(List.length s7))))
 (need False (s7)[(Int.toNat y9)]? fun y13 =>
 I1 s1 s2 (IntKind.wrap .i64 (s3 + 1)) (List.set s4 (Int.toNat y9) true) s5 s6 (List.set s7 (Int.toNat y9) true) s8)
 False)
 False)
 False)
 False)
 False)
 False)
 False))
 (k1 s4 s5 s6 s7 s8)) → I1 s1 s2 s3 s4 s5 s6 s7 s8) →
 I1 s1 s2 s3 s4 s5 s6 s7 s8
structure c32 (x1 : List Int) (x2 : List Bool) (x3 : List (List Bool)) (x4 x5 : List Bool) (x6 : List (List Int)) (k1 : (List Bool) → q0 → (List Bool) → (List Bool) → (List (List Int)) → Prop) : Prop where
of :
 l32r1
 (fun z7 z8 z9 z10 z11 => k1 z7 z8 z9 z10 z11)
 x1 (↑(List.length x1)) 0 x2 x3 x4 x5 x6
structure c38 (x1 x2 : Int) (x3 : List (List Bool)) (x4 x5 : List Bool) (x6 : List (List Int)) (k1 : q0 → (List Bool) → (List Bool) → (List (List Int)) → Prop) : Prop where
of :
 br (x1 != x2)
 (br (x1 != 0)
 (br (x2 != 0)
 (br (decide (0 ≤ x1 ∧ x1 < (↑(List.length x3))))
 (br (decide (0 ≤ x2 ∧ x2 < (↑(List.length x3))))
 ((need False (x3)[(Int.toNat x1)]? fun y7 =>
 need False (x3)[(Int.toNat x1)]? fun y8 =>
 br (eqT (.int .i64) x2 x2)
 (br (true)
 (br (true)
 (br (true && true)
 (br (eqT (.int .i64) x2 x2)
 (br (decide (0 ≤ x2 ∧ x2 < (↑(List.length x3))))
 (br ((decide ((Int.toNat x2) = (Int.toNat x2))) && true)
 (br (eqT (.int .i64) x1 x1)
 (need False (x3)[(Int.toNat x2)]? fun y9 =>
 br (decide ((Int.toNat x2) = (Int.toNat x1)))
 (br (eqT (.int .i64) x2 x2)
 (br (eqT (.int .i64) x1 x1)
 (br (decide (0 ≤ x2 ∧ x2 < (↑(List.length y8))))
 (need False (y8)[(Int.toNat x2)]? fun y10 =>
 br (eqT (.int .i64) x1 x1)
 (br (decide (0 ≤ x1 ∧ x1 < (↑(List.length (List.set y8 (Int.toNat x2) true)))))
 (need False ((List.set y8 (Int.toNat x2) true))[(Int.toNat x1)]? fun y11 =>
 k1 (List.set x3 (Int.toNat x1) (List.set (List.set y8 (Int.toNat x2) true) (Int.toNat x1) true)) x4 x5 x6)
 False)
 False)
 False)
 False)
 False)
 (need False (x3)[(Int.toNat x2)]? fun y12 =>
 br (eqT (.int .i64) x2 x2)
 (br (eqT (.int .i64) x1 x1)
 (br (decide (0 ≤ x2 ∧ x2 < (↑(List.length y8))))
 (need False (y8)[(Int.toNat x2)]? fun y13 =>
 br (eqT (.int .i64) x1 x1)
 (br (decide (0 ≤ x1 ∧ x1 < (↑(List.length y12))))
 (need False (y12)[(Int.toNat x1)]? fun y14 =>
 k1 (List.set (List.set x3 (Int.toNat x2) (List.set y12 (Int.toNat x1) true)) (Int.toNat x1) (List.set y8 (Int.toNat x2) true)) x4 x5 x6)
 False)
 False)
 False)
 False)
 False))
 False)
 False)
 False)
 False)
 False)
 False)
 False)
 False) ∧
 (need False (x3)[(Int.toNat x2)]? fun y15 =>
 need False (x3)[(Int.toNat x2)]? fun y16 =>
 br (true)
 (br (true)
 (br (true && true)
 (br (eqT (.int .i64) x1 x1)
 (br (decide (0 ≤ x1 ∧ x1 < (↑(List.length x3))))
 (br ((decide ((Int.toNat x1) = (Int.toNat x1))) && true)
 (br (eqT (.int .i64) x2 x2)
 (br (eqT (.int .i64) x1 x1)
 (need False (x3)[(Int.toNat x1)]? fun y17 =>
 br (decide ((Int.toNat x1) = (Int.toNat x2)))
 (br (eqT (.int .i64) x2 x2)
 (br (eqT (.int .i64) x1 x1)
 (br (decide (0 ≤ x2 ∧ x2 < (↑(List.length y16))))
 (need False (y16)[(Int.toNat x2)]? fun y18 =>
 br (eqT (.int .i64) x1 x1)
 (br (decide (0 ≤ x1 ∧ x1 < (↑(List.length (List.set y16 (Int.toNat x2) true)))))
 (need False ((List.set y16 (Int.toNat x2) true))[(Int.toNat x1)]? fun y19 =>
 k1 (List.set x3 (Int.toNat x2) (List.set (List.set y16 (Int.toNat x2) true) (Int.toNat x1) true)) x4 x5 x6)
 False)
 False)
 False)
 False)
 False)
 (need False (x3)[(Int.toNat x1)]? fun y20 =>
 br (eqT (.int .i64) x2 x2)
 (br (eqT (.int .i64) x1 x1)
 (br (decide (0 ≤ x2 ∧ x2 < (↑(List.length y20))))
 (need False (y20)[(Int.toNat x2)]? fun y21 =>
 br (eqT (.int .i64) x1 x1)
 (br (decide (0 ≤ x1 ∧ x1 < (↑(List.length y16))))
 (need False (y16)[(Int.toNat x1)]? fun y22 =>
 k1 (List.set (List.set x3 (Int.toNat x1) (List.set y20 (Int.toNat x2) true)) (Int.toNat x2) (List.set y16 (Int.toNat x1) true)) x4 x5 x6)
 False)
 False)
 False)
 False)
 False))
 False)
 False)
 False)
 False)
 False)
 False)
 False)
 False))
 False)
 False)
 (k1 x3 x4 x5 x6))
 (k1 x3 x4 x5 x6))
 (k1 x3 x4 x5 x6)
structure l35r1 (k1 : q0 → (List Bool) → (List Bool) → (List (List Int)) → Prop) (s1 s2 : Int) (s3 : List Bool) (s4 s5 : Int) (s6 : List (List Bool)) (s7 s8 : List Bool) (s9 : List (List Int)) : Prop where
of :
 ∀ (I1 : Int → Int → (List Bool) → Int → Int → q0 → (List Bool) → (List Bool) → (List (List Int)) → Prop),
 (∀ (s1 s2 : Int) (s3 : List Bool) (s4 s5 : Int) (s6 : List (List Bool)) (s7 s8 : List Bool) (s9 : List (List Int)), (br (decide (s5 < s4))
 (need False (at? s3 s5) fun y10 =>
 br (y10)
 (br (s5 != s2)
 (c38 s1 s5 s6 s7 s8 s9
 (fun z11 z12 z13 z14 => I1 s1 s2 s3 s4 (IntKind.wrap .i64 (s5 + 1)) z11 z12 z13 z14))
 (I1 s1 s2 s3 s4 (IntKind.wrap .i64 (s5 + 1)) s6 s7 s8 s9))
 (I1 s1 s2 s3 s4 (IntKind.wrap .i64 (s5 + 1)) s6 s7 s8 s9))
 (k1 s6 s7 s8 s9)) → I1 s1 s2 s3 s4 s5 s6 s7 s8 s9) →
 I1 s1 s2 s3 s4 s5 s6 s7 s8 s9
structure c35 (x1 x2 : Int) (x3 : List Bool) (x4 : List (List Bool)) (x5 x6 : List Bool) (x7 : List (List Int)) (k1 : q0 → (List Bool) → (List Bool) → (List (List Int)) → Prop) : Prop where
of :
 l35r1
 (fun z8 z9 z10 z11 => k1 z8 z9 z10 z11)
 x1 x2 x3 (↑(List.length x3)) 0 x4 x5 x6 x7
structure c36 (x1 : Int) (k1 : Bool → Prop) : Prop where
of :
 br (x1 == 101)
 (k1 true)
 (k1 ((x1 : Int) == 102))
structure l13r26 (k1 : Int → (List tBK) → Int → Int → tFN → q0 → (List Bool) → (List Bool) → (List (List Int)) → q0 → q0 → Nat → (List Bool) → tBK → tIN → Prop) (s1 : Int) (s2 : List tBK) (s3 s4 s5 s6 : Int) (s7 : tFN) (s8 : List (List Bool)) (s9 s10 : List Bool) (s11 : List (List Int)) (s12 s13 : List (List Bool)) (s14 : Nat) (s15 : List Bool) (s16 : tBK) (s17 : tIN) : Prop where
of :
 ∀ (I1 : Int → (List tBK) → Int → Int → Int → Int → tFN → q0 → (List Bool) → (List Bool) → (List (List Int)) → q0 → q0 → Nat → (List Bool) → tBK → tIN → Prop),
 (∀ (s1 : Int) (s2 : List tBK) (s3 s4 s5 s6 : Int) (s7 : tFN) (s8 : List (List Bool)) (s9 s10 : List Bool) (s11 : List (List Int)) (s12 s13 : List (List Bool)) (s14 : Nat) (s15 : List Bool) (s16 : tBK) (s17 : tIN), (br (decide (s6 < s5))
 (br (decide (0 ≤ s6 ∧ s6 < (↑(List.length s15))))
 (need False (s15)[(Int.toNat s6)]? fun y18 =>
 (br (eqT (.int .i64) s6 s6)
 (br (true)
 (br (true)
 (br (true && true)
 (br (eqT (.int .i64) s6 s6)
 (br (eqT (.int .i64) s6 s6)
 (br (eqT (.int .i64) s6 s6)
 (br (decide (0 ≤ s6 ∧ s6 < (↑(List.length s9))))
 (need False (s9)[(Int.toNat s6)]? fun y19 =>
 br (y19)
 (br (decide (0 ≤ s6 ∧ s6 < (↑(List.length s9))))
 (need False (s9)[(Int.toNat s6)]? fun y20 =>
 I1 s1 s2 s3 s4 s5 (IntKind.wrap .i64 (s6 + 1)) s7 s8 (List.set s9 (Int.toNat s6) true) s10 s11 s12 s13 s14 s15 s16 s17)
 False)
 (br (decide (0 ≤ s6 ∧ s6 < (↑(List.length s9))))
 (need False (s9)[(Int.toNat s6)]? fun y21 =>
 I1 s1 s2 s3 s4 s5 (IntKind.wrap .i64 (s6 + 1)) s7 s8 (List.set s9 (Int.toNat s6) y18) s10 s11 s12 s13 s14 s15 s16 s17)
 False))
 False)
 False)
 False)
 False)
 False)
 False)
 False)
 False) ∧
 (br (true)
 (br (true)
 (br (true && true)
 (br (eqT (.int .i64) s6 s6)
 (br (eqT (.int .i64) s6 s6)
 (br (decide (0 ≤ s6 ∧ s6 < (↑(List.length s9))))
 (need False (s9)[(Int.toNat s6)]? fun y22 =>
 br (y22)
 (br (eqT (.int .i64) s6 s6)
 (br (eqT (.int .i64) s6 s6)
 (br (decide (0 ≤ s6 ∧ s6 < (↑(List.length s9))))
 (br ((decide ((Int.toNat s6) = (Int.toNat s6))) && true)
 (need False (s9)[(Int.toNat s6)]? fun y23 =>
 br (eqT .bool y22 y23)
 (br (eqT .bool true y22)
 (br (true)
 (br (decide (0 ≤ s6 ∧ s6 < (↑(List.length s9))))
 (need False (s9)[(Int.toNat s6)]? fun y24 =>
 I1 s1 s2 s3 s4 s5 (IntKind.wrap .i64 (s6 + 1)) s7 s8 (List.set s9 (Int.toNat s6) true) s10 s11 s12 s13 s14 s15 s16 s17)
 False)
 False)
 False)
 False)
 False)
 False)
 False)
 False)
 (br (eqT (.int .i64) s6 s6)
 (br (eqT (.int .i64) s6 s6)
 (br (decide (0 ≤ s6 ∧ s6 < (↑(List.length s9))))
 (br ((decide ((Int.toNat s6) = (Int.toNat s6))) && true)
 (need False (s9)[(Int.toNat s6)]? fun y25 =>
 br (eqT .bool y22 y25)
 (br (eqT .bool false y22)
 (br (eqT .bool y18 y18)
 (br (eqT .bool y18 y18)
 (br (decide (0 ≤ s6 ∧ s6 < (↑(List.length s9))))
 (need False (s9)[(Int.toNat s6)]? fun y26 =>
 I1 s1 s2 s3 s4 s5 (IntKind.wrap .i64 (s6 + 1)) s7 s8 (List.set s9 (Int.toNat s6) y18) s10 s11 s12 s13 s14 s15 s16 s17)
 False)
 False)
 False)
 False)
 False)
 False)
 False)
 False)
 False))
 False)
 False)
 False)
 False)
 False)
 False))
 False)
 (k1 s1 s2 s3 s4 s7 s8 s9 s10 s11 s12 s13 s14 s15 s16 s17)) → I1 s1 s2 s3 s4 s5 s6 s7 s8 s9 s10 s11 s12 s13 s14 s15 s16 s17) →
 I1 s1 s2 s3 s4 s5 s6 s7 s8 s9 s10 s11 s12 s13 s14 s15 s16 s17
structure j13r24 (k1 : Int → (List tBK) → Int → Int → tFN → q0 → (List Bool) → (List Bool) → (List (List Int)) → q0 → q0 → Nat → (List Bool) → tBK → Prop) (s1 : Int) (s2 : List tBK) (s3 s4 : Int) (s5 : tFN) (s6 : List (List Bool)) (s7 s8 : List Bool) (s9 : List (List Int)) (s10 s11 : List (List Bool)) (s12 : Nat) (s13 : List Bool) (s14 : tBK) (s15 : tIN) : Prop where
of :
 c36 s15.1
 (fun z16 => br (z16)
 (l13r26
 (fun z17 z18 z19 z20 z21 z22 z23 z24 z25 z26 z27 z28 z29 z30 z31 => c37 z31
 (fun z32 => c32 z32 z29 z22 z23 z24 z25
 (fun z33 z34 z35 z36 z37 => k1 z17 z18 z19 z20 z21 z34 z35 z36 z37 z26 z27 z28 z33 z30))
 (fun z38 z39 z40 z41 => c32 (List.take z39 (List.drop z38 z41)) z29 z22 z23 z24 z25
 (fun z42 z43 z44 z45 z46 => k1 z17 z18 z19 z20 z21 z43 z44 z45 z46 z26 z27 z28 z42 z30)))
 s1 s2 s3 s4 (↑(List.length s13)) 0 s5 s6 s7 s8 s9 s10 s11 s12 s13 s14 s15)
 (c37 s15
 (fun z47 => c32 z47 s13 s6 s7 s8 s9
 (fun z48 z49 z50 z51 z52 => k1 s1 s2 s3 s4 s5 z49 z50 z51 z52 s10 s11 s12 z48 s14))
 (fun z53 z54 z55 z56 => c32 (List.take z54 (List.drop z53 z56)) s13 s6 s7 s8 s9
 (fun z57 z58 z59 z60 z61 => k1 s1 s2 s3 s4 s5 z58 z59 z60 z61 s10 s11 s12 z57 s14))))
structure j13r22 (k1 : Int → (List tBK) → Int → Int → tFN → q0 → (List Bool) → (List Bool) → (List (List Int)) → q0 → q0 → Nat → (List Bool) → tBK → Prop) (s1 s2 s3 : Int) (s4 : List tBK) (s5 s6 : Int) (s7 : tFN) (s8 : List (List Bool)) (s9 s10 : List Bool) (s11 : List (List Int)) (s12 s13 : List (List Bool)) (s14 : Nat) (s15 : List Bool) (s16 : tBK) (s17 : tIN) : Prop where
of :
 c35 s2 s3 s15 s8 s9 s10 s11
 (fun z18 z19 z20 z21 => (br (eqT (.int .i64) s2 s2)
 (br (eqT (.int .i64) s2 s2)
 (br (decide (0 ≤ s2 ∧ s2 < (↑(List.length z20))))
 ((br (eqT (.int .i64) s2 s2)
 (br (eqT (.int .i64) s2 s2)
 (br (decide (0 ≤ s2 ∧ s2 < (↑(List.length z20))))
 (br ((decide ((Int.toNat s2) = (Int.toNat s2))) && true)
 (need False (z20)[(Int.toNat s2)]? fun y22 =>
 br (eqT (.int .i64) s2 s2)
 (br (decide (0 ≤ s2 ∧ s2 < (↑(List.length s15))))
 (need False (s15)[(Int.toNat s2)]? fun y23 =>
 j13r24
 (fun z24 z25 z26 z27 z28 z29 z30 z31 z32 z33 z34 z35 z36 z37 => k1 z24 z25 z26 z27 z28 z29 z30 z31 z32 z33 z34 z35 z36 z37)
 s1 s4 s5 s6 s7 z18 z19 (List.set z20 (Int.toNat s2) true) z21 s12 s13 s14 (List.set s15 (Int.toNat s2) false) s16 s17)
 False)
 False)
 False)
 False)
 False)
 False) ∧
 (need False (z20)[(Int.toNat s2)]? fun y38 =>
 br (eqT (.int .i64) s2 s2)
 (br (eqT (.int .i64) s2 s2)
 (br (decide (0 ≤ s2 ∧ s2 < (↑(List.length s15))))
 (need False (s15)[(Int.toNat s2)]? fun y39 =>
 j13r24
 (fun z40 z41 z42 z43 z44 z45 z46 z47 z48 z49 z50 z51 z52 z53 => k1 z40 z41 z42 z43 z44 z45 z46 z47 z48 z49 z50 z51 z52 z53)
 s1 s4 s5 s6 s7 z18 z19 (List.set z20 (Int.toNat s2) true) z21 s12 s13 s14 (List.set s15 (Int.toNat s2) false) s16 s17)
 False)
 False)
 False))
 False)
 False)
 False) ∧
 (br (true)
 (br (true)
 (br (true && true)
 (br (eqT (.int .i64) s2 s2)
 (br (eqT (.int .i64) s2 s2)
 (br (eqT (.int .i64) s2 s2)
 (br (eqT (.int .i64) s2 s2)
 (br (decide (0 ≤ s2 ∧ s2 < (↑(List.length z20))))
 (need False (z20)[(Int.toNat s2)]? fun y54 =>
 br (eqT (.int .i64) s2 s2)
 (br (decide (0 ≤ s2 ∧ s2 < (↑(List.length s15))))
 (need False (s15)[(Int.toNat s2)]? fun y55 =>
 j13r24
 (fun z56 z57 z58 z59 z60 z61 z62 z63 z64 z65 z66 z67 z68 z69 => k1 z56 z57 z58 z59 z60 z61 z62 z63 z64 z65 z66 z67 z68 z69)
 s1 s4 s5 s6 s7 z18 z19 (List.set z20 (Int.toNat s2) true) z21 s12 s13 s14 (List.set s15 (Int.toNat s2) false) s16 s17)
 False)
 False)
 False)
 False)
 False)
 False)
 False)
 False)
 False)
 False))
structure l13r14 (k1 : (List tBK) → Int → Int → tFN → q0 → (List Bool) → (List Bool) → (List (List Int)) → q0 → q0 → Prop) (s1 : Int) (s2 : List tBK) (s3 s4 : Int) (s5 : tFN) (s6 : List (List Bool)) (s7 s8 : List Bool) (s9 : List (List Int)) (s10 s11 : List (List Bool)) (s12 : Nat) (s13 : List Bool) (s14 : tBK) : Prop where
of :
 ∀ (I1 : Int → (List tBK) → Int → Int → tFN → q0 → (List Bool) → (List Bool) → (List (List Int)) → q0 → q0 → Nat → (List Bool) → tBK → Prop),
 (∀ (s1 : Int) (s2 : List tBK) (s3 s4 : Int) (s5 : tFN) (s6 : List (List Bool)) (s7 s8 : List Bool) (s9 : List (List Int)) (s10 s11 : List (List Bool)) (s12 : Nat) (s13 : List Bool) (s14 : tBK), (br (decide (s1 ≥ 0))
 (need False (at? s14.1 s1) fun y15 =>
 c34 y15
 (fun z16 => br ((y15.1 : Int) == 100)
 (br ((y15.2.2.1 : Int) != 0)
 (br (z16 != 0)
 (br ((y15.2.2.1 : Int) != z16)
 (br (true)
 (br (true)
 (br (true)
 (br (true && true)
 (br (roomB ((List.length s9) + 1) 16)
 (br (true)
 (j13r22
 (fun z17 z18 z19 z20 z21 z22 z23 z24 z25 z26 z27 z28 z29 z30 => I1 (IntKind.wrap .i64 (z17 - 1)) z18 z19 z20 z21 z22 z23 z24 z25 z26 z27 z28 z29 z30)
 s1 z16 y15.2.2.1 s2 s3 s4 s5 s6 s7 s8 (s9 ++ [[z16, y15.2.2.1]]) s10 s11 s12 s13 s14 y15)
 False)
 False)
 False)
 False)
 False)
 False)
 (j13r22
 (fun z31 z32 z33 z34 z35 z36 z37 z38 z39 z40 z41 z42 z43 z44 => I1 (IntKind.wrap .i64 (z31 - 1)) z32 z33 z34 z35 z36 z37 z38 z39 z40 z41 z42 z43 z44)
 s1 z16 y15.2.2.1 s2 s3 s4 s5 s6 s7 s8 s9 s10 s11 s12 s13 s14 y15))
 (j13r22
 (fun z45 z46 z47 z48 z49 z50 z51 z52 z53 z54 z55 z56 z57 z58 => I1 (IntKind.wrap .i64 (z45 - 1)) z46 z47 z48 z49 z50 z51 z52 z53 z54 z55 z56 z57 z58)
 s1 z16 y15.2.2.1 s2 s3 s4 s5 s6 s7 s8 s9 s10 s11 s12 s13 s14 y15))
 (j13r22
 (fun z59 z60 z61 z62 z63 z64 z65 z66 z67 z68 z69 z70 z71 z72 => I1 (IntKind.wrap .i64 (z59 - 1)) z60 z61 z62 z63 z64 z65 z66 z67 z68 z69 z70 z71 z72)
 s1 z16 y15.2.2.1 s2 s3 s4 s5 s6 s7 s8 s9 s10 s11 s12 s13 s14 y15))
 (j13r22
 (fun z73 z74 z75 z76 z77 z78 z79 z80 z81 z82 z83 z84 z85 z86 => I1 (IntKind.wrap .i64 (z73 - 1)) z74 z75 z76 z77 z78 z79 z80 z81 z82 z83 z84 z85 z86)
 s1 z16 0 s2 s3 s4 s5 s6 s7 s8 s9 s10 s11 s12 s13 s14 y15)))
 (k1 s2 s3 s4 s5 s6 s7 s8 s9 s10 (List.set s11 s12 s13))) → I1 s1 s2 s3 s4 s5 s6 s7 s8 s9 s10 s11 s12 s13 s14) →
 I1 s1 s2 s3 s4 s5 s6 s7 s8 s9 s10 s11 s12 s13 s14
structure l13r8 (k1 : tFN → q0 → (List Bool) → (List Bool) → (List (List Int)) → q0 → Prop) (s1 : List tBK) (s2 s3 : Int) (s4 : tFN) (s5 : List (List Bool)) (s6 s7 : List Bool) (s8 : List (List Int)) (s9 s10 : List (List Bool)) : Prop where
of :
 ∀ (I1 : (List tBK) → Int → Int → tFN → q0 → (List Bool) → (List Bool) → (List (List Int)) → q0 → q0 → Prop),
 (∀ (s1 : List tBK) (s2 s3 : Int) (s4 : tFN) (s5 : List (List Bool)) (s6 s7 : List Bool) (s8 : List (List Int)) (s9 s10 : List (List Bool)), (br (decide (s3 < s2))
 (need False (at? s1 s3) fun y11 =>
 br (decide (0 ≤ s3 ∧ s3 < (↑(List.length s10))))
 (need False (s10)[(Int.toNat s3)]? fun y12 =>
 need False (s10)[(Int.toNat s3)]? fun y13 =>
 c33 y11.2.1
 (fun z14 => c32 z14 y13 s5 s6 s7 s8
 (fun z15 z16 z17 z18 z19 => l13r14
 (fun z20 z21 z22 z23 z24 z25 z26 z27 z28 z29 => I1 z20 z21 (IntKind.wrap .i64 (z22 + 1)) z23 z24 z25 z26 z27 z28 z29)
 (IntKind.wrap .i64 ((↑(List.length y11.1)) - 1)) s1 s2 s3 s4 z16 z17 z18 z19 s9 s10 (Int.toNat s3) z15 y11))
 (fun z30 z31 z32 z33 => c32 (List.take z31 (List.drop z30 z33)) y13 s5 s6 s7 s8
 (fun z34 z35 z36 z37 z38 => l13r14
 (fun z39 z40 z41 z42 z43 z44 z45 z46 z47 z48 => I1 z39 z40 (IntKind.wrap .i64 (z41 + 1)) z42 z43 z44 z45 z46 z47 z48)
 (IntKind.wrap .i64 ((↑(List.length y11.1)) - 1)) s1 s2 s3 s4 z35 z36 z37 z38 s9 s10 (Int.toNat s3) z34 y11)))
 False)
 (k1 s4 s5 s6 s7 s8 s9)) → I1 s1 s2 s3 s4 s5 s6 s7 s8 s9 s10) →
 I1 s1 s2 s3 s4 s5 s6 s7 s8 s9 s10
structure l13r37 (k1 : Int → (List Int) → Int → Int → tFN → q0 → (List Bool) → (List Bool) → (List (List Int)) → q0 → Prop) (s1 : Int) (s2 : List Int) (s3 s4 : Int) (s5 : List Int) (s6 s7 : Int) (s8 : tFN) (s9 : List (List Bool)) (s10 s11 : List Bool) (s12 : List (List Int)) (s13 : List (List Bool)) : Prop where
of :
 ∀ (I1 : Int → (List Int) → Int → Int → (List Int) → Int → Int → tFN → q0 → (List Bool) → (List Bool) → (List (List Int)) → q0 → Prop),
 (∀ (s1 : Int) (s2 : List Int) (s3 s4 : Int) (s5 : List Int) (s6 s7 : Int) (s8 : tFN) (s9 : List (List Bool)) (s10 s11 : List Bool) (s12 : List (List Int)) (s13 : List (List Bool)), (br (decide (s7 < s6))
 (need False (at? s5 s7) fun y14 =>
 c38 s1 y14 s9 s10 s11 s12
 (fun z15 z16 z17 z18 => I1 s1 s2 s3 s4 s5 s6 (IntKind.wrap .i64 (s7 + 1)) s8 z15 z16 z17 z18 s13))
 (k1 s1 s2 s3 s4 s8 s9 s10 s11 s12 s13)) → I1 s1 s2 s3 s4 s5 s6 s7 s8 s9 s10 s11 s12 s13) →
 I1 s1 s2 s3 s4 s5 s6 s7 s8 s9 s10 s11 s12 s13
structure l13r33 (k1 : q0 → (List Bool) → (List Bool) → (List (List Int)) → Prop) (s1 : List Int) (s2 s3 : Int) (s4 : tFN) (s5 : List (List Bool)) (s6 s7 : List Bool) (s8 : List (List Int)) (s9 : List (List Bool)) : Prop where
of :
 ∀ (I1 : (List Int) → Int → Int → tFN → q0 → (List Bool) → (List Bool) → (List (List Int)) → q0 → Prop),
 (∀ (s1 : List Int) (s2 s3 : Int) (s4 : tFN) (s5 : List (List Bool)) (s6 s7 : List Bool) (s8 : List (List Int)) (s9 : List (List Bool)), (br (decide (s3 < s2))
 (need False (at? s1 s3) fun y10 =>
 br (decide (0 ≤ y10 ∧ y10 < (↑(List.length s7))))
 (need False (s7)[(Int.toNat y10)]? fun y11 =>
 br (decide ((0 : Int) ≤ 0 ∧ (0 : Int) ≤ s3 ∧ (s3 : Int) ≤ (↑(List.length s4.2.1))))
 (l13r37
 (fun z12 z13 z14 z15 z16 z17 z18 z19 z20 z21 => br (decide ((0 : Int) ≤ 0 ∧ (0 : Int) < (↑(List.length z21))))
 (need False (z21)[0]? fun y22 =>
 need False (z21)[0]? fun y23 =>
 br (true)
 (br (eqT (.int .i64) z12 z12)
 (c35 z12 0 y23 z17 z18 z19 z20
 (fun z24 z25 z26 z27 => I1 z13 z14 (IntKind.wrap .i64 (z15 + 1)) z16 z24 z25 z26 z27 (List.set z21 0 y23)))
 False)
 False)
 False)
 y10 s1 s2 s3 (List.drop 0 (List.take (Int.toNat s3) s4.2.1)) (↑(List.length (List.drop 0 (List.take (Int.toNat s3) s4.2.1)))) 0 s4 s5 s6 (List.set s7 (Int.toNat y10) true) s8 s9)
 False)
 False)
 (k1 s5 s6 s7 s8)) → I1 s1 s2 s3 s4 s5 s6 s7 s8 s9) →
 I1 s1 s2 s3 s4 s5 s6 s7 s8 s9
structure j13r2 (k1 : q0 → (List Bool) → (List Bool) → (List (List Int)) → Prop) (s1 : tFN) (s2 : List (List Bool)) (s3 s4 : List Bool) (s5 : List (List Int)) : Prop where
of :
 l13r3
 (fun z6 z7 z8 z9 z10 => c31 z6
 (fun z11 z12 z13 => l13r8
 (fun z14 z15 z16 z17 z18 z19 => l13r33
 (fun z20 z21 z22 z23 => br (decide ((0 : Int) ≤ 0 ∧ (0 : Int) < (↑(List.length z22))))
 (need False (z22)[0]? fun y24 =>
 k1 z20 z21 (List.set z22 0 false) z23)
 False)
 z14.2.1 (↑(List.length z14.2.1)) 0 z14 z15 z16 z17 z18 z19)
 z6.2.2.2.1 (↑(List.length z6.2.2.2.1)) 0 z6 z7 z8 z9 z10 z12 z13))
 s1.2.2.1 0 s1 s2 s3 s4 s5
structure c13 (x1 : tFN) (k1 : q0 → (List Bool) → (List Bool) → (List (List Int)) → Prop) : Prop where
of :
 (br (decide ((0 : Int) ≤ x1.2.2.1 ∧ (x1.2.2.1 : Int) ≤ x1.2.2.1 ∧ ((x1.2.2.1 * 1) : Int) ≤ 140737488355328))
 (br (true && true)
 (br (eqT (.int .i64) x1.2.2.1 x1.2.2.1)
 ((br (decide ((0 : Int) ≤ x1.2.2.1 ∧ (x1.2.2.1 : Int) ≤ x1.2.2.1 ∧ ((x1.2.2.1 * 1) : Int) ≤ 140737488355328))
 ((j13r2
 (fun z2 z3 z4 z5 => k1 z2 z3 z4 z5)
 x1 [] (List.replicate (Int.toNat x1.2.2.1) (false : Bool)) (List.replicate (Int.toNat x1.2.2.1) (false : Bool)) []) ∧
 (br (true && (true && (true && true)))
 (j13r2
 (fun z6 z7 z8 z9 => k1 z6 z7 z8 z9)
 x1 [] (List.replicate (Int.toNat x1.2.2.1) (false : Bool)) (List.replicate (Int.toNat x1.2.2.1) (false : Bool)) [])
 False))
 False) ∧
 (br (true && true)
 (br (eqT (.int .i64) x1.2.2.1 x1.2.2.1)
 (br (decide ((0 : Int) ≤ x1.2.2.1 ∧ (x1.2.2.1 : Int) ≤ x1.2.2.1 ∧ ((x1.2.2.1 * 1) : Int) ≤ 140737488355328))
 (j13r2
 (fun z10 z11 z12 z13 => k1 z10 z11 z12 z13)
 x1 [] (List.replicate (Int.toNat x1.2.2.1) (false : Bool)) (List.replicate (Int.toNat x1.2.2.1) (false : Bool)) [])
 False)
 False)
 False))
 False)
 False)
 False) ∧
 ((br (decide ((0 : Int) ≤ x1.2.2.1 ∧ (x1.2.2.1 : Int) ≤ x1.2.2.1 ∧ ((x1.2.2.1 * 1) : Int) ≤ 140737488355328))
 (br (true && true)
 (br (eqT (.int .i64) x1.2.2.1 x1.2.2.1)
 ((br (decide ((0 : Int) ≤ x1.2.2.1 ∧ (x1.2.2.1 : Int) ≤ x1.2.2.1 ∧ ((x1.2.2.1 * 1) : Int) ≤ 140737488355328))
 ((j13r2
 (fun z14 z15 z16 z17 => k1 z14 z15 z16 z17)
 x1 [] (List.replicate (Int.toNat x1.2.2.1) (false : Bool)) (List.replicate (Int.toNat x1.2.2.1) (false : Bool)) []) ∧
 (br (true && (true && (true && true)))
 (j13r2
 (fun z18 z19 z20 z21 => k1 z18 z19 z20 z21)
 x1 [] (List.replicate (Int.toNat x1.2.2.1) (false : Bool)) (List.replicate (Int.toNat x1.2.2.1) (false : Bool)) [])
 False))
 False) ∧
 (br (true && true)
 (br (eqT (.int .i64) x1.2.2.1 x1.2.2.1)
 (br (decide ((0 : Int) ≤ x1.2.2.1 ∧ (x1.2.2.1 : Int) ≤ x1.2.2.1 ∧ ((x1.2.2.1 * 1) : Int) ≤ 140737488355328))
 (j13r2
 (fun z22 z23 z24 z25 => k1 z22 z23 z24 z25)
 x1 [] (List.replicate (Int.toNat x1.2.2.1) (false : Bool)) (List.replicate (Int.toNat x1.2.2.1) (false : Bool)) [])
 False)
 False)
 False))
 False)
 False)
 False) ∧
 (br (true && true)
 (br (eqT (.int .i64) x1.2.2.1 x1.2.2.1)
 (br (true && true)
 (br (eqT (.int .i64) x1.2.2.1 x1.2.2.1)
 ((br (decide ((0 : Int) ≤ x1.2.2.1 ∧ (x1.2.2.1 : Int) ≤ x1.2.2.1 ∧ ((x1.2.2.1 * 1) : Int) ≤ 140737488355328))
 (br (true && true)
 (br (eqT (.int .i64) x1.2.2.1 x1.2.2.1)
 (br (decide ((0 : Int) ≤ x1.2.2.1 ∧ (x1.2.2.1 : Int) ≤ x1.2.2.1 ∧ ((x1.2.2.1 * 1) : Int) ≤ 140737488355328))
 (j13r2
 (fun z26 z27 z28 z29 => k1 z26 z27 z28 z29)
 x1 [] (List.replicate (Int.toNat x1.2.2.1) (false : Bool)) (List.replicate (Int.toNat x1.2.2.1) (false : Bool)) [])
 False)
 False)
 False)
 False) ∧
 (br (decide ((0 : Int) ≤ x1.2.2.1 ∧ (x1.2.2.1 : Int) ≤ x1.2.2.1 ∧ ((x1.2.2.1 * 1) : Int) ≤ 140737488355328))
 (br (true && true)
 (br (eqT (.int .i64) x1.2.2.1 x1.2.2.1)
 (br (decide ((0 : Int) ≤ x1.2.2.1 ∧ (x1.2.2.1 : Int) ≤ x1.2.2.1 ∧ ((x1.2.2.1 * 1) : Int) ≤ 140737488355328))
 (j13r2
 (fun z30 z31 z32 z33 => k1 z30 z31 z32 z33)
 x1 [] (List.replicate (Int.toNat x1.2.2.1) (false : Bool)) (List.replicate (Int.toNat x1.2.2.1) (false : Bool)) [])
 False)
 False)
 False)
 False))
 False)
 False)
 False)
 False))
structure l14r3 (k1 : Int → q0 → (List Bool) → (List Bool) → (List (List Int)) → (List Int) → Prop) (s1 s2 s3 : Int) (s4 : List (List Bool)) (s5 s6 : List Bool) (s7 : List (List Int)) (s8 : List Int) : Prop where
of :
 ∀ (I1 : Int → Int → Int → q0 → (List Bool) → (List Bool) → (List (List Int)) → (List Int) → Prop),
 (∀ (s1 s2 s3 : Int) (s4 : List (List Bool)) (s5 s6 : List Bool) (s7 : List (List Int)) (s8 : List Int), (br (decide (s3 < s2))
 (br (decide (0 ≤ s3 ∧ s3 < (↑(List.length s8))))
 (need False (s8)[(Int.toNat s3)]? fun y9 =>
 I1 s1 s2 (IntKind.wrap .i64 (s3 + 1)) s4 s5 s6 s7 (List.set s8 (Int.toNat s3) s3))
 False)
 (k1 s1 s4 s5 s6 s7 s8)) → I1 s1 s2 s3 s4 s5 s6 s7 s8) →
 I1 s1 s2 s3 s4 s5 s6 s7 s8
structure l17r1 (k1 : Int → Prop) (s1 : List Int) (s2 : Int) : Prop where
of :
 ∀ (I1 : (List Int) → Int → Prop),
 (∀ (s1 : List Int) (s2 : Int), (need False (at? s1 s2) fun y3 =>
 br (y3 != s2)
 (need False (at? s1 s2) fun y4 =>
 I1 s1 y4)
 (k1 s2)) → I1 s1 s2) →
 I1 s1 s2
structure c17 (x1 : List Int) (x2 : Int) (k1 : Int → Prop) : Prop where
of :
 l17r1
 (fun z3 => k1 z3)
 x1 x2
structure c39 (x1 : List Bool) (k1 : (List Bool) → Prop) : Prop where
of :
 br (List.isEmpty x1)
 ((k1 []) ∧
 (br (List.isEmpty x1)
 (k1 [])
 (br (roomB (0 + (List.length x1)) 1)
 (k1 ([] ++ x1))
 False)))
 (br (List.isEmpty x1)
 (k1 [])
 (br (roomB (0 + (List.length x1)) 1)
 (k1 ([] ++ x1))
 False))
structure c38v2 (x1 x2 : Int) (x3 : List (List Bool)) (x4 : Nat) (x5 x6 x7 : List Bool) (x8 : List (List Int)) (k1 : q0 → Nat → (List Bool) → (List Bool) → (List Bool) → (List (List Int)) → Prop) : Prop where
of :
 br (x1 != x2)
 (br (x1 != 0)
 (br (x2 != 0)
 (br (decide (0 ≤ x1 ∧ x1 < (↑(List.length x3))))
 (br (decide (0 ≤ x2 ∧ x2 < (↑(List.length x3))))
 ((need False (x3)[(Int.toNat x1)]? fun y9 =>
 br (decide ((Int.toNat x1) = x4))
 (br (eqT (.int .i64) x2 x2)
 (br (true)
 (br (true)
 (br (true && true)
 (br (eqT (.int .i64) x2 x2)
 (br (decide (0 ≤ x2 ∧ x2 < (↑(List.length x3))))
 (br ((decide ((Int.toNat x2) = (Int.toNat x2))) && true)
 (br (eqT (.int .i64) x1 x1)
 (need False (x3)[(Int.toNat x2)]? fun y10 =>
 br (decide ((Int.toNat x2) = x4))
 (br (eqT (.int .i64) x2 x2)
 (br (eqT (.int .i64) x1 x1)
 (br (decide (0 ≤ x2 ∧ x2 < (↑(List.length x5))))
 (need False (x5)[(Int.toNat x2)]? fun y11 =>
 br (eqT (.int .i64) x1 x1)
 (br (decide (0 ≤ x1 ∧ x1 < (↑(List.length (List.set x5 (Int.toNat x2) true)))))
 (need False ((List.set x5 (Int.toNat x2) true))[(Int.toNat x1)]? fun y12 =>
 k1 x3 x4 (List.set (List.set x5 (Int.toNat x2) true) (Int.toNat x1) true) x6 x7 x8)
 False)
 False)
 False)
 False)
 False)
 (need False (x3)[(Int.toNat x2)]? fun y13 =>
 br (eqT (.int .i64) x2 x2)
 (br (eqT (.int .i64) x1 x1)
 (br (decide (0 ≤ x2 ∧ x2 < (↑(List.length x5))))
 (need False (x5)[(Int.toNat x2)]? fun y14 =>
 br (eqT (.int .i64) x1 x1)
 (br (decide (0 ≤ x1 ∧ x1 < (↑(List.length y13))))
 (need False (y13)[(Int.toNat x1)]? fun y15 =>
 k1 (List.set x3 (Int.toNat x2) (List.set y13 (Int.toNat x1) true)) x4 (List.set x5 (Int.toNat x2) true) x6 x7 x8)
 False)
 False)
 False)
 False)
 False))
 False)
 False)
 False)
 False)
 False)
 False)
 False)
 False)
 (need False (x3)[(Int.toNat x1)]? fun y16 =>
 br (eqT (.int .i64) x2 x2)
 (br (true)
 (br (true)
 (br (true && true)
 (br (eqT (.int .i64) x2 x2)
 (br (decide (0 ≤ x2 ∧ x2 < (↑(List.length x3))))
 (br ((decide ((Int.toNat x2) = (Int.toNat x2))) && true)
 (br (eqT (.int .i64) x1 x1)
 (need False (x3)[(Int.toNat x2)]? fun y17 =>
 br (decide ((Int.toNat x2) = (Int.toNat x1)))
 (br (eqT (.int .i64) x2 x2)
 (br (eqT (.int .i64) x1 x1)
 (br (decide (0 ≤ x2 ∧ x2 < (↑(List.length y16))))
 (need False (y16)[(Int.toNat x2)]? fun y18 =>
 br (eqT (.int .i64) x1 x1)
 (br (decide (0 ≤ x1 ∧ x1 < (↑(List.length (List.set y16 (Int.toNat x2) true)))))
 (need False ((List.set y16 (Int.toNat x2) true))[(Int.toNat x1)]? fun y19 =>
 k1 (List.set x3 (Int.toNat x1) (List.set (List.set y16 (Int.toNat x2) true) (Int.toNat x1) true)) x4 x5 x6 x7 x8)
 False)
 False)
 False)
 False)
 False)
 (br (decide ((Int.toNat x2) = x4))
 (br (eqT (.int .i64) x2 x2)
 (br (eqT (.int .i64) x1 x1)
 (br (decide (0 ≤ x2 ∧ x2 < (↑(List.length y16))))
 (need False (y16)[(Int.toNat x2)]? fun y20 =>
 br (eqT (.int .i64) x1 x1)
 (br (decide (0 ≤ x1 ∧ x1 < (↑(List.length x5))))
 (need False (x5)[(Int.toNat x1)]? fun y21 =>
 k1 (List.set x3 (Int.toNat x1) (List.set y16 (Int.toNat x2) true)) x4 (List.set x5 (Int.toNat x1) true) x6 x7 x8)
 False)
 False)
 False)
 False)
 False)
 (need False (x3)[(Int.toNat x2)]? fun y22 =>
 br (eqT (.int .i64) x2 x2)
 (br (eqT (.int .i64) x1 x1)
 (br (decide (0 ≤ x2 ∧ x2 < (↑(List.length y16))))
 (need False (y16)[(Int.toNat x2)]? fun y23 =>
 br (eqT (.int .i64) x1 x1)
 (br (decide (0 ≤ x1 ∧ x1 < (↑(List.length y22))))
 (need False (y22)[(Int.toNat x1)]? fun y24 =>
 k1 (List.set (List.set x3 (Int.toNat x2) (List.set y22 (Int.toNat x1) true)) (Int.toNat x1) (List.set y16 (Int.toNat x2) true)) x4 x5 x6 x7 x8)
 False)
 False)
 False)
 False)
 False)))
 False)
 False)
 False)
 False)
 False)
 False)
 False)
 False)) ∧
 (need False (x3)[(Int.toNat x2)]? fun y25 =>
 br (decide ((Int.toNat x2) = x4))
 (br (true)
 (br (true)
 (br (true && true)
 (br (eqT (.int .i64) x1 x1)
 (br (decide (0 ≤ x1 ∧ x1 < (↑(List.length x3))))
 (br ((decide ((Int.toNat x1) = (Int.toNat x1))) && true)
 (br (eqT (.int .i64) x2 x2)
 (br (eqT (.int .i64) x1 x1)
 (need False (x3)[(Int.toNat x1)]? fun y26 =>
 br (decide ((Int.toNat x1) = x4))
 (br (eqT (.int .i64) x2 x2)
 (br (eqT (.int .i64) x1 x1)
 (br (decide (0 ≤ x2 ∧ x2 < (↑(List.length x5))))
 (need False (x5)[(Int.toNat x2)]? fun y27 =>
 br (eqT (.int .i64) x1 x1)
 (br (decide (0 ≤ x1 ∧ x1 < (↑(List.length (List.set x5 (Int.toNat x2) true)))))
 (need False ((List.set x5 (Int.toNat x2) true))[(Int.toNat x1)]? fun y28 =>
 k1 x3 x4 (List.set (List.set x5 (Int.toNat x2) true) (Int.toNat x1) true) x6 x7 x8)
 False)
 False)
 False)
 False)
 False)
 (need False (x3)[(Int.toNat x1)]? fun y29 =>
 br (eqT (.int .i64) x2 x2)
 (br (eqT (.int .i64) x1 x1)
 (br (decide (0 ≤ x2 ∧ x2 < (↑(List.length y29))))
 (need False (y29)[(Int.toNat x2)]? fun y30 =>
 br (eqT (.int .i64) x1 x1)
 (br (decide (0 ≤ x1 ∧ x1 < (↑(List.length x5))))
 (need False (x5)[(Int.toNat x1)]? fun y31 =>
 k1 (List.set x3 (Int.toNat x1) (List.set y29 (Int.toNat x2) true)) x4 (List.set x5 (Int.toNat x1) true) x6 x7 x8)
 False)
 False)
 False)
 False)
 False))
 False)
 False)
 False)
 False)
 False)
 False)
 False)
 False)
 (need False (x3)[(Int.toNat x2)]? fun y32 =>
 br (true)
 (br (true)
 (br (true && true)
 (br (eqT (.int .i64) x1 x1)
 (br (decide (0 ≤ x1 ∧ x1 < (↑(List.length x3))))
 (br ((decide ((Int.toNat x1) = (Int.toNat x1))) && true)
 (br (eqT (.int .i64) x2 x2)
 (br (eqT (.int .i64) x1 x1)
 (need False (x3)[(Int.toNat x1)]? fun y33 =>
 br (decide ((Int.toNat x1) = (Int.toNat x2)))
 (br (eqT (.int .i64) x2 x2)
 (br (eqT (.int .i64) x1 x1)
 (br (decide (0 ≤ x2 ∧ x2 < (↑(List.length y32))))
 (need False (y32)[(Int.toNat x2)]? fun y34 =>
 br (eqT (.int .i64) x1 x1)
 (br (decide (0 ≤ x1 ∧ x1 < (↑(List.length (List.set y32 (Int.toNat x2) true)))))
 (need False ((List.set y32 (Int.toNat x2) true))[(Int.toNat x1)]? fun y35 =>
 k1 (List.set x3 (Int.toNat x2) (List.set (List.set y32 (Int.toNat x2) true) (Int.toNat x1) true)) x4 x5 x6 x7 x8)
 False)
 False)
 False)
 False)
 False)
 (br (decide ((Int.toNat x1) = x4))
 (br (eqT (.int .i64) x2 x2)
 (br (eqT (.int .i64) x1 x1)
 (br (decide (0 ≤ x2 ∧ x2 < (↑(List.length x5))))
 (need False (x5)[(Int.toNat x2)]? fun y36 =>
 br (eqT (.int .i64) x1 x1)
 (br (decide (0 ≤ x1 ∧ x1 < (↑(List.length y32))))
 (need False (y32)[(Int.toNat x1)]? fun y37 =>
 k1 (List.set x3 (Int.toNat x2) (List.set y32 (Int.toNat x1) true)) x4 (List.set x5 (Int.toNat x2) true) x6 x7 x8)
 False)
 False)
 False)
 False)
 False)
 (need False (x3)[(Int.toNat x1)]? fun y38 =>
 br (eqT (.int .i64) x2 x2)
 (br (eqT (.int .i64) x1 x1)
 (br (decide (0 ≤ x2 ∧ x2 < (↑(List.length y38))))
 (need False (y38)[(Int.toNat x2)]? fun y39 =>
 br (eqT (.int .i64) x1 x1)
 (br (decide (0 ≤ x1 ∧ x1 < (↑(List.length y32))))
 (need False (y32)[(Int.toNat x1)]? fun y40 =>
 k1 (List.set (List.set x3 (Int.toNat x1) (List.set y38 (Int.toNat x2) true)) (Int.toNat x2) (List.set y32 (Int.toNat x1) true)) x4 x5 x6 x7 x8)
 False)
 False)
 False)
 False)
 False)))
 False)
 False)
 False)
 False)
 False)
 False)
 False)
 False)))
 False)
 False)
 (k1 x3 x4 x5 x6 x7 x8))
 (k1 x3 x4 x5 x6 x7 x8))
 (k1 x3 x4 x5 x6 x7 x8)
structure l14r14 (k1 : Int → Int → Int → Int → Int → q0 → (List Bool) → (List Bool) → (List (List Int)) → (List Int) → (List Bool) → Prop) (s1 s2 s3 s4 s5 s6 s7 : Int) (s8 : List (List Bool)) (s9 : Nat) (s10 s11 : List Bool) (s12 : List (List Int)) (s13 : List Bool) (s14 : List Int) (s15 : List Bool) : Prop where
of :
 ∀ (I1 : Int → Int → Int → Int → Int → Int → Int → q0 → Nat → (List Bool) → (List Bool) → (List (List Int)) → (List Bool) → (List Int) → (List Bool) → Prop),
 (∀ (s1 s2 s3 s4 s5 s6 s7 : Int) (s8 : List (List Bool)) (s9 : Nat) (s10 s11 : List Bool) (s12 : List (List Int)) (s13 : List Bool) (s14 : List Int) (s15 : List Bool), (br (decide (s7 < s6))
 (br (decide (0 ≤ s7 ∧ s7 < (↑(List.length s13))))
 (need False (s13)[(Int.toNat s7)]? fun y16 =>
 br (y16)
 (c38v2 s2 s7 s8 s9 s13 s10 s11 s12
 (fun z17 z18 z19 z20 z21 z22 => I1 s1 s2 s3 s4 s5 s6 (IntKind.wrap .i64 (s7 + 1)) z17 z18 z20 z21 z22 z19 s14 s15))
 (I1 s1 s2 s3 s4 s5 s6 (IntKind.wrap .i64 (s7 + 1)) s8 s9 s10 s11 s12 s13 s14 s15))
 False)
 (k1 s1 s2 s3 s4 s5 (List.set s8 s9 s13) s10 s11 s12 s14 s15)) → I1 s1 s2 s3 s4 s5 s6 s7 s8 s9 s10 s11 s12 s13 s14 s15) →
 I1 s1 s2 s3 s4 s5 s6 s7 s8 s9 s10 s11 s12 s13 s14 s15
structure l53r3 (k1 : Int → Prop) (s1 : Int) (s2 : List Bool) (s3 s4 : Int) : Prop where
of :
 ∀ (I1 : Int → (List Bool) → Int → Int → Prop),
 (∀ (s1 : Int) (s2 : List Bool) (s3 s4 : Int), (br (decide (s4 < s3))
 (need False (at? s2 s4) fun y5 =>
 br (y5)
 (I1 (IntKind.wrap .i64 (s1 + 1)) s2 s3 (IntKind.wrap .i64 (s4 + 1)))
 (I1 s1 s2 s3 (IntKind.wrap .i64 (s4 + 1))))
 (k1 s1)) → I1 s1 s2 s3 s4) →
 I1 s1 s2 s3 s4
structure c53 (x1 : List Bool) (k1 : Int → Prop) : Prop where
of :
 l53r3
 (fun z2 => k1 z2)
 0 x1 (↑(List.length x1)) 0
structure l40r2 (k1 : Int → Int → q0 → (List Bool) → (List Bool) → (List (List Int)) → Prop) (s1 s2 s3 s4 s5 : Int) (s6 : List (List Bool)) (s7 : Nat) (s8 s9 : List Bool) (s10 : List (List Int)) (s11 : List Bool) : Prop where
of :
 ∀ (I1 : Int → Int → Int → Int → Int → q0 → Nat → (List Bool) → (List Bool) → (List (List Int)) → (List Bool) → Prop),
 (∀ (s1 s2 s3 s4 s5 : Int) (s6 : List (List Bool)) (s7 : Nat) (s8 s9 : List Bool) (s10 : List (List Int)) (s11 : List Bool), (br (decide (s5 < s4))
 (br (decide (0 ≤ s5 ∧ s5 < (↑(List.length s11))))
 (need False (s11)[(Int.toNat s5)]? fun y12 =>
 br (!y12)
 (I1 s1 s2 s3 s4 (IntKind.wrap .i64 (s5 + 1)) s6 s7 s8 s9 s10 s11)
 (br (decide (0 ≤ s5 ∧ s5 < (↑(List.length s6))))
 (need False (s6)[(Int.toNat s5)]? fun y13 =>
 br (decide ((Int.toNat s5) = s7))
 (c53 s11
 (fun z14 => br (decide (z14 ≥ s1))
 (I1 s1 (IntKind.wrap .i64 (s2 + 1)) (IntKind.wrap .i64 (s3 + 1)) s4 (IntKind.wrap .i64 (s5 + 1)) s6 s7 s8 s9 s10 s11)
 (I1 s1 (IntKind.wrap .i64 (s2 + 1)) s3 s4 (IntKind.wrap .i64 (s5 + 1)) s6 s7 s8 s9 s10 s11)))
 (need False (s6)[(Int.toNat s5)]? fun y15 =>
 c53 y15
 (fun z16 => br (decide (z16 ≥ s1))
 (I1 s1 (IntKind.wrap .i64 (s2 + 1)) (IntKind.wrap .i64 (s3 + 1)) s4 (IntKind.wrap .i64 (s5 + 1)) (List.set s6 (Int.toNat s5) y15) s7 s8 s9 s10 s11)
 (I1 s1 (IntKind.wrap .i64 (s2 + 1)) s3 s4 (IntKind.wrap .i64 (s5 + 1)) (List.set s6 (Int.toNat s5) y15) s7 s8 s9 s10 s11))))
 False))
 False)
 (k1 s2 s3 (List.set s6 s7 s11) s8 s9 s10)) → I1 s1 s2 s3 s4 s5 s6 s7 s8 s9 s10 s11) →
 I1 s1 s2 s3 s4 s5 s6 s7 s8 s9 s10 s11
structure c40 (x1 x2 : Int) (x3 : List (List Bool)) (x4 x5 : List Bool) (x6 : List (List Int)) (k1 : Int → Int → q0 → (List Bool) → (List Bool) → (List (List Int)) → Prop) : Prop where
of :
 br (decide (0 ≤ x1 ∧ x1 < (↑(List.length x3))))
 (need False (x3)[(Int.toNat x1)]? fun y7 =>
 need False (x3)[(Int.toNat x1)]? fun y8 =>
 l40r2
 (fun z9 z10 z11 z12 z13 z14 => k1 z9 z10 z11 z12 z13 z14)
 x2 0 0 (↑(List.length y8)) 0 x3 (Int.toNat x1) x4 x5 x6 y8)
 False
structure l14r22 (k1 : Int → Int → Int → q0 → (List Bool) → (List Bool) → (List (List Int)) → (List Int) → Prop) (s1 s2 s3 s4 s5 s6 : Int) (s7 : List (List Bool)) (s8 : Nat) (s9 s10 : List Bool) (s11 : List (List Int)) (s12 : List Bool) (s13 : List Int) (s14 : List Bool) : Prop where
of :
 ∀ (I1 : Int → Int → Int → Int → Int → Int → q0 → Nat → (List Bool) → (List Bool) → (List (List Int)) → (List Bool) → (List Int) → (List Bool) → Prop),
 (∀ (s1 s2 s3 s4 s5 s6 : Int) (s7 : List (List Bool)) (s8 : Nat) (s9 s10 : List Bool) (s11 : List (List Int)) (s12 : List Bool) (s13 : List Int) (s14 : List Bool), (br (decide (s6 < s5))
 (br (decide (0 ≤ s6 ∧ s6 < (↑(List.length s12))))
 (need False (s12)[(Int.toNat s6)]? fun y15 =>
 br (y15)
 (br (decide (0 ≤ s6 ∧ s6 < (↑(List.length s14))))
 (need False (s14)[(Int.toNat s6)]? fun y16 =>
 br (!y16)
 (br (decide (0 ≤ s2 ∧ s2 < (↑(List.length s7))))
 (br (decide (0 ≤ s6 ∧ s6 < (↑(List.length s7))))
 ((need False (s7)[(Int.toNat s2)]? fun y17 =>
 br (decide ((Int.toNat s2) = s8))
 (br (eqT (.int .i64) s6 s6)
 (br (true)
 (br (true)
 (br (true && true)
 (br (eqT (.int .i64) s6 s6)
 (br (decide (0 ≤ s6 ∧ s6 < (↑(List.length s7))))
 (br ((decide ((Int.toNat s6) = (Int.toNat s6))) && true)
 (br (eqT (.int .i64) s2 s2)
 (need False (s7)[(Int.toNat s6)]? fun y18 =>
 br (decide ((Int.toNat s6) = s8))
 (br (eqT (.int .i64) s6 s6)
 (br (eqT (.int .i64) s2 s2)
 (br (decide (0 ≤ s6 ∧ s6 < (↑(List.length s12))))
 (need False (s12)[(Int.toNat s6)]? fun y19 =>
 br (eqT (.int .i64) s2 s2)
 (br (decide (0 ≤ s2 ∧ s2 < (↑(List.length (List.set s12 (Int.toNat s6) false)))))
 (need False ((List.set s12 (Int.toNat s6) false))[(Int.toNat s2)]? fun y20 =>
 I1 s1 s2 s3 s4 s5 (IntKind.wrap .i64 (s6 + 1)) s7 s8 s9 s10 s11 (List.set (List.set s12 (Int.toNat s6) false) (Int.toNat s2) false) s13 s14)
 False)
 False)
 False)
 False)
 False)
 (need False (s7)[(Int.toNat s6)]? fun y21 =>
 br (eqT (.int .i64) s6 s6)
 (br (eqT (.int .i64) s2 s2)
 (br (decide (0 ≤ s6 ∧ s6 < (↑(List.length s12))))
 (need False (s12)[(Int.toNat s6)]? fun y22 =>
 br (eqT (.int .i64) s2 s2)
 (br (decide (0 ≤ s2 ∧ s2 < (↑(List.length y21))))
 (need False (y21)[(Int.toNat s2)]? fun y23 =>
 I1 s1 s2 s3 s4 s5 (IntKind.wrap .i64 (s6 + 1)) (List.set s7 (Int.toNat s6) (List.set y21 (Int.toNat s2) false)) s8 s9 s10 s11 (List.set s12 (Int.toNat s6) false) s13 s14)
 False)
 False)
 False)
 False)
 False))
 False)
 False)
 False)
 False)
 False)
 False)
 False)
 False)
 (need False (s7)[(Int.toNat s2)]? fun y24 =>
 br (eqT (.int .i64) s6 s6)
 (br (true)
 (br (true)
 (br (true && true)
 (br (eqT (.int .i64) s6 s6)
 (br (decide (0 ≤ s6 ∧ s6 < (↑(List.length s7))))
 (br ((decide ((Int.toNat s6) = (Int.toNat s6))) && true)
 (br (eqT (.int .i64) s2 s2)
 (need False (s7)[(Int.toNat s6)]? fun y25 =>
 br (decide ((Int.toNat s6) = (Int.toNat s2)))
 (br (eqT (.int .i64) s6 s6)
 (br (eqT (.int .i64) s2 s2)
 (br (decide (0 ≤ s6 ∧ s6 < (↑(List.length y24))))
 (need False (y24)[(Int.toNat s6)]? fun y26 =>
 br (eqT (.int .i64) s2 s2)
 (br (decide (0 ≤ s2 ∧ s2 < (↑(List.length (List.set y24 (Int.toNat s6) false)))))
 (need False ((List.set y24 (Int.toNat s6) false))[(Int.toNat s2)]? fun y27 =>
 I1 s1 s2 s3 s4 s5 (IntKind.wrap .i64 (s6 + 1)) (List.set s7 (Int.toNat s2) (List.set (List.set y24 (Int.toNat s6) false) (Int.toNat s2) false)) s8 s9 s10 s11 s12 s13 s14)
 False)
 False)
 False)
 False)
 False)
 (br (decide ((Int.toNat s6) = s8))
 (br (eqT (.int .i64) s6 s6)
 (br (eqT (.int .i64) s2 s2)
 (br (decide (0 ≤ s6 ∧ s6 < (↑(List.length y24))))
 (need False (y24)[(Int.toNat s6)]? fun y28 =>
 br (eqT (.int .i64) s2 s2)
 (br (decide (0 ≤ s2 ∧ s2 < (↑(List.length s12))))
 (need False (s12)[(Int.toNat s2)]? fun y29 =>
 I1 s1 s2 s3 s4 s5 (IntKind.wrap .i64 (s6 + 1)) (List.set s7 (Int.toNat s2) (List.set y24 (Int.toNat s6) false)) s8 s9 s10 s11 (List.set s12 (Int.toNat s2) false) s13 s14)
 False)
 False)
 False)
 False)
 False)
 (need False (s7)[(Int.toNat s6)]? fun y30 =>
 br (eqT (.int .i64) s6 s6)
 (br (eqT (.int .i64) s2 s2)
 (br (decide (0 ≤ s6 ∧ s6 < (↑(List.length y24))))
 (need False (y24)[(Int.toNat s6)]? fun y31 =>
 br (eqT (.int .i64) s2 s2)
 (br (decide (0 ≤ s2 ∧ s2 < (↑(List.length y30))))
 (need False (y30)[(Int.toNat s2)]? fun y32 =>
 I1 s1 s2 s3 s4 s5 (IntKind.wrap .i64 (s6 + 1)) (List.set (List.set s7 (Int.toNat s6) (List.set y30 (Int.toNat s2) false)) (Int.toNat s2) (List.set y24 (Int.toNat s6) false)) s8 s9 s10 s11 s12 s13 s14)
 False)
 False)
 False)
 False)
 False)))
 False)
 False)
 False)
 False)
 False)
 False)
 False)
 False)) ∧
 (need False (s7)[(Int.toNat s6)]? fun y33 =>
 br (decide ((Int.toNat s6) = s8))
 (br (true)
 (br (true)
 (br (true && true)
 (br (eqT (.int .i64) s2 s2)
 (br (decide (0 ≤ s2 ∧ s2 < (↑(List.length s7))))
 (br ((decide ((Int.toNat s2) = (Int.toNat s2))) && true)
 (br (eqT (.int .i64) s6 s6)
 (br (eqT (.int .i64) s2 s2)
 (need False (s7)[(Int.toNat s2)]? fun y34 =>
 br (decide ((Int.toNat s2) = s8))
 (br (eqT (.int .i64) s6 s6)
 (br (eqT (.int .i64) s2 s2)
 (br (decide (0 ≤ s6 ∧ s6 < (↑(List.length s12))))
 (need False (s12)[(Int.toNat s6)]? fun y35 =>
 br (eqT (.int .i64) s2 s2)
 (br (decide (0 ≤ s2 ∧ s2 < (↑(List.length (List.set s12 (Int.toNat s6) false)))))
 (need False ((List.set s12 (Int.toNat s6) false))[(Int.toNat s2)]? fun y36 =>
 I1 s1 s2 s3 s4 s5 (IntKind.wrap .i64 (s6 + 1)) s7 s8 s9 s10 s11 (List.set (List.set s12 (Int.toNat s6) false) (Int.toNat s2) false) s13 s14)
 False)
 False)
 False)
 False)
 False)
 (need False (s7)[(Int.toNat s2)]? fun y37 =>
 br (eqT (.int .i64) s6 s6)
 (br (eqT (.int .i64) s2 s2)
 (br (decide (0 ≤ s6 ∧ s6 < (↑(List.length y37))))
 (need False (y37)[(Int.toNat s6)]? fun y38 =>
 br (eqT (.int .i64) s2 s2)
 (br (decide (0 ≤ s2 ∧ s2 < (↑(List.length s12))))
 (need False (s12)[(Int.toNat s2)]? fun y39 =>
 I1 s1 s2 s3 s4 s5 (IntKind.wrap .i64 (s6 + 1)) (List.set s7 (Int.toNat s2) (List.set y37 (Int.toNat s6) false)) s8 s9 s10 s11 (List.set s12 (Int.toNat s2) false) s13 s14)
 False)
 False)
 False)
 False)
 False))
 False)
 False)
 False)
 False)
 False)
 False)
 False)
 False)
 (need False (s7)[(Int.toNat s6)]? fun y40 =>
 br (true)
 (br (true)
 (br (true && true)
 (br (eqT (.int .i64) s2 s2)
 (br (decide (0 ≤ s2 ∧ s2 < (↑(List.length s7))))
 (br ((decide ((Int.toNat s2) = (Int.toNat s2))) && true)
 (br (eqT (.int .i64) s6 s6)
 (br (eqT (.int .i64) s2 s2)
 (need False (s7)[(Int.toNat s2)]? fun y41 =>
 br (decide ((Int.toNat s2) = (Int.toNat s6)))
 (br (eqT (.int .i64) s6 s6)
 (br (eqT (.int .i64) s2 s2)
 (br (decide (0 ≤ s6 ∧ s6 < (↑(List.length y40))))
 (need False (y40)[(Int.toNat s6)]? fun y42 =>
 br (eqT (.int .i64) s2 s2)
 (br (decide (0 ≤ s2 ∧ s2 < (↑(List.length (List.set y40 (Int.toNat s6) false)))))
 (need False ((List.set y40 (Int.toNat s6) false))[(Int.toNat s2)]? fun y43 =>
 I1 s1 s2 s3 s4 s5 (IntKind.wrap .i64 (s6 + 1)) (List.set s7 (Int.toNat s6) (List.set (List.set y40 (Int.toNat s6) false) (Int.toNat s2) false)) s8 s9 s10 s11 s12 s13 s14)
 False)
 False)
 False)
 False)
 False)
 (br (decide ((Int.toNat s2) = s8))
 (br (eqT (.int .i64) s6 s6)
 (br (eqT (.int .i64) s2 s2)
 (br (decide (0 ≤ s6 ∧ s6 < (↑(List.length s12))))
 (need False (s12)[(Int.toNat s6)]? fun y44 =>
 br (eqT (.int .i64) s2 s2)
 (br (decide (0 ≤ s2 ∧ s2 < (↑(List.length y40))))
 (need False (y40)[(Int.toNat s2)]? fun y45 =>
 I1 s1 s2 s3 s4 s5 (IntKind.wrap .i64 (s6 + 1)) (List.set s7 (Int.toNat s6) (List.set y40 (Int.toNat s2) false)) s8 s9 s10 s11 (List.set s12 (Int.toNat s6) false) s13 s14)
 False)
 False)
 False)
 False)
 False)
 (need False (s7)[(Int.toNat s2)]? fun y46 =>
 br (eqT (.int .i64) s6 s6)
 (br (eqT (.int .i64) s2 s2)
 (br (decide (0 ≤ s6 ∧ s6 < (↑(List.length y46))))
 (need False (y46)[(Int.toNat s6)]? fun y47 =>
 br (eqT (.int .i64) s2 s2)
 (br (decide (0 ≤ s2 ∧ s2 < (↑(List.length y40))))
 (need False (y40)[(Int.toNat s2)]? fun y48 =>
 I1 s1 s2 s3 s4 s5 (IntKind.wrap .i64 (s6 + 1)) (List.set (List.set s7 (Int.toNat s2) (List.set y46 (Int.toNat s6) false)) (Int.toNat s6) (List.set y40 (Int.toNat s2) false)) s8 s9 s10 s11 s12 s13 s14)
 False)
 False)
 False)
 False)
 False)))
 False)
 False)
 False)
 False)
 False)
 False)
 False)
 False)))
 False)
 False)
 (I1 s1 s2 s3 s4 s5 (IntKind.wrap .i64 (s6 + 1)) s7 s8 s9 s10 s11 s12 s13 s14))
 False)
 (I1 s1 s2 s3 s4 s5 (IntKind.wrap .i64 (s6 + 1)) s7 s8 s9 s10 s11 s12 s13 s14))
 False)
 (k1 s1 s3 s4 (List.set s7 s8 s12) s9 s10 s11 s13)) → I1 s1 s2 s3 s4 s5 s6 s7 s8 s9 s10 s11 s12 s13 s14) →
 I1 s1 s2 s3 s4 s5 s6 s7 s8 s9 s10 s11 s12 s13 s14
structure l14r28 (k1 : Int → Int → Int → Int → Int → q0 → (List Bool) → (List Bool) → (List (List Int)) → (List Int) → Prop) (s1 s2 s3 s4 s5 s6 s7 : Int) (s8 : List (List Bool)) (s9 s10 : List Bool) (s11 : List (List Int)) (s12 : List Int) : Prop where
of :
 ∀ (I1 : Int → Int → Int → Int → Int → Int → Int → q0 → (List Bool) → (List Bool) → (List (List Int)) → (List Int) → Prop),
 (∀ (s1 s2 s3 s4 s5 s6 s7 : Int) (s8 : List (List Bool)) (s9 s10 : List Bool) (s11 : List (List Int)) (s12 : List Int), (br (decide (s7 < s6))
 (br (decide (0 ≤ s3 ∧ s3 < (↑(List.length s8))))
 (br (decide (0 ≤ s7 ∧ s7 < (↑(List.length s8))))
 ((need False (s8)[(Int.toNat s3)]? fun y13 =>
 need False (s8)[(Int.toNat s3)]? fun y14 =>
 br (eqT (.int .i64) s7 s7)
 (br (true)
 (br (true)
 (br (true && true)
 (br (eqT (.int .i64) s7 s7)
 (br (decide (0 ≤ s7 ∧ s7 < (↑(List.length s8))))
 (br ((decide ((Int.toNat s7) = (Int.toNat s7))) && true)
 (br (eqT (.int .i64) s3 s3)
 (need False (s8)[(Int.toNat s7)]? fun y15 =>
 br (decide ((Int.toNat s7) = (Int.toNat s3)))
 (br (eqT (.int .i64) s7 s7)
 (br (eqT (.int .i64) s3 s3)
 (br (decide (0 ≤ s7 ∧ s7 < (↑(List.length y14))))
 (need False (y14)[(Int.toNat s7)]? fun y16 =>
 br (eqT (.int .i64) s3 s3)
 (br (decide (0 ≤ s3 ∧ s3 < (↑(List.length (List.set y14 (Int.toNat s7) false)))))
 (need False ((List.set y14 (Int.toNat s7) false))[(Int.toNat s3)]? fun y17 =>
 I1 s1 s2 s3 s4 s5 s6 (IntKind.wrap .i64 (s7 + 1)) (List.set s8 (Int.toNat s3) (List.set (List.set y14 (Int.toNat s7) false) (Int.toNat s3) false)) s9 s10 s11 s12)
 False)
 False)
 False)
 False)
 False)
 (need False (s8)[(Int.toNat s7)]? fun y18 =>
 br (eqT (.int .i64) s7 s7)
 (br (eqT (.int .i64) s3 s3)
 (br (decide (0 ≤ s7 ∧ s7 < (↑(List.length y14))))
 (need False (y14)[(Int.toNat s7)]? fun y19 =>
 br (eqT (.int .i64) s3 s3)
 (br (decide (0 ≤ s3 ∧ s3 < (↑(List.length y18))))
 (need False (y18)[(Int.toNat s3)]? fun y20 =>
 I1 s1 s2 s3 s4 s5 s6 (IntKind.wrap .i64 (s7 + 1)) (List.set (List.set s8 (Int.toNat s7) (List.set y18 (Int.toNat s3) false)) (Int.toNat s3) (List.set y14 (Int.toNat s7) false)) s9 s10 s11 s12)
 False)
 False)
 False)
 False)
 False))
 False)
 False)
 False)
 False)
 False)
 False)
 False)
 False) ∧
 (need False (s8)[(Int.toNat s7)]? fun y21 =>
 need False (s8)[(Int.toNat s7)]? fun y22 =>
 br (true)
 (br (true)
 (br (true && true)
 (br (eqT (.int .i64) s3 s3)
 (br (decide (0 ≤ s3 ∧ s3 < (↑(List.length s8))))
 (br ((decide ((Int.toNat s3) = (Int.toNat s3))) && true)
 (br (eqT (.int .i64) s7 s7)
 (br (eqT (.int .i64) s3 s3)
 (need False (s8)[(Int.toNat s3)]? fun y23 =>
 br (decide ((Int.toNat s3) = (Int.toNat s7)))
 (br (eqT (.int .i64) s7 s7)
 (br (eqT (.int .i64) s3 s3)
 (br (decide (0 ≤ s7 ∧ s7 < (↑(List.length y22))))
 (need False (y22)[(Int.toNat s7)]? fun y24 =>
 br (eqT (.int .i64) s3 s3)
 (br (decide (0 ≤ s3 ∧ s3 < (↑(List.length (List.set y22 (Int.toNat s7) false)))))
 (need False ((List.set y22 (Int.toNat s7) false))[(Int.toNat s3)]? fun y25 =>
 I1 s1 s2 s3 s4 s5 s6 (IntKind.wrap .i64 (s7 + 1)) (List.set s8 (Int.toNat s7) (List.set (List.set y22 (Int.toNat s7) false) (Int.toNat s3) false)) s9 s10 s11 s12)
 False)
 False)
 False)
 False)
 False)
 (need False (s8)[(Int.toNat s3)]? fun y26 =>
 br (eqT (.int .i64) s7 s7)
 (br (eqT (.int .i64) s3 s3)
 (br (decide (0 ≤ s7 ∧ s7 < (↑(List.length y26))))
 (need False (y26)[(Int.toNat s7)]? fun y27 =>
 br (eqT (.int .i64) s3 s3)
 (br (decide (0 ≤ s3 ∧ s3 < (↑(List.length y22))))
 (need False (y22)[(Int.toNat s3)]? fun y28 =>
 I1 s1 s2 s3 s4 s5 s6 (IntKind.wrap .i64 (s7 + 1)) (List.set (List.set s8 (Int.toNat s3) (List.set y26 (Int.toNat s7) false)) (Int.toNat s7) (List.set y22 (Int.toNat s3) false)) s9 s10 s11 s12)
 False)
 False)
 False)
 False)
 False))
 False)
 False)
 False)
 False)
 False)
 False)
 False)
 False))
 False)
 False)
 (k1 s1 s2 s3 s4 s5 s8 s9 s10 s11 s12)) → I1 s1 s2 s3 s4 s5 s6 s7 s8 s9 s10 s11 s12) →
 I1 s1 s2 s3 s4 s5 s6 s7 s8 s9 s10 s11 s12
structure j14r12 (k1 k2 : Int → Int → Int → q0 → (List Bool) → (List Bool) → (List (List Int)) → (List Int) → Prop) (s1 s2 s3 s4 s5 : Int) (s6 : List (List Bool)) (s7 s8 : List Bool) (s9 : List (List Int)) (s10 : List Int) : Prop where
of :
 br (decide (0 ≤ s2 ∧ s2 < (↑(List.length s6))))
 (need False (s6)[(Int.toNat s2)]? fun y11 =>
 need False (s6)[(Int.toNat s2)]? fun y12 =>
 c39 y12
 (fun z13 => br (decide (0 ≤ s3 ∧ s3 < (↑(List.length s6))))
 (need False (s6)[(Int.toNat s3)]? fun y14 =>
 br (decide ((Int.toNat s3) = (Int.toNat s2)))
 (l14r14
 (fun z15 z16 z17 z18 z19 z20 z21 z22 z23 z24 z25 => c40 z16 z15 z20 z21 z22 z23
 (fun z26 z27 z28 z29 z30 z31 => br (decide (z27 ≥ z15))
 (br (decide (0 ≤ z16 ∧ z16 < (↑(List.length z29))))
 (need False (z29)[(Int.toNat z16)]? fun y32 =>
 br (!y32)
 (br (decide (0 ≤ z16 ∧ z16 < (↑(List.length z28))))
 (need False (z28)[(Int.toNat z16)]? fun y33 =>
 need False (z28)[(Int.toNat z16)]? fun y34 =>
 l14r22
 (fun z35 z36 z37 z38 z39 z40 z41 z42 => k1 z35 z36 z37 z38 z39 z40 z41 z42)
 z15 z16 z18 z19 (↑(List.length y34)) 0 z28 (Int.toNat z16) z29 z30 z31 y34 z24 z25)
 False)
 (br (decide (0 ≤ z17 ∧ z17 < (↑(List.length z28))))
 (need False (z28)[(Int.toNat z17)]? fun y43 =>
 need False (z28)[(Int.toNat z17)]? fun y44 =>
 l14r28
 (fun z45 z46 z47 z48 z49 z50 z51 z52 z53 z54 => br (decide (0 ≤ z47 ∧ z47 < (↑(List.length z54))))
 (need False (z54)[(Int.toNat z47)]? fun y55 =>
 br (decide (0 ≤ z47 ∧ z47 < (↑(List.length z52))))
 (need False (z52)[(Int.toNat z47)]? fun y56 =>
 k2 z45 z48 z49 z50 z51 (List.set z52 (Int.toNat z47) false) z53 (List.set z54 (Int.toNat z47) z46))
 False)
 False)
 z15 z16 z17 z18 z19 (↑(List.length y44)) 0 (List.set z28 (Int.toNat z17) y44) z29 z30 z31 z24)
 False))
 False)
 (br (decide (0 ≤ z17 ∧ z17 < (↑(List.length z28))))
 (need False (z28)[(Int.toNat z17)]? fun y57 =>
 need False (z28)[(Int.toNat z17)]? fun y58 =>
 l14r28
 (fun z59 z60 z61 z62 z63 z64 z65 z66 z67 z68 => br (decide (0 ≤ z61 ∧ z61 < (↑(List.length z68))))
 (need False (z68)[(Int.toNat z61)]? fun y69 =>
 br (decide (0 ≤ z61 ∧ z61 < (↑(List.length z66))))
 (need False (z66)[(Int.toNat z61)]? fun y70 =>
 k2 z59 z62 z63 z64 z65 (List.set z66 (Int.toNat z61) false) z67 (List.set z68 (Int.toNat z61) z60))
 False)
 False)
 z15 z16 z17 z18 z19 (↑(List.length y58)) 0 (List.set z28 (Int.toNat z17) y58) z29 z30 z31 z24)
 False)))
 s1 s2 s3 s4 s5 (↑(List.length y12)) 0 s6 (Int.toNat s2) s7 s8 s9 y12 s10 z13)
 (need False (s6)[(Int.toNat s3)]? fun y71 =>
 l14r14
 (fun z72 z73 z74 z75 z76 z77 z78 z79 z80 z81 z82 => c40 z73 z72 z77 z78 z79 z80
 (fun z83 z84 z85 z86 z87 z88 => br (decide (z84 ≥ z72))
 (br (decide (0 ≤ z73 ∧ z73 < (↑(List.length z86))))
 (need False (z86)[(Int.toNat z73)]? fun y89 =>
 br (!y89)
 (br (decide (0 ≤ z73 ∧ z73 < (↑(List.length z85))))
 (need False (z85)[(Int.toNat z73)]? fun y90 =>
 need False (z85)[(Int.toNat z73)]? fun y91 =>
 l14r22
 (fun z92 z93 z94 z95 z96 z97 z98 z99 => k1 z92 z93 z94 z95 z96 z97 z98 z99)
 z72 z73 z75 z76 (↑(List.length y91)) 0 z85 (Int.toNat z73) z86 z87 z88 y91 z81 z82)
 False)
 (br (decide (0 ≤ z74 ∧ z74 < (↑(List.length z85))))
 (need False (z85)[(Int.toNat z74)]? fun y100 =>
 need False (z85)[(Int.toNat z74)]? fun y101 =>
 l14r28
 (fun z102 z103 z104 z105 z106 z107 z108 z109 z110 z111 => br (decide (0 ≤ z104 ∧ z104 < (↑(List.length z111))))
 (need False (z111)[(Int.toNat z104)]? fun y112 =>
 br (decide (0 ≤ z104 ∧ z104 < (↑(List.length z109))))
 (need False (z109)[(Int.toNat z104)]? fun y113 =>
 k2 z102 z105 z106 z107 z108 (List.set z109 (Int.toNat z104) false) z110 (List.set z111 (Int.toNat z104) z103))
 False)
 False)
 z72 z73 z74 z75 z76 (↑(List.length y101)) 0 (List.set z85 (Int.toNat z74) y101) z86 z87 z88 z81)
 False))
 False)
 (br (decide (0 ≤ z74 ∧ z74 < (↑(List.length z85))))
 (need False (z85)[(Int.toNat z74)]? fun y114 =>
 need False (z85)[(Int.toNat z74)]? fun y115 =>
 l14r28
 (fun z116 z117 z118 z119 z120 z121 z122 z123 z124 z125 => br (decide (0 ≤ z118 ∧ z118 < (↑(List.length z125))))
 (need False (z125)[(Int.toNat z118)]? fun y126 =>
 br (decide (0 ≤ z118 ∧ z118 < (↑(List.length z123))))
 (need False (z123)[(Int.toNat z118)]? fun y127 =>
 k2 z116 z119 z120 z121 z122 (List.set z123 (Int.toNat z118) false) z124 (List.set z125 (Int.toNat z118) z117))
 False)
 False)
 z72 z73 z74 z75 z76 (↑(List.length y115)) 0 (List.set z85 (Int.toNat z74) y115) z86 z87 z88 z81)
 False)))
 s1 s2 s3 s4 s5 (↑(List.length y71)) 0 (List.set s6 (Int.toNat s2) y12) (Int.toNat s3) s7 s8 s9 y71 s10 z13))
 False))
 False
structure l14r8 (k1 : q0 → (List Bool) → (List Bool) → (List (List Int)) → (List Int) → Prop) (s1 s2 s3 : Int) (s4 : List (List Bool)) (s5 s6 : List Bool) (s7 : List (List Int)) (s8 : List Int) : Prop where
of :
 ∀ (I1 : Int → Int → Int → q0 → (List Bool) → (List Bool) → (List (List Int)) → (List Int) → Prop),
 (∀ (s1 s2 s3 : Int) (s4 : List (List Bool)) (s5 s6 : List Bool) (s7 : List (List Int)) (s8 : List Int), (br (decide (s3 < s2))
 (br (decide (0 ≤ s3 ∧ s3 < (↑(List.length s7))))
 (need False (s7)[(Int.toNat s3)]? fun y9 =>
 need False (y9)[0]? fun y10 =>
 need False (y9)[1]? fun y11 =>
 need False (y9)[0]? fun y12 =>
 need False (y9)[1]? fun y13 =>
 c17 s8 (minI y10 y11)
 (fun z14 => br (true && true)
 (need False (y9)[0]? fun y15 =>
 br (eqT (.int .i64) y12 y15)
 (br (true && true)
 (need False (y9)[1]? fun y16 =>
 br (eqT (.int .i64) y13 y16)
 (br (eqT (.int .i64) (maxI y12 y13) (maxI y12 y13))
 (c17 s8 (maxI y12 y13)
 (fun z17 => br (z14 == z17)
 ((I1 s1 s2 (IntKind.wrap .i64 (s3 + 1)) s4 s5 s6 s7 s8) ∧
 (I1 s1 s2 (IntKind.wrap .i64 (s3 + 1)) s4 s5 s6 s7 s8))
 (br (decide (0 ≤ z14 ∧ z14 < (↑(List.length s4))))
 (need False (s4)[(Int.toNat z14)]? fun y18 =>
 need False (s4)[(Int.toNat z14)]? fun y19 =>
 br (eqT (.int .i64) z17 z17)
 (br (decide (0 ≤ z17 ∧ z17 < (↑(List.length y19))))
 (need False (y19)[(Int.toNat z17)]? fun y20 =>
 br (y20)
 ((I1 s1 s2 (IntKind.wrap .i64 (s3 + 1)) (List.set s4 (Int.toNat z14) y19) s5 s6 s7 s8) ∧
 (I1 s1 s2 (IntKind.wrap .i64 (s3 + 1)) (List.set s4 (Int.toNat z14) y19) s5 s6 s7 s8))
 ((br (eqT (.int .i64) z14 z14)
 (br (decide (0 ≤ z14 ∧ z14 < (↑(List.length s5))))
 (need False (s5)[(Int.toNat z14)]? fun y21 =>
 br (true)
 (br (true)
 (br (true && true)
 (br (eqT (.int .i64) z17 z17)
 (br (eqT (.int .i64) z14 z14)
 (br (decide (0 ≤ z14 ∧ z14 < (↑(List.length s5))))
 (br ((decide ((Int.toNat z14) = (Int.toNat z14))) && true)
 (need False (s5)[(Int.toNat z14)]? fun y22 =>
 br (eqT .bool y21 y22)
 (br (eqT (.int .i64) z17 z17)
 (br (decide (0 ≤ z17 ∧ z17 < (↑(List.length s5))))
 (need False (s5)[(Int.toNat z17)]? fun y23 =>
 br (!((y21 : Bool) == y23))
 (I1 s1 s2 (IntKind.wrap .i64 (s3 + 1)) (List.set s4 (Int.toNat z14) y19) s5 s6 s7 s8)
 (j14r12
 (fun z24 z25 z26 z27 z28 z29 z30 z31 => I1 z24 z25 (IntKind.wrap .i64 (z26 + 1)) z27 z28 z29 z30 z31)
 (fun z32 z33 z34 z35 z36 z37 z38 z39 => I1 z32 z33 (IntKind.wrap .i64 (z34 + 1)) z35 z36 z37 z38 z39)
 s1 z14 z17 s2 s3 (List.set s4 (Int.toNat z14) y19) s5 s6 s7 s8))
 False)
 False)
 False)
 False)
 False)
 False)
 False)
 False)
 False)
 False)
 False)
 False) ∧
 (br (true)
 (br (true)
 (br (true && true)
 (br (eqT (.int .i64) z14 z14)
 (br (eqT (.int .i64) z17 z17)
 (br (decide (0 ≤ z17 ∧ z17 < (↑(List.length s5))))
 (need False (s5)[(Int.toNat z17)]? fun y40 =>
 br (eqT (.int .i64) z14 z14)
 (br (decide (0 ≤ z14 ∧ z14 < (↑(List.length s5))))
 (need False (s5)[(Int.toNat z14)]? fun y41 =>
 br (eqT (.int .i64) z17 z17)
 (br (decide (0 ≤ z17 ∧ z17 < (↑(List.length s5))))
 (br ((decide ((Int.toNat z17) = (Int.toNat z17))) && true)
 (need False (s5)[(Int.toNat z17)]? fun y42 =>
 br (eqT .bool y40 y42)
 (br (!((y41 : Bool) == y40))
 (I1 s1 s2 (IntKind.wrap .i64 (s3 + 1)) (List.set s4 (Int.toNat z14) y19) s5 s6 s7 s8)
 (j14r12
 (fun z43 z44 z45 z46 z47 z48 z49 z50 => I1 z43 z44 (IntKind.wrap .i64 (z45 + 1)) z46 z47 z48 z49 z50)
 (fun z51 z52 z53 z54 z55 z56 z57 z58 => I1 z51 z52 (IntKind.wrap .i64 (z53 + 1)) z54 z55 z56 z57 z58)
 s1 z14 z17 s2 s3 (List.set s4 (Int.toNat z14) y19) s5 s6 s7 s8))
 False)
 False)
 False)
 False)
 False)
 False)
 False)
 False)
 False)
 False)
 False)
 False)))
 False)
 False)
 False)))
 False)
 False)
 False)
 False)
 False))
 False)
 (k1 s4 s5 s6 s7 s8)) → I1 s1 s2 s3 s4 s5 s6 s7 s8) →
 I1 s1 s2 s3 s4 s5 s6 s7 s8
structure c14 (x1 : Int) (x2 : List (List Bool)) (x3 x4 : List Bool) (x5 : List (List Int)) (k1 : q0 → (List Bool) → (List Bool) → (List (List Int)) → (List Int) → Prop) : Prop where
of :
 br (decide ((0 : Int) ≤ (↑(List.length x2)) ∧ ((↑(List.length x2)) : Int) ≤ (↑(List.length x2)) ∧ (((↑(List.length x2)) * 8) : Int) ≤ 140737488355328))
 (l14r3
 (fun z6 z7 z8 z9 z10 z11 => l14r8
 (fun z12 z13 z14 z15 z16 => k1 z12 z13 z14 z15 z16)
 z6 (↑(List.length z10)) 0 z7 z8 z9 z10 z11)
 x1 (↑(List.length (List.replicate (Int.toNat (↑(List.length x2))) (0 : Int)))) 0 x2 x3 x4 x5 (List.replicate (Int.toNat (↑(List.length x2))) (0 : Int)))
 False
structure l6r10 (k1 : Int → Int → (List Int) → (List Int) → q0 → (List Bool) → (List Bool) → (List (List Int)) → (List Int) → Int → (List Int) → (List Int) → Prop) (s1 s2 s3 s4 : Int) (s5 s6 : List Int) (s7 : List (List Bool)) (s8 s9 : List Bool) (s10 : List (List Int)) (s11 : List Int) (s12 : Int) (s13 s14 : List Int) : Prop where
of :
 ∀ (I1 : Int → Int → Int → Int → (List Int) → (List Int) → q0 → (List Bool) → (List Bool) → (List (List Int)) → (List Int) → Int → (List Int) → (List Int) → Prop),
 (∀ (s1 s2 s3 s4 : Int) (s5 s6 : List Int) (s7 : List (List Bool)) (s8 s9 : List Bool) (s10 : List (List Int)) (s11 : List Int) (s12 : Int) (s13 s14 : List Int), (br (decide (s3 < s2))
 (br (decide (0 ≤ s3 ∧ s3 < (↑(List.length s13))))
 (need False (s13)[(Int.toNat s3)]? fun y15 =>
 br (true && true)
 (br (eqT (.int .i64) s3 s3)
 (br (decide (0 ≤ s3 ∧ s3 < (↑(List.length s14))))
 (need False (s14)[(Int.toNat s3)]? fun y16 =>
 I1 s1 s2 (IntKind.wrap .i64 (s3 + 1)) s4 s5 s6 s7 s8 s9 s10 s11 s12 (List.set s13 (Int.toNat s3) (-1)) (List.set s14 (Int.toNat s3) (-1)))
 False)
 False)
 False)
 False)
 (k1 s1 s4 s5 s6 s7 s8 s9 s10 s11 s12 s13 s14)) → I1 s1 s2 s3 s4 s5 s6 s7 s8 s9 s10 s11 s12 s13 s14) →
 I1 s1 s2 s3 s4 s5 s6 s7 s8 s9 s10 s11 s12 s13 s14
structure l15r5 (k1 : Int → Int → q0 → (List Bool) → (List Bool) → (List (List Int)) → (List Bool) → (List Int) → Prop) (s1 s2 s3 s4 : Int) (s5 : List (List Bool)) (s6 s7 : List Bool) (s8 : List (List Int)) (s9 : List Bool) (s10 : List Int) : Prop where
of :
 ∀ (I1 : Int → Int → Int → Int → q0 → (List Bool) → (List Bool) → (List (List Int)) → (List Bool) → (List Int) → Prop),
 (∀ (s1 s2 s3 s4 : Int) (s5 : List (List Bool)) (s6 s7 : List Bool) (s8 : List (List Int)) (s9 : List Bool) (s10 : List Int), (br (decide (s4 < s3))
 (br (decide (0 ≤ s4 ∧ s4 < (↑(List.length s7))))
 (need False (s7)[(Int.toNat s4)]? fun y11 =>
 br (y11)
 (br (decide (0 ≤ s4 ∧ s4 < (↑(List.length s6))))
 (need False (s6)[(Int.toNat s4)]? fun y12 =>
 br (decide (0 ≤ s4 ∧ s4 < (↑(List.length s9))))
 (need False (s9)[(Int.toNat s4)]? fun y13 =>
 br (decide (0 ≤ s4 ∧ s4 < (↑(List.length (List.set s9 (Int.toNat s4) (!y12))))))
 (need False ((List.set s9 (Int.toNat s4) (!y12)))[(Int.toNat s4)]? fun y14 =>
 br (y14)
 (I1 s1 (IntKind.wrap .i64 (s2 + 1)) s3 (IntKind.wrap .i64 (s4 + 1)) s5 s6 s7 s8 (List.set s9 (Int.toNat s4) (!y12)) s10)
 (I1 s1 s2 s3 (IntKind.wrap .i64 (s4 + 1)) s5 s6 s7 s8 (List.set s9 (Int.toNat s4) (!y12)) s10))
 False)
 False)
 False)
 (br (decide (0 ≤ s4 ∧ s4 < (↑(List.length s9))))
 (need False (s9)[(Int.toNat s4)]? fun y15 =>
 br (decide (0 ≤ s4 ∧ s4 < (↑(List.length (List.set s9 (Int.toNat s4) false)))))
 (need False ((List.set s9 (Int.toNat s4) false))[(Int.toNat s4)]? fun y16 =>
 br (y16)
 (I1 s1 (IntKind.wrap .i64 (s2 + 1)) s3 (IntKind.wrap .i64 (s4 + 1)) s5 s6 s7 s8 (List.set s9 (Int.toNat s4) false) s10)
 (I1 s1 s2 s3 (IntKind.wrap .i64 (s4 + 1)) s5 s6 s7 s8 (List.set s9 (Int.toNat s4) false) s10))
 False)
 False))
 False)
 (k1 s1 s2 s5 s6 s7 s8 s9 s10)) → I1 s1 s2 s3 s4 s5 s6 s7 s8 s9 s10) →
 I1 s1 s2 s3 s4 s5 s6 s7 s8 s9 s10
structure l15r15 (k1 : Int → Int → Int → Int → q0 → (List Bool) → (List Bool) → (List (List Int)) → (List Bool) → (List Int) → Prop) (s1 s2 s3 s4 s5 s6 s7 : Int) (s8 : List (List Bool)) (s9 : Nat) (s10 s11 : List Bool) (s12 : List (List Int)) (s13 s14 : List Bool) (s15 : List Int) : Prop where
of :
 ∀ (I1 : Int → Int → Int → Int → Int → Int → Int → q0 → Nat → (List Bool) → (List Bool) → (List (List Int)) → (List Bool) → (List Bool) → (List Int) → Prop),
 (∀ (s1 s2 s3 s4 s5 s6 s7 : Int) (s8 : List (List Bool)) (s9 : Nat) (s10 s11 : List Bool) (s12 : List (List Int)) (s13 s14 : List Bool) (s15 : List Int), (br (decide (s7 < s6))
 (br (decide (0 ≤ s7 ∧ s7 < (↑(List.length s13))))
 (need False (s13)[(Int.toNat s7)]? fun y16 =>
 br (y16)
 (br (decide (0 ≤ s7 ∧ s7 < (↑(List.length s14))))
 (need False (s14)[(Int.toNat s7)]? fun y17 =>
 br (y17)
 (br (decide (0 ≤ s3 ∧ s3 < (↑(List.length s15))))
 (need False (s15)[(Int.toNat s3)]? fun y18 =>
 br (decide (0 ≤ s3 ∧ s3 < (↑(List.length s15))))
 (need False (s15)[(Int.toNat s3)]? fun y19 =>
 I1 s1 s2 s3 s4 s5 s6 (IntKind.wrap .i64 (s7 + 1)) s8 s9 s10 s11 s12 s13 s14 (List.set s15 (Int.toNat s3) (IntKind.wrap .i64 (y18 + 1))))
 False)
 False)
 (I1 s1 s2 s3 s4 s5 s6 (IntKind.wrap .i64 (s7 + 1)) s8 s9 s10 s11 s12 s13 s14 s15))
 False)
 (I1 s1 s2 s3 s4 s5 s6 (IntKind.wrap .i64 (s7 + 1)) s8 s9 s10 s11 s12 s13 s14 s15))
 False)
 (k1 s1 s2 s4 s5 (List.set s8 s9 s13) s10 s11 s12 s14 s15)) → I1 s1 s2 s3 s4 s5 s6 s7 s8 s9 s10 s11 s12 s13 s14 s15) →
 I1 s1 s2 s3 s4 s5 s6 s7 s8 s9 s10 s11 s12 s13 s14 s15
structure l15r12 (k1 : Int → Int → q0 → (List Bool) → (List Bool) → (List (List Int)) → (List Bool) → (List Int) → Prop) (s1 s2 s3 s4 : Int) (s5 : List (List Bool)) (s6 s7 : List Bool) (s8 : List (List Int)) (s9 : List Bool) (s10 : List Int) : Prop where
of :
 ∀ (I1 : Int → Int → Int → Int → q0 → (List Bool) → (List Bool) → (List (List Int)) → (List Bool) → (List Int) → Prop),
 (∀ (s1 s2 s3 s4 : Int) (s5 : List (List Bool)) (s6 s7 : List Bool) (s8 : List (List Int)) (s9 : List Bool) (s10 : List Int), (br (decide (s4 < s3))
 (br (decide (0 ≤ s4 ∧ s4 < (↑(List.length s5))))
 (need False (s5)[(Int.toNat s4)]? fun y11 =>
 need False (s5)[(Int.toNat s4)]? fun y12 =>
 l15r15
 (fun z13 z14 z15 z16 z17 z18 z19 z20 z21 z22 => I1 z13 z14 z15 (IntKind.wrap .i64 (z16 + 1)) z17 z18 z19 z20 z21 z22)
 s1 s2 s4 s3 s4 (↑(List.length y12)) 0 s5 (Int.toNat s4) s6 s7 s8 y12 s9 s10)
 False)
 (k1 s1 s2 s5 s6 s7 s8 s9 s10)) → I1 s1 s2 s3 s4 s5 s6 s7 s8 s9 s10) →
 I1 s1 s2 s3 s4 s5 s6 s7 s8 s9 s10
structure l15r26 (k1 : Int → Int → Int → Int → q0 → (List Bool) → (List Bool) → (List (List Int)) → (List Bool) → (List Int) → (List Int) → Prop) (s1 s2 s3 s4 s5 s6 : Int) (s7 : List (List Bool)) (s8 s9 : List Bool) (s10 : List (List Int)) (s11 : List Bool) (s12 s13 : List Int) : Prop where
of :
 ∀ (I1 : Int → Int → Int → Int → Int → Int → q0 → (List Bool) → (List Bool) → (List (List Int)) → (List Bool) → (List Int) → (List Int) → Prop),
 (∀ (s1 s2 s3 s4 s5 s6 : Int) (s7 : List (List Bool)) (s8 s9 : List Bool) (s10 : List (List Int)) (s11 : List Bool) (s12 s13 : List Int), (br (decide (s6 < s5))
 (br (decide (0 ≤ s6 ∧ s6 < (↑(List.length s11))))
 (need False (s11)[(Int.toNat s6)]? fun y14 =>
 br (!y14)
 (I1 s1 s2 s3 s4 s5 (IntKind.wrap .i64 (s6 + 1)) s7 s8 s9 s10 s11 s12 s13)
 (br (decide (0 ≤ s6 ∧ s6 < (↑(List.length s12))))
 (need False (s12)[(Int.toNat s6)]? fun y15 =>
 br (decide (y15 < s1))
 (k1 s1 s6 s3 s4 s7 s8 s9 s10 s11 s12 s13)
 (br (decide (s2 < 0))
 (I1 s1 s6 s3 s4 s5 (IntKind.wrap .i64 (s6 + 1)) s7 s8 s9 s10 s11 s12 s13)
 (br (decide (0 ≤ s6 ∧ s6 < (↑(List.length s12))))
 (need False (s12)[(Int.toNat s6)]? fun y16 =>
 br (decide (0 ≤ s2 ∧ s2 < (↑(List.length s12))))
 (need False (s12)[(Int.toNat s2)]? fun y17 =>
 br (decide (y16 > y17))
 (I1 s1 s6 s3 s4 s5 (IntKind.wrap .i64 (s6 + 1)) s7 s8 s9 s10 s11 s12 s13)
 (I1 s1 s2 s3 s4 s5 (IntKind.wrap .i64 (s6 + 1)) s7 s8 s9 s10 s11 s12 s13))
 False)
 False)))
 False))
 False)
 (k1 s1 s2 s3 s4 s7 s8 s9 s10 s11 s12 s13)) → I1 s1 s2 s3 s4 s5 s6 s7 s8 s9 s10 s11 s12 s13) →
 I1 s1 s2 s3 s4 s5 s6 s7 s8 s9 s10 s11 s12 s13
structure l15r37 (k1 : Int → Int → Int → q0 → (List Bool) → (List Bool) → (List (List Int)) → (List Bool) → (List Int) → (List Int) → Prop) (s1 s2 s3 s4 s5 : Int) (s6 : List (List Bool)) (s7 : Nat) (s8 s9 : List Bool) (s10 : List (List Int)) (s11 s12 : List Bool) (s13 s14 : List Int) : Prop where
of :
 ∀ (I1 : Int → Int → Int → Int → Int → q0 → Nat → (List Bool) → (List Bool) → (List (List Int)) → (List Bool) → (List Bool) → (List Int) → (List Int) → Prop),
 (∀ (s1 s2 s3 s4 s5 : Int) (s6 : List (List Bool)) (s7 : Nat) (s8 s9 : List Bool) (s10 : List (List Int)) (s11 s12 : List Bool) (s13 s14 : List Int), (br (decide (s5 < s4))
 (br (decide (0 ≤ s5 ∧ s5 < (↑(List.length s11))))
 (need False (s11)[(Int.toNat s5)]? fun y15 =>
 br (y15)
 (br (decide (0 ≤ s5 ∧ s5 < (↑(List.length s13))))
 (need False (s13)[(Int.toNat s5)]? fun y16 =>
 br (decide (0 ≤ s5 ∧ s5 < (↑(List.length s13))))
 (need False (s13)[(Int.toNat s5)]? fun y17 =>
 I1 s1 s2 s3 s4 (IntKind.wrap .i64 (s5 + 1)) s6 s7 s8 s9 s10 s11 s12 (List.set s13 (Int.toNat s5) (IntKind.wrap .i64 (y16 - 1))) s14)
 False)
 False)
 (I1 s1 s2 s3 s4 (IntKind.wrap .i64 (s5 + 1)) s6 s7 s8 s9 s10 s11 s12 s13 s14))
 False)
 (k1 s1 s2 s3 (List.set s6 s7 s11) s8 s9 s10 s12 s13 s14)) → I1 s1 s2 s3 s4 s5 s6 s7 s8 s9 s10 s11 s12 s13 s14) →
 I1 s1 s2 s3 s4 s5 s6 s7 s8 s9 s10 s11 s12 s13 s14
structure l15r23 (k1 : q0 → (List Bool) → (List Bool) → (List (List Int)) → (List Int) → Prop) (s1 s2 s3 : Int) (s4 : List (List Bool)) (s5 s6 : List Bool) (s7 : List (List Int)) (s8 : List Bool) (s9 s10 : List Int) : Prop where
of :
 ∀ (I1 : Int → Int → Int → q0 → (List Bool) → (List Bool) → (List (List Int)) → (List Bool) → (List Int) → (List Int) → Prop),
 (∀ (s1 s2 s3 : Int) (s4 : List (List Bool)) (s5 s6 : List Bool) (s7 : List (List Int)) (s8 : List Bool) (s9 s10 : List Int), (br (decide (s3 < s2))
 (l15r26
 (fun z11 z12 z13 z14 z15 z16 z17 z18 z19 z20 z21 => br (decide (0 ≤ z12 ∧ z12 < (↑(List.length z19))))
 (need False (z19)[(Int.toNat z12)]? fun y22 =>
 br (roomB ((List.length z21) + 1) 8)
 (br (decide (0 ≤ z12 ∧ z12 < (↑(List.length z15))))
 (need False (z15)[(Int.toNat z12)]? fun y23 =>
 need False (z15)[(Int.toNat z12)]? fun y24 =>
 l15r37
 (fun z25 z26 z27 z28 z29 z30 z31 z32 z33 z34 => I1 z25 z26 (IntKind.wrap .i64 (z27 + 1)) z28 z29 z30 z31 z32 z33 z34)
 z11 z13 z14 (↑(List.length y24)) 0 z15 (Int.toNat z12) z16 z17 z18 y24 (List.set z19 (Int.toNat z12) false) z20 (z21 ++ [z12]))
 False)
 False)
 False)
 s1 (-1) s2 s3 (↑(List.length s8)) 0 s4 s5 s6 s7 s8 s9 s10)
 (k1 s4 s5 s6 s7 s10)) → I1 s1 s2 s3 s4 s5 s6 s7 s8 s9 s10) →
 I1 s1 s2 s3 s4 s5 s6 s7 s8 s9 s10
structure l41r1 (k1 : (List Int) → Prop) (s1 s2 : Int) (s3 : List Int) : Prop where
of :
 ∀ (I1 : Int → Int → (List Int) → Prop),
 (∀ (s1 s2 : Int) (s3 : List Int), (br (decide (s1 < s2))
 (br (decide (0 ≤ s2 ∧ s2 < (↑(List.length s3))))
 (need False (s3)[(Int.toNat s2)]? fun y4 =>
 br (decide (0 ≤ s1 ∧ s1 < (↑(List.length s3))))
 (need False (s3)[(Int.toNat s1)]? fun y5 =>
 br (decide (0 ≤ s1 ∧ s1 < (↑(List.length s3))))
 (need False (s3)[(Int.toNat s1)]? fun y6 =>
 br (eqT (.int .i64) s2 s2)
 (br (decide (0 ≤ s2 ∧ s2 < (↑(List.length (List.set s3 (Int.toNat s1) y4)))))
 (need False ((List.set s3 (Int.toNat s1) y4))[(Int.toNat s2)]? fun y7 =>
 I1 (IntKind.wrap .i64 (s1 + 1)) (IntKind.wrap .i64 (s2 - 1)) (List.set (List.set s3 (Int.toNat s1) y4) (Int.toNat s2) y5))
 False)
 False)
 False)
 False)
 False)
 (k1 s3)) → I1 s1 s2 s3) →
 I1 s1 s2 s3
structure c41 (x1 : List Int) (k1 : (List Int) → Prop) : Prop where
of :
 l41r1
 (fun z2 => k1 z2)
 0 (IntKind.wrap .i64 ((↑(List.length x1)) - 1)) x1
structure c15 (x1 : Int) (x2 : List (List Bool)) (x3 x4 : List Bool) (x5 : List (List Int)) (k1 : q0 → (List Bool) → (List Bool) → (List (List Int)) → (List Int) → Prop) : Prop where
of :
 br (decide ((0 : Int) ≤ (↑(List.length x2)) ∧ ((↑(List.length x2)) : Int) ≤ (↑(List.length x2)) ∧ (((↑(List.length x2)) * 1) : Int) ≤ 140737488355328))
 (br (decide ((0 : Int) ≤ (↑(List.length x2)) ∧ ((↑(List.length x2)) : Int) ≤ (↑(List.length x2)) ∧ (((↑(List.length x2)) * 8) : Int) ≤ 140737488355328))
 (l15r5
 (fun z6 z7 z8 z9 z10 z11 z12 z13 => l15r12
 (fun z14 z15 z16 z17 z18 z19 z20 z21 => l15r23
 (fun z22 z23 z24 z25 z26 => c41 z26
 (fun z27 => k1 z22 z23 z24 z25 z27))
 z14 z15 0 z16 z17 z18 z19 z20 z21 [])
 z6 z7 (↑(List.length z8)) 0 z8 z9 z10 z11 z12 z13)
 x1 0 (↑(List.length x2)) 0 x2 x3 x4 x5 (List.replicate (Int.toNat (↑(List.length x2))) (false : Bool)) (List.replicate (Int.toNat (↑(List.length x2))) (0 : Int)))
 False)
 False
structure l16r6 (k1 : Int → (List Int) → Int → Bool → q0 → (List Bool) → (List Bool) → (List (List Int)) → Prop) (s1 : Int) (s2 : List Int) (s3 : Int) (s4 : Bool) (s5 s6 : Int) (s7 : List (List Bool)) (s8 : Nat) (s9 s10 : List Bool) (s11 : List (List Int)) (s12 : List Bool) : Prop where
of :
 ∀ (I1 : Int → (List Int) → Int → Bool → Int → Int → q0 → Nat → (List Bool) → (List Bool) → (List (List Int)) → (List Bool) → Prop),
 (∀ (s1 : Int) (s2 : List Int) (s3 : Int) (s4 : Bool) (s5 s6 : Int) (s7 : List (List Bool)) (s8 : Nat) (s9 s10 : List Bool) (s11 : List (List Int)) (s12 : List Bool), (br (decide (s6 < s5))
 (br (decide (0 ≤ s6 ∧ s6 < (↑(List.length s12))))
 (need False (s12)[(Int.toNat s6)]? fun y13 =>
 br (y13)
 (need False (at? s2 s6) fun y14 =>
 br (y14 == s3)
 (I1 s1 s2 (IntKind.wrap .i64 (s3 + 1)) true s5 (IntKind.wrap .i64 (s6 + 1)) s7 s8 s9 s10 s11 s12)
 (I1 s1 s2 s3 s4 s5 (IntKind.wrap .i64 (s6 + 1)) s7 s8 s9 s10 s11 s12))
 (I1 s1 s2 s3 s4 s5 (IntKind.wrap .i64 (s6 + 1)) s7 s8 s9 s10 s11 s12))
 False)
 (k1 s1 s2 s3 s4 (List.set s7 s8 s12) s9 s10 s11)) → I1 s1 s2 s3 s4 s5 s6 s7 s8 s9 s10 s11 s12) →
 I1 s1 s2 s3 s4 s5 s6 s7 s8 s9 s10 s11 s12
structure l16r3 (k1 : Int → q0 → (List Bool) → (List Bool) → (List (List Int)) → Prop) (s1 : Int) (s2 : List Int) (s3 : Int) (s4 : Bool) (s5 : List (List Bool)) (s6 s7 : List Bool) (s8 : List (List Int)) : Prop where
of :
 ∀ (I1 : Int → (List Int) → Int → Bool → q0 → (List Bool) → (List Bool) → (List (List Int)) → Prop),
 (∀ (s1 : Int) (s2 : List Int) (s3 : Int) (s4 : Bool) (s5 : List (List Bool)) (s6 s7 : List Bool) (s8 : List (List Int)), (br (s4)
 (br (decide (0 ≤ s1 ∧ s1 < (↑(List.length s5))))
 (need False (s5)[(Int.toNat s1)]? fun y9 =>
 need False (s5)[(Int.toNat s1)]? fun y10 =>
 l16r6
 (fun z11 z12 z13 z14 z15 z16 z17 z18 => I1 z11 z12 z13 z14 z15 z16 z17 z18)
 s1 s2 s3 false (↑(List.length y10)) 0 s5 (Int.toNat s1) s6 s7 s8 y10)
 False)
 (k1 s3 s5 s6 s7 s8)) → I1 s1 s2 s3 s4 s5 s6 s7 s8) →
 I1 s1 s2 s3 s4 s5 s6 s7 s8
structure c16 (x1 x2 : Int) (x3 : List Int) (x4 : List (List Bool)) (x5 x6 : List Bool) (x7 : List (List Int)) (k1 : Int → q0 → (List Bool) → (List Bool) → (List (List Int)) → Prop) : Prop where
of :
 l16r3
 (fun z8 z9 z10 z11 z12 => k1 z8 z9 z10 z11 z12)
 x1 x3 x2 true x4 x5 x6 x7
structure l6r15 (k1 : Int → (List Int) → (List Int) → q0 → (List Bool) → (List Bool) → (List (List Int)) → (List Int) → Int → (List Int) → (List Int) → Prop) (s1 s2 s3 s4 : Int) (s5 s6 : List Int) (s7 : List (List Bool)) (s8 s9 : List Bool) (s10 : List (List Int)) (s11 : List Int) (s12 : Int) (s13 s14 s15 : List Int) : Prop where
of :
 ∀ (I1 : Int → Int → Int → Int → (List Int) → (List Int) → q0 → (List Bool) → (List Bool) → (List (List Int)) → (List Int) → Int → (List Int) → (List Int) → (List Int) → Prop),
 (∀ (s1 s2 s3 s4 : Int) (s5 s6 : List Int) (s7 : List (List Bool)) (s8 s9 : List Bool) (s10 : List (List Int)) (s11 : List Int) (s12 : Int) (s13 s14 s15 : List Int), (br (decide (s3 < s2))
 (br (decide (0 ≤ s3 ∧ s3 < (↑(List.length s15))))
 (need False (s15)[(Int.toNat s3)]? fun y16 =>
 c16 y16 1 s13 s7 s8 s9 s10
 (fun z17 z18 z19 z20 z21 => br (decide (z17 ≤ s1))
 (br (decide (0 ≤ y16 ∧ y16 < (↑(List.length s13))))
 (need False (s13)[(Int.toNat y16)]? fun y22 =>
 I1 s1 s2 (IntKind.wrap .i64 (s3 + 1)) s4 s5 s6 z18 z19 z20 z21 s11 s12 (List.set s13 (Int.toNat y16) z17) s14 s15)
 False)
 (I1 s1 s2 (IntKind.wrap .i64 (s3 + 1)) s4 s5 s6 z18 z19 z20 z21 s11 s12 s13 s14 s15)))
 False)
 (k1 s4 s5 s6 s7 s8 s9 s10 s11 s12 s13 s14)) → I1 s1 s2 s3 s4 s5 s6 s7 s8 s9 s10 s11 s12 s13 s14 s15) →
 I1 s1 s2 s3 s4 s5 s6 s7 s8 s9 s10 s11 s12 s13 s14 s15
structure l6r22 (k1 : Int → (List Int) → (List Int) → (List Int) → Int → (List Int) → (List Int) → Prop) (s1 s2 s3 : Int) (s4 s5 : List Int) (s6 : List (List Bool)) (s7 s8 : List Bool) (s9 : List (List Int)) (s10 : List Int) (s11 : Int) (s12 s13 : List Int) : Prop where
of :
 ∀ (I1 : Int → Int → Int → (List Int) → (List Int) → q0 → (List Bool) → (List Bool) → (List (List Int)) → (List Int) → Int → (List Int) → (List Int) → Prop),
 (∀ (s1 s2 s3 : Int) (s4 s5 : List Int) (s6 : List (List Bool)) (s7 s8 : List Bool) (s9 : List (List Int)) (s10 : List Int) (s11 : Int) (s12 s13 : List Int), (br (decide (s2 < s1))
 (br (decide (0 ≤ s2 ∧ s2 < (↑(List.length s8))))
 (need False (s8)[(Int.toNat s2)]? fun y14 =>
 br (y14)
 (br (decide (0 ≤ s2 ∧ s2 < (↑(List.length s12))))
 (need False (s12)[(Int.toNat s2)]? fun y15 =>
 br (decide (y15 < 0))
 (c16 s2 0 s13 s6 s7 s8 s9
 (fun z16 z17 z18 z19 z20 => br (true && true)
 (br (eqT (.int .i64) s2 s2)
 (br (decide (0 ≤ s2 ∧ s2 < (↑(List.length s13))))
 (need False (s13)[(Int.toNat s2)]? fun y21 =>
 br (decide (0 ≤ s2 ∧ s2 < (↑(List.length (List.set s13 (Int.toNat s2) z16)))))
 (need False ((List.set s13 (Int.toNat s2) z16))[(Int.toNat s2)]? fun y22 =>
 I1 s1 (IntKind.wrap .i64 (s2 + 1)) s3 s4 s5 z17 z18 z19 z20 s10 (maxI s11 (IntKind.wrap .i64 (y22 + 1))) s12 (List.set s13 (Int.toNat s2) z16))
 False)
 False)
 False)
 False))
 (I1 s1 (IntKind.wrap .i64 (s2 + 1)) s3 s4 s5 s6 s7 s8 s9 s10 s11 s12 s13))
 False)
 (I1 s1 (IntKind.wrap .i64 (s2 + 1)) s3 s4 s5 s6 s7 s8 s9 s10 s11 s12 s13))
 False)
 (k1 s3 s4 s5 s10 s11 s12 s13)) → I1 s1 s2 s3 s4 s5 s6 s7 s8 s9 s10 s11 s12 s13) →
 I1 s1 s2 s3 s4 s5 s6 s7 s8 s9 s10 s11 s12 s13
structure l6r29 (k1 : Int → (List Int) → (List Int) → Int → (List Int) → (List Int) → Prop) (s1 s2 s3 : Int) (s4 s5 s6 : List Int) (s7 : Int) (s8 s9 : List Int) : Prop where
of :
 ∀ (I1 : Int → Int → Int → (List Int) → (List Int) → (List Int) → Int → (List Int) → (List Int) → Prop),
 (∀ (s1 s2 s3 : Int) (s4 s5 s6 : List Int) (s7 : Int) (s8 s9 : List Int), (br (decide (s2 < s1))
 (c17 s6 s2
 (fun z10 => br (true && true)
 (br (eqT (.int .i64) s2 s2)
 (br (true && true)
 (br (eqT (.int .i64) s2 s2)
 (br (true && true)
 (br (decide (0 ≤ z10 ∧ z10 < (↑(List.length s8))))
 (need False (s8)[(Int.toNat z10)]? fun y11 =>
 br (true && true)
 (br (eqT (.int .i64) s2 s2)
 (c17 s6 s2
 (fun z12 => br (true && true)
 (br (eqT (.int .i64) s2 s2)
 (br (true && true)
 (br (eqT (.int .i64) s2 s2)
 (br (true && true)
 (br (decide (0 ≤ z10 ∧ z10 < (↑(List.length s8))))
 (br ((decide ((Int.toNat z10) = (Int.toNat z10))) && true)
 (need False (s8)[(Int.toNat z10)]? fun y13 =>
 br (eqT (.int .i64) y11 y13)
 (br (true && true)
 (br (decide (0 ≤ z12 ∧ z12 < (↑(List.length s9))))
 (need False (s9)[(Int.toNat z12)]? fun y14 =>
 br (decide (0 ≤ s2 ∧ s2 < (↑(List.length s8))))
 (need False (s8)[(Int.toNat s2)]? fun y15 =>
 br (true && true)
 (br (eqT (.int .i64) s2 s2)
 (br (decide (0 ≤ s2 ∧ s2 < (↑(List.length s9))))
 (need False (s9)[(Int.toNat s2)]? fun y16 =>
 I1 s1 (IntKind.wrap .i64 (s2 + 1)) s3 s4 s5 s6 s7 (List.set s8 (Int.toNat s2) y11) (List.set s9 (Int.toNat s2) y14))
 False)
 False)
 False)
 False)
 False)
 False)
 False)
 False)
 False)
 False)
 False)
 False)
 False)
 False))
 False)
 False)
 False)
 False)
 False)
 False)
 False)
 False))
 (k1 s3 s4 s5 s7 s8 s9)) → I1 s1 s2 s3 s4 s5 s6 s7 s8 s9) →
 I1 s1 s2 s3 s4 s5 s6 s7 s8 s9
structure j6r9 (k1 : Int → Int → (List Int) → (List Int) → Prop) (s1 s2 : Int) (s3 s4 : List Int) (s5 : List (List Bool)) (s6 s7 : List Bool) (s8 : List (List Int)) (s9 : List Int) (s10 : Int) (s11 s12 : List Int) : Prop where
of :
 l6r10
 (fun z13 z14 z15 z16 z17 z18 z19 z20 z21 z22 z23 z24 => c15 z13 z17 z18 z19 z20
 (fun z25 z26 z27 z28 z29 => l6r15
 (fun z30 z31 z32 z33 z34 z35 z36 z37 z38 z39 z40 => l6r22
 (fun z41 z42 z43 z44 z45 z46 z47 => l6r29
 (fun z48 z49 z50 z51 z52 z53 => k1 0 z51 z52 z53)
 (↑(List.length z46)) 0 z41 z42 z43 z44 z45 z46 z47)
 (↑(List.length z39)) 0 z30 z31 z32 z33 z34 z35 z36 z37 z38 z39 z40)
 z13 (↑(List.length z29)) 0 z14 z15 z16 z25 z26 z27 z28 z21 z22 z23 z24 z29))
 s1 (↑(List.length s11)) 0 s2 s3 s4 s5 s6 s7 s8 s9 s10 s11 s12
structure j6r7 (k1 : Int → Int → (List Int) → (List Int) → Prop) (s1 : Int) (s2 : tFN) (s3 : Int) (s4 s5 : List Int) (s6 : List (List Bool)) (s7 s8 : List Bool) (s9 : List (List Int)) : Prop where
of :
 c14 s1 s6 s7 s8 s9
 (fun z10 z11 z12 z13 z14 => (br (decide ((0 : Int) ≤ s2.2.2.1 ∧ (s2.2.2.1 : Int) ≤ s2.2.2.1 ∧ ((s2.2.2.1 * 8) : Int) ≤ 140737488355328))
 (br (true && true)
 (br (eqT (.int .i64) s2.2.2.1 s2.2.2.1)
 ((br (decide ((0 : Int) ≤ s2.2.2.1 ∧ (s2.2.2.1 : Int) ≤ s2.2.2.1 ∧ ((s2.2.2.1 * 8) : Int) ≤ 140737488355328))
 (br (true && (true && (true && true)))
 (j6r9
 (fun z15 z16 z17 z18 => k1 z15 z16 z17 z18)
 s1 s3 s4 s5 z10 z11 z12 z13 z14 0 (List.replicate (Int.toNat s2.2.2.1) (0 : Int)) (List.replicate (Int.toNat s2.2.2.1) (0 : Int)))
 False)
 False) ∧
 (br (true && true)
 (br (eqT (.int .i64) s2.2.2.1 s2.2.2.1)
 (br (decide ((0 : Int) ≤ s2.2.2.1 ∧ (s2.2.2.1 : Int) ≤ s2.2.2.1 ∧ ((s2.2.2.1 * 8) : Int) ≤ 140737488355328))
 (j6r9
 (fun z19 z20 z21 z22 => k1 z19 z20 z21 z22)
 s1 s3 s4 s5 z10 z11 z12 z13 z14 0 (List.replicate (Int.toNat s2.2.2.1) (0 : Int)) (List.replicate (Int.toNat s2.2.2.1) (0 : Int)))
 False)
 False)
 False))
 False)
 False)
 False) ∧
 ((br (decide ((0 : Int) ≤ s2.2.2.1 ∧ (s2.2.2.1 : Int) ≤ s2.2.2.1 ∧ ((s2.2.2.1 * 8) : Int) ≤ 140737488355328))
 (br (true && true)
 (br (eqT (.int .i64) s2.2.2.1 s2.2.2.1)
 ((br (decide ((0 : Int) ≤ s2.2.2.1 ∧ (s2.2.2.1 : Int) ≤ s2.2.2.1 ∧ ((s2.2.2.1 * 8) : Int) ≤ 140737488355328))
 (br (true && (true && (true && true)))
 (j6r9
 (fun z23 z24 z25 z26 => k1 z23 z24 z25 z26)
 s1 s3 s4 s5 z10 z11 z12 z13 z14 0 (List.replicate (Int.toNat s2.2.2.1) (0 : Int)) (List.replicate (Int.toNat s2.2.2.1) (0 : Int)))
 False)
 False) ∧
 (br (true && true)
 (br (eqT (.int .i64) s2.2.2.1 s2.2.2.1)
 (br (decide ((0 : Int) ≤ s2.2.2.1 ∧ (s2.2.2.1 : Int) ≤ s2.2.2.1 ∧ ((s2.2.2.1 * 8) : Int) ≤ 140737488355328))
 (j6r9
 (fun z27 z28 z29 z30 => k1 z27 z28 z29 z30)
 s1 s3 s4 s5 z10 z11 z12 z13 z14 0 (List.replicate (Int.toNat s2.2.2.1) (0 : Int)) (List.replicate (Int.toNat s2.2.2.1) (0 : Int)))
 False)
 False)
 False))
 False)
 False)
 False) ∧
 (br (true && true)
 (br (eqT (.int .i64) s2.2.2.1 s2.2.2.1)
 (br (true && true)
 (br (eqT (.int .i64) s2.2.2.1 s2.2.2.1)
 ((br (decide ((0 : Int) ≤ s2.2.2.1 ∧ (s2.2.2.1 : Int) ≤ s2.2.2.1 ∧ ((s2.2.2.1 * 8) : Int) ≤ 140737488355328))
 (br (true && true)
 (br (eqT (.int .i64) s2.2.2.1 s2.2.2.1)
 (br (decide ((0 : Int) ≤ s2.2.2.1 ∧ (s2.2.2.1 : Int) ≤ s2.2.2.1 ∧ ((s2.2.2.1 * 8) : Int) ≤ 140737488355328))
 (j6r9
 (fun z31 z32 z33 z34 => k1 z31 z32 z33 z34)
 s1 s3 s4 s5 z10 z11 z12 z13 z14 0 (List.replicate (Int.toNat s2.2.2.1) (0 : Int)) (List.replicate (Int.toNat s2.2.2.1) (0 : Int)))
 False)
 False)
 False)
 False) ∧
 (br (decide ((0 : Int) ≤ s2.2.2.1 ∧ (s2.2.2.1 : Int) ≤ s2.2.2.1 ∧ ((s2.2.2.1 * 8) : Int) ≤ 140737488355328))
 (br (true && true)
 (br (eqT (.int .i64) s2.2.2.1 s2.2.2.1)
 (br (decide ((0 : Int) ≤ s2.2.2.1 ∧ (s2.2.2.1 : Int) ≤ s2.2.2.1 ∧ ((s2.2.2.1 * 8) : Int) ≤ 140737488355328))
 (j6r9
 (fun z35 z36 z37 z38 => k1 z35 z36 z37 z38)
 s1 s3 s4 s5 z10 z11 z12 z13 z14 0 (List.replicate (Int.toNat s2.2.2.1) (0 : Int)) (List.replicate (Int.toNat s2.2.2.1) (0 : Int)))
 False)
 False)
 False)
 False))
 False)
 False)
 False)
 False)))
structure c6 (x1 : tFN) (x2 : Int) (k1 : Int → Int → (List Int) → (List Int) → Prop) : Prop where
of :
 c12 x1
 (fun z3 => br (z3 != 0)
 (k1 0 z3 [] [])
 (br (decide (x2 < 1))
 (k1 0 4 [] [])
 (br (decide (x2 > 10))
 (k1 0 4 [] [])
 (c13 x1
 (fun z4 z5 z6 z7 => j6r7
 (fun z8 z9 z10 z11 => k1 z9 z8 z10 z11)
 x2 x1 0 [] [] z4 z5 z6 z7)))))
structure c4 (k1 : Bool → Prop) : Prop where
of :
 c11 
 (fun z1 z2 z3 z4 => c6 (z1, z3, z2, z4, ()) 3
 (fun z5 z6 z7 z8 => br (z6 == 0)
 (br (((↑(List.length z7)) : Int) == 2)
 (br (decide ((0 : Int) ≤ 1 ∧ (1 : Int) < (↑(List.length z7))))
 (need False (z7)[1]? fun y9 =>
 br (decide (y9 > 0))
 (k1 ((z5 : Int) == 0))
 (k1 false))
 False)
 (k1 false))
 (k1 false)))
structure l5r3 (k1 : Int → tFN → Prop) (s1 : Int) (s2 : List tBK) (s3 s4 : Int) (s5 : tFN) : Prop where
of :
 ∀ (I1 : Int → (List tBK) → Int → Int → tFN → Prop),
 (∀ (s1 : Int) (s2 : List tBK) (s3 s4 : Int) (s5 : tFN), (br (decide (s4 < s3))
 (need False (at? s2 s4) fun y6 =>
 I1 (IntKind.wrap .i64 (s1 + (↑(List.length y6.1)))) s2 s3 (IntKind.wrap .i64 (s4 + 1)) s5)
 (k1 s1 s5)) → I1 s1 s2 s3 s4 s5) →
 I1 s1 s2 s3 s4 s5
structure c5 (x1 : tFN) (k1 : Bool → Prop) : Prop where
of :
 l5r3
 (fun z2 z3 => br (decide ((z3.2.2.1 : Int) ≤ 40))
 (br (decide (((↑(List.length z3.2.2.2.1)) : Int) ≤ 12))
 (k1 (decide ((z2 : Int) ≤ 60)))
 (k1 false))
 (k1 false))
 0 x1.2.2.2.1 (↑(List.length x1.2.2.2.1)) 0 x1
structure l7r11 (k1 : Int → Prop) (k2 : (List Int) → Int → Int → tFN → Prop) (s1 : Int) (s2 : List Int) (s3 s4 : Int) (s5 : List Int) (s6 s7 : Int) (s8 : tFN) : Prop where
of :
 ∀ (I1 : Int → (List Int) → Int → Int → (List Int) → Int → Int → tFN → Prop),
 (∀ (s1 : Int) (s2 : List Int) (s3 s4 : Int) (s5 : List Int) (s6 s7 : Int) (s8 : tFN), (br (decide (s7 < s6))
 (need False (at? s5 s7) fun y9 =>
 br (s1 == y9)
 (k1 7)
 (I1 s1 s2 s3 s4 s5 s6 (IntKind.wrap .i64 (s7 + 1)) s8))
 (k2 s2 s3 s4 s8)) → I1 s1 s2 s3 s4 s5 s6 s7 s8) →
 I1 s1 s2 s3 s4 s5 s6 s7 s8
structure l7r6 (k1 : Int → Prop) (k2 : tFN → Prop) (s1 : List Int) (s2 s3 : Int) (s4 : tFN) : Prop where
of :
 ∀ (I1 : (List Int) → Int → Int → tFN → Prop),
 (∀ (s1 : List Int) (s2 s3 : Int) (s4 : tFN), (br (decide (s3 < s2))
 (need False (at? s1 s3) fun y5 =>
 br (decide (y5 < 1))
 (k1 6)
 (br (decide (y5 ≥ s4.2.2.1))
 (k1 6)
 (br (decide ((0 : Int) ≤ 0 ∧ (0 : Int) ≤ s3 ∧ (s3 : Int) ≤ (↑(List.length s4.2.1))))
 (l7r11
 (fun z6 => k1 z6)
 (fun z7 z8 z9 z10 => I1 z7 z8 (IntKind.wrap .i64 (z9 + 1)) z10)
 y5 s1 s2 s3 (List.drop 0 (List.take (Int.toNat s3) s4.2.1)) (↑(List.length (List.drop 0 (List.take (Int.toNat s3) s4.2.1)))) 0 s4)
 False)))
 (k2 s4)) → I1 s1 s2 s3 s4) →
 I1 s1 s2 s3 s4
structure c54 (k1 : (List (List UInt8)) → Prop) : Prop where
of :
 k1 [[], [(68 : UInt8), (65 : UInt8), (66 : UInt8)], [(68 : UInt8), (65 : UInt8), (66 : UInt8)], [(68 : UInt8), (65 : UInt8), (66 : UInt8)], [(68 : UInt8), (65 : UInt8), (66 : UInt8)], [(68 : UInt8), (65 : UInt8), (66 : UInt8)], [(68 : UInt8), (65 : UInt8), (66 : UInt8)], [(68 : UInt8), (65 : UInt8), (66 : UInt8)], [(68 : UInt8), (65 : UInt8), (78 : UInt8)], [(68 : UInt8), (65 : UInt8), (78 : UInt8)], [(68 : UInt8), (65 : UInt8), (78 : UInt8)], [(68 : UInt8), (78 : UInt8)], [(68 : UInt8), (65 : UInt8), (78 : UInt8)], [(65 : UInt8), (66 : UInt8), (78 : UInt8)], [(68 : UInt8), (66 : UInt8), (78 : UInt8)], [(68 : UInt8), (65 : UInt8), (66 : UInt8)], [(65 : UInt8), (66 : UInt8), (78 : UInt8)], [(65 : UInt8), (66 : UInt8), (78 : UInt8)], [(65 : UInt8), (66 : UInt8), (78 : UInt8)], [(78 : UInt8)], [(78 : UInt8)], [(65 : UInt8)], [], [(65 : UInt8)], [(78 : UInt8)]]
structure c42 (x1 : Int) (k1 : (List UInt8) → Prop) : Prop where
of :
 br (x1 == 100)
 (k1 [(68 : UInt8), (65 : UInt8)])
 (br (x1 == 101)
 (k1 [(68 : UInt8), (78 : UInt8), (76 : UInt8)])
 (br (x1 == 102)
 (k1 [(68 : UInt8), (65 : UInt8), (76 : UInt8)])
 (br (x1 == 103)
 (k1 [(68 : UInt8), (78 : UInt8)])
 (br (x1 == 23)
 (k1 [(65 : UInt8)])
 (br (decide (x1 ≥ 1))
 (br (decide (x1 ≤ 15))
 (c54 
 (fun z2 => br (decide (0 ≤ x1 ∧ x1 < (↑(List.length z2))))
 (need False (z2)[(Int.toNat x1)]? fun y3 =>
 k1 y3)
 False))
 (k1 [(45 : UInt8)]))
 (k1 [(45 : UInt8)]))))))
structure l43r2 (k1 : Bool → Prop) (k2 : Prop) (s1 : List UInt8) (s2 s3 s4 : Int) : Prop where
of :
 ∀ (I1 : (List UInt8) → Int → Int → Int → Prop),
 (∀ (s1 : List UInt8) (s2 s3 s4 : Int), (br (decide (s4 < s3))
 (need False (at? s1 s4) fun y5 =>
 br (((UInt8.toNat y5 : Int) : Int) == s2)
 (k1 true)
 (I1 s1 s2 s3 (IntKind.wrap .i64 (s4 + 1))))
 (k2)) → I1 s1 s2 s3 s4) →
 I1 s1 s2 s3 s4
structure c43 (x1 : List UInt8) (x2 : Int) (k1 : Bool → Prop) : Prop where
of :
 l43r2
 (fun z3 => k1 z3)
 (k1 false)
 x1 x2 (↑(List.length x1)) 0
structure l18r5 (k1 : Int → Prop) (k2 : Int → tIN → Prop) (s1 : Int) (s2 : List UInt8) (s3 s4 : Int) (s5 : tIN) (s6 : List Int) : Prop where
of :
 ∀ (I1 : Int → (List UInt8) → Int → Int → tIN → (List Int) → Prop),
 (∀ (s1 : Int) (s2 : List UInt8) (s3 s4 : Int) (s5 : tIN) (s6 : List Int), (br (decide (s4 < s3))
 (br (decide (0 ≤ s4 ∧ s4 < (↑(List.length s6))))
 (need False (s6)[(Int.toNat s4)]? fun y7 =>
 br (y7 != 0)
 (need False (at? [(68 : UInt8), (65 : UInt8), (66 : UInt8), (78 : UInt8), (76 : UInt8)] s4) fun y8 =>
 c43 s2 (UInt8.toNat y8 : Int)
 (fun z9 => br (!z9)
 (k1 3)
 (I1 s1 s2 s3 (IntKind.wrap .i64 (s4 + 1)) s5 s6)))
 (I1 s1 s2 s3 (IntKind.wrap .i64 (s4 + 1)) s5 s6))
 False)
 (k2 s1 s5)) → I1 s1 s2 s3 s4 s5 s6) →
 I1 s1 s2 s3 s4 s5 s6
structure l18r23 (k1 : Int → Prop) (k2 : Prop) (s1 s2 s3 : Int) (s4 : List Int) : Prop where
of :
 ∀ (I1 : Int → Int → Int → (List Int) → Prop),
 (∀ (s1 s2 s3 : Int) (s4 : List Int), (br (decide (s3 < s2))
 (br (decide (0 ≤ s3 ∧ s3 < (↑(List.length s4))))
 (need False (s4)[(Int.toNat s3)]? fun y5 =>
 br (decide (y5 < 0))
 (k1 6)
 (br (decide (y5 ≥ s1))
 (k1 6)
 (I1 s1 s2 (IntKind.wrap .i64 (s3 + 1)) s4)))
 False)
 (k2)) → I1 s1 s2 s3 s4) →
 I1 s1 s2 s3 s4
structure j18r20 (k1 : Int → Prop) (s1 s2 s3 : Int) (s4 : tIN) : Prop where
of :
 br (decide (((↑(List.length s4.2.2.2.2.2.1)) : Int) > 6))
 (k1 4)
 (br (decide ((s4.2.2.2.2.1 : Int) < s2))
 (k1 4)
 (br (decide ((s4.2.2.2.2.1 : Int) > s3))
 (k1 4)
 (br (List.isEmpty s4.2.2.2.2.2.1)
 (l18r23
 (fun z5 => k1 z5)
 (k1 0)
 s1 ((3 : Nat) : Int) 0 [s4.2.1, s4.2.2.1, s4.2.2.2.1])
 (br (roomB (3 + (List.length s4.2.2.2.2.2.1)) 8)
 (l18r23
 (fun z6 => k1 z6)
 (k1 0)
 s1 (↑(List.length ([s4.2.1, s4.2.2.1, s4.2.2.2.1] ++ s4.2.2.2.2.2.1))) 0 ([s4.2.1, s4.2.2.1, s4.2.2.2.1] ++ s4.2.2.2.2.2.1))
 False))))
structure c18 (x1 : tIN) (x2 : Int) (k1 : Int → Prop) : Prop where
of :
 c42 x1.1
 (fun z3 => br ((z3 : List UInt8) == [(45 : UInt8)])
 (k1 1)
 (l18r5
 (fun z4 => k1 z4)
 (fun z5 z6 => br ((z6.1 : Int) == 101)
 (j18r20
 (fun z7 => k1 z7)
 z5 0 255 z6)
 (br ((z6.1 : Int) == 103)
 (j18r20
 (fun z8 => k1 z8)
 z5 0 255 z6)
 (br ((z6.1 : Int) == 9)
 (j18r20
 (fun z9 => k1 z9)
 z5 0 31 z6)
 (br ((z6.1 : Int) == 10)
 (j18r20
 (fun z10 => k1 z10)
 z5 0 31 z6)
 (br ((z6.1 : Int) == 14)
 (j18r20
 (fun z11 => k1 z11)
 z5 0 4095 z6)
 (j18r20
 (fun z12 => k1 z12)
 z5 (-2147483648) 2147483647 z6))))))
 x2 z3 ((5 : Nat) : Int) 0 x1 [x1.2.1, x1.2.2.1, x1.2.2.2.1, x1.2.2.2.2.1, (↑(List.length x1.2.2.2.2.2.1))]))
structure l7r25 (k1 : Int → Prop) (k2 : Int → (List tBK) → Int → Int → tFN → tBK → Prop) (s1 : Int) (s2 : List tBK) (s3 s4 : Int) (s5 : List tIN) (s6 s7 : Int) (s8 : tFN) (s9 : tBK) : Prop where
of :
 ∀ (I1 : Int → (List tBK) → Int → Int → (List tIN) → Int → Int → tFN → tBK → Prop),
 (∀ (s1 : Int) (s2 : List tBK) (s3 s4 : Int) (s5 : List tIN) (s6 s7 : Int) (s8 : tFN) (s9 : tBK), (br (decide (s7 < s6))
 (need False (at? s5 s7) fun y10 =>
 c18 y10 s8.2.2.1
 (fun z11 => br (z11 != 0)
 (k1 z11)
 (I1 s1 s2 s3 s4 s5 s6 (IntKind.wrap .i64 (s7 + 1)) s8 s9)))
 (k2 s1 s2 s3 s4 s8 s9)) → I1 s1 s2 s3 s4 s5 s6 s7 s8 s9) →
 I1 s1 s2 s3 s4 s5 s6 s7 s8 s9
structure l19r6 (k1 : Int → Prop) (k2 : Int → Int → Int → tIN → Prop) (s1 s2 : Int) (s3 : List UInt8) (s4 s5 s6 : Int) (s7 : tIN) (s8 : List Int) : Prop where
of :
 ∀ (I1 : Int → Int → (List UInt8) → Int → Int → Int → tIN → (List Int) → Prop),
 (∀ (s1 s2 : Int) (s3 : List UInt8) (s4 s5 s6 : Int) (s7 : tIN) (s8 : List Int), (br (decide (s6 < s5))
 (br (decide (0 ≤ s6 ∧ s6 < (↑(List.length s8))))
 (need False (s8)[(Int.toNat s6)]? fun y9 =>
 br (y9 != 0)
 (need False (at? [(79 : UInt8), (65 : UInt8), (66 : UInt8), (78 : UInt8)] s6) fun y10 =>
 c43 s3 (UInt8.toNat y10 : Int)
 (fun z11 => br (!z11)
 (k1 3)
 (I1 s1 s2 s3 s4 s5 (IntKind.wrap .i64 (s6 + 1)) s7 s8)))
 (I1 s1 s2 s3 s4 s5 (IntKind.wrap .i64 (s6 + 1)) s7 s8))
 False)
 (k2 s1 s2 s4 s7)) → I1 s1 s2 s3 s4 s5 s6 s7 s8) →
 I1 s1 s2 s3 s4 s5 s6 s7 s8
structure j19s11 (k1 : Int → Prop) (k2 : Int → Int → tIN → Prop) (s1 s2 : Int) (s3 : Bool) (s4 : tIN) : Prop where
of :
 br (s3)
 (k1 3)
 (k2 s1 s2 s4)
structure l19r16 (k1 : Int → Prop) (k2 : Prop) (s1 : Int) (s2 : List Int) (s3 s4 : Int) : Prop where
of :
 ∀ (I1 : Int → (List Int) → Int → Int → Prop),
 (∀ (s1 : Int) (s2 : List Int) (s3 s4 : Int), (br (decide (s4 < s3))
 (need False (at? s2 s4) fun y5 =>
 br (decide (y5 < 1))
 (k1 4)
 (br (decide (y5 ≥ s1))
 (k1 4)
 (I1 s1 s2 s3 (IntKind.wrap .i64 (s4 + 1)))))
 (k2)) → I1 s1 s2 s3 s4) →
 I1 s1 s2 s3 s4
structure j19r13 (k1 : Int → Prop) (s1 s2 : Int) (s3 : tIN) : Prop where
of :
 br (decide ((s3.2.2.1 : Int) < 0))
 (k1 6)
 (br (decide ((s3.2.2.1 : Int) ≥ s1))
 (k1 6)
 (br (decide ((s3.2.2.2.1 : Int) < 0))
 (k1 6)
 (br (decide ((s3.2.2.2.1 : Int) ≥ s1))
 (k1 6)
 (l19r16
 (fun z4 => k1 z4)
 (k1 0)
 s2 s3.2.2.2.2.2.1 (↑(List.length s3.2.2.2.2.2.1)) 0))))
structure c19 (x1 : tIN) (x2 x3 : Int) (k1 : Int → Prop) : Prop where
of :
 br (decide ((x1.1 : Int) < 0))
 (k1 1)
 (br (decide ((x1.1 : Int) > 3))
 (k1 1)
 (br (decide ((0 : Int) ≤ x1.1 ∧ (x1.1 : Int) < ((4 : Nat) : Int)))
 (need False ([[(65 : UInt8)], [], [(79 : UInt8), (65 : UInt8), (66 : UInt8)], [(78 : UInt8)]])[(Int.toNat x1.1)]? fun y4 =>
 br (decide ((0 : Int) ≤ x1.1 ∧ (x1.1 : Int) < ((4 : Nat) : Int)))
 (need False ([0, 1, 2, 0])[(Int.toNat x1.1)]? fun y5 =>
 l19r6
 (fun z6 => k1 z6)
 (fun z7 z8 z9 z10 => br (((↑(List.length z10.2.2.2.2.2.1)) : Int) != z9)
 (j19s11
 (fun z11 => k1 z11)
 (fun z12 z13 z14 => j19r13
 (fun z15 => k1 z15)
 z12 z13 z14)
 z7 z8 true z10)
 (br ((z10.1 : Int) == 2)
 (br (decide ((z10.2.1 : Int) < 16))
 (j19s11
 (fun z16 => k1 z16)
 (fun z17 z18 z19 => j19r13
 (fun z20 => k1 z20)
 z17 z18 z19)
 z7 z8 true z10)
 (br (decide ((z10.2.1 : Int) > 18))
 (j19s11
 (fun z21 => k1 z21)
 (fun z22 z23 z24 => j19r13
 (fun z25 => k1 z25)
 z22 z23 z24)
 z7 z8 true z10)
 (br ((z10.1 : Int) == 3)
 (br (decide ((z10.2.2.2.2.1 : Int) < 1))
 (j19s11
 (fun z26 => k1 z26)
 (fun z27 z28 z29 => j19r13
 (fun z30 => k1 z30)
 z27 z28 z29)
 z7 z8 true z10)
 (j19s11
 (fun z31 => k1 z31)
 (fun z32 z33 z34 => j19r13
 (fun z35 => k1 z35)
 z32 z33 z34)
 z7 z8 (decide ((z10.2.2.2.2.1 : Int) > 6)) z10))
 (j19s11
 (fun z36 => k1 z36)
 (fun z37 z38 z39 => j19r13
 (fun z40 => k1 z40)
 z37 z38 z39)
 z7 z8 false z10))))
 (br ((z10.1 : Int) == 3)
 (br (decide ((z10.2.2.2.2.1 : Int) < 1))
 (j19s11
 (fun z41 => k1 z41)
 (fun z42 z43 z44 => j19r13
 (fun z45 => k1 z45)
 z42 z43 z44)
 z7 z8 true z10)
 (j19s11
 (fun z46 => k1 z46)
 (fun z47 z48 z49 => j19r13
 (fun z50 => k1 z50)
 z47 z48 z49)
 z7 z8 (decide ((z10.2.2.2.2.1 : Int) > 6)) z10))
 (j19s11
 (fun z51 => k1 z51)
 (fun z52 z53 z54 => j19r13
 (fun z55 => k1 z55)
 z52 z53 z54)
 z7 z8 false z10))))
 x2 x3 y4 y5 ((4 : Nat) : Int) 0 x1 [x1.2.1, x1.2.2.1, x1.2.2.2.1, x1.2.2.2.2.1])
 False)
 False))
structure l7r19 (k1 : Int → Prop) (k2 : tFN → Prop) (s1 : Int) (s2 : List tBK) (s3 s4 : Int) (s5 : tFN) : Prop where
of :
 ∀ (I1 : Int → (List tBK) → Int → Int → tFN → Prop),
 (∀ (s1 : Int) (s2 : List tBK) (s3 s4 : Int) (s5 : tFN), (br (decide (s4 < s3))
 (need False (at? s2 s4) fun y6 =>
 br (decide (((IntKind.wrap .i64 (s1 + (↑(List.length y6.1)))) : Int) > 4096))
 (k1 2)
 (l7r25
 (fun z7 => k1 z7)
 (fun z8 z9 z10 z11 z12 z13 => c19 z13.2.1 z12.2.2.1 (↑(List.length z12.2.2.2.1))
 (fun z14 => br (z14 != 0)
 (k1 z14)
 (I1 z8 z9 z10 (IntKind.wrap .i64 (z11 + 1)) z12)))
 (IntKind.wrap .i64 (s1 + (↑(List.length y6.1)))) s2 s3 s4 y6.1 (↑(List.length y6.1)) 0 s5 y6))
 (k2 s5)) → I1 s1 s2 s3 s4 s5) →
 I1 s1 s2 s3 s4 s5
structure l44r3 (k1 : (List Int) → Prop) (s1 s2 : Int) (s3 s4 : List Int) : Prop where
of :
 ∀ (I1 : Int → Int → (List Int) → (List Int) → Prop),
 (∀ (s1 s2 : Int) (s3 s4 : List Int), (br (decide (s2 < s1))
 (br (decide (0 ≤ s2 ∧ s2 < (↑(List.length s4))))
 (need False (s4)[(Int.toNat s2)]? fun y5 =>
 br (y5 != 0)
 (br (roomB ((List.length s3) + 1) 8)
 (I1 s1 (IntKind.wrap .i64 (s2 + 1)) (s3 ++ [y5]) s4)
 False)
 (I1 s1 (IntKind.wrap .i64 (s2 + 1)) s3 s4))
 False)
 (k1 s3)) → I1 s1 s2 s3 s4) →
 I1 s1 s2 s3 s4
structure c44 (x1 : tIN) (k1 : (List Int) → Prop) : Prop where
of :
 br (List.isEmpty x1.2.2.2.2.2.1)
 (l44r3
 (fun z2 => k1 z2)
 ((2 : Nat) : Int) 0 [] [x1.2.2.1, x1.2.2.2.1])
 (br (roomB (2 + (List.length x1.2.2.2.2.2.1)) 8)
 (l44r3
 (fun z3 => k1 z3)
 (↑(List.length ([x1.2.2.1, x1.2.2.2.1] ++ x1.2.2.2.2.2.1))) 0 [] ([x1.2.2.1, x1.2.2.2.1] ++ x1.2.2.2.2.2.1))
 False)
structure l21r2 (k1 : Bool → Prop) (k2 : Prop) (s1 : Int) (s2 : List Int) (s3 s4 : Int) : Prop where
of :
 ∀ (I1 : Int → (List Int) → Int → Int → Prop),
 (∀ (s1 : Int) (s2 : List Int) (s3 s4 : Int), (br (decide (s4 < s3))
 (need False (at? s2 s4) fun y5 =>
 br (y5 == s1)
 (k1 true)
 (I1 s1 s2 s3 (IntKind.wrap .i64 (s4 + 1))))
 (k2)) → I1 s1 s2 s3 s4) →
 I1 s1 s2 s3 s4
structure c21 (x1 : List Int) (x2 : Int) (k1 : Bool → Prop) : Prop where
of :
 l21r2
 (fun z3 => k1 z3)
 (k1 false)
 x2 x1 (↑(List.length x1)) 0
structure c25 (x1 : tIN) (k1 : Int → Prop) : Prop where
of :
 br ((x1.1 : Int) == 13)
 (k1 0)
 (br ((x1.1 : Int) == 23)
 (k1 0)
 (k1 x1.2.1))
structure l20r9 (k1 : Bool → Prop) (k2 : Int → Nat → Nat → Nat → Bool → tFN → (List Bool) → (List (List Int)) → tBK → Prop) (s1 : Int) (s2 s3 s4 : Nat) (s5 : Bool) (s6 : Int) (s7 : tFN) (s8 : List Bool) (s9 : List (List Int)) (s10 : tBK) : Prop where
of :
 ∀ (I1 : Int → Nat → Nat → Nat → Bool → Int → tFN → (List Bool) → (List (List Int)) → tBK → Prop),
 (∀ (s1 : Int) (s2 s3 s4 : Nat) (s5 : Bool) (s6 : Int) (s7 : tFN) (s8 : List Bool) (s9 : List (List Int)) (s10 : tBK), (br (decide (s6 < (↑(List.length s10.1))))
 (br (!s5)
 (need False (at? s10.1 s6) fun y11 =>
 c44 y11
 (fun z12 => c21 z12 s1
 (fun z13 => br (z13)
 (k1 true)
 (need False (at? s10.1 s6) fun y14 =>
 c25 y14
 (fun z15 => I1 s1 s2 s3 s4 ((z15 : Int) == s1) (IntKind.wrap .i64 (s6 + 1)) s7 s8 s9 s10)))))
 (k2 s1 s2 s3 s4 s5 s7 s8 s9 s10))
 (k2 s1 s2 s3 s4 s5 s7 s8 s9 s10)) → I1 s1 s2 s3 s4 s5 s6 s7 s8 s9 s10) →
 I1 s1 s2 s3 s4 s5 s6 s7 s8 s9 s10
structure l20r18 (k1 : Int → Nat → Nat → Nat → tFN → (List Bool) → (List (List Int)) → Prop) (k2 : Int → tFN → (List Bool) → (List (List Int)) → Prop) (s1 : Int) (s2 s3 s4 : Nat) (s5 : List Int) (s6 s7 : Int) (s8 : tFN) (s9 : List Bool) (s10 : List (List Int)) : Prop where
of :
 ∀ (I1 : Int → Nat → Nat → Nat → (List Int) → Int → Int → tFN → (List Bool) → (List (List Int)) → Prop) (I2 : Int → (List Int) → Int → Int → tFN → (List Bool) → (List (List Int)) → Prop),
 (∀ (s1 : Int) (s2 s3 s4 : Nat) (s5 : List Int) (s6 s7 : Int) (s8 : tFN) (s9 : List Bool) (s10 : List (List Int)), (br (decide (s7 < s6))
 (need False (at? s5 s7) fun y11 =>
 br (decide (0 ≤ y11 ∧ y11 < (↑(List.length s9))))
 (need False (s9)[(Int.toNat y11)]? fun y12 =>
 br (!y12)
 (br (decide (0 ≤ y11 ∧ y11 < (↑(List.length s9))))
 (need False (s9)[(Int.toNat y11)]? fun y13 =>
 br (decide ((s3 + 1) ≤ s4))
 (I1 s1 s2 (s3 + 1) s4 s5 s6 (IntKind.wrap .i64 (s7 + 1)) s8 (List.set s9 (Int.toNat y11) true) (((List.take (s2 + s3) s10) ++ [[y11, 0]]) ++ (List.drop ((s2 + s3) + 1) s10)))
 (br (roomB (s3 + 1) 16)
 (br (decide (s2 = 0))
 (I2 s1 s5 s6 (IntKind.wrap .i64 (s7 + 1)) s8 (List.set s9 (Int.toNat y11) true) ((List.take s3 s10) ++ [[y11, 0]]))
 ((I2 s1 s5 s6 (IntKind.wrap .i64 (s7 + 1)) s8 (List.set s9 (Int.toNat y11) true) ((List.take s3 (List.drop s2 s10)) ++ [[y11, 0]])) ∧
 (I1 s1 s2 (s3 + 1) (s3 + 1) s5 s6 (IntKind.wrap .i64 (s7 + 1)) s8 (List.set s9 (Int.toNat y11) true) ((List.take (s2 + s3) s10) ++ [[y11, 0]]))))
 False))
 False)
 (I1 s1 s2 s3 s4 s5 s6 (IntKind.wrap .i64 (s7 + 1)) s8 s9 s10))
 False)
 (k1 s1 s2 s3 s4 s8 s9 s10)) → I1 s1 s2 s3 s4 s5 s6 s7 s8 s9 s10) →
 (∀ (s14 : Int) (s15 : List Int) (s16 s17 : Int) (s18 : tFN) (s19 : List Bool) (s20 : List (List Int)), (br (decide (s17 < s16))
 (need False (at? s15 s17) fun y21 =>
 br (decide (0 ≤ y21 ∧ y21 < (↑(List.length s19))))
 (need False (s19)[(Int.toNat y21)]? fun y22 =>
 br (!y22)
 (br (decide (0 ≤ y21 ∧ y21 < (↑(List.length s19))))
 (need False (s19)[(Int.toNat y21)]? fun y23 =>
 br (roomB ((List.length s20) + 1) 16)
 (I2 s14 s15 s16 (IntKind.wrap .i64 (s17 + 1)) s18 (List.set s19 (Int.toNat y21) true) (s20 ++ [[y21, 0]]))
 False)
 False)
 (I2 s14 s15 s16 (IntKind.wrap .i64 (s17 + 1)) s18 s19 s20))
 False)
 (k2 s14 s18 s19 s20)) → I2 s14 s15 s16 s17 s18 s19 s20) →
 I1 s1 s2 s3 s4 s5 s6 s7 s8 s9 s10
structure l20r3 (k1 : Bool → Prop) (k2 : Prop) (s1 : Int) (s2 : tFN) (s3 : List Bool) (s4 : List (List Int)) : Prop where
of :
 ∀ (I1 : Int → tFN → (List Bool) → (List (List Int)) → Prop) (I2 : Int → Nat → Nat → Nat → tFN → (List Bool) → (List (List Int)) → Prop),
 (∀ (s1 : Int) (s2 : tFN) (s3 : List Bool) (s4 : List (List Int)), (br (decide (((↑(List.length s4)) : Int) > 0))
 (br (decide ((0 : Int) ≤ (IntKind.wrap .i64 ((↑(List.length s4)) - 1)) ∧ ((IntKind.wrap .i64 ((↑(List.length s4)) - 1)) : Int) < (↑(List.length s4))))
 (need False (s4)[(Int.toNat (IntKind.wrap .i64 ((↑(List.length s4)) - 1)))]? fun y5 =>
 br (decide ((0 : Int) ≤ 0 ∧ (0 : Int) ≤ (IntKind.wrap .i64 ((↑(List.length s4)) - 1)) ∧ ((IntKind.wrap .i64 ((↑(List.length s4)) - 1)) : Int) ≤ (↑(List.length s4)) ∧ ((↑(List.length s4)) : Int) ≤ (↑(List.length s4))))
 (need False (y5)[0]? fun y6 =>
 need False (at? s2.2.2.2.1 y6) fun y7 =>
 need False (y5)[1]? fun y8 =>
 l20r9
 (fun z9 => k1 z9)
 (fun z10 z11 z12 z13 z14 z15 z16 z17 z18 => br (z14)
 (I2 z10 z11 z12 z13 z15 z16 z17)
 (br ((z18.2.1.2.2.1 : Int) == z10)
 (k1 true)
 (br ((z18.2.1.2.2.2.1 : Int) == z10)
 (k1 true)
 (l20r18
 (fun z19 z20 z21 z22 z23 z24 z25 => I2 z19 z20 z21 z22 z23 z24 z25)
 (fun z26 z27 z28 z29 => I1 z26 z27 z28 z29)
 z10 z11 z12 z13 z18.2.1.2.2.2.2.2.1 (↑(List.length z18.2.1.2.2.2.2.2.1)) 0 z15 z16 z17))))
 s1 0 (Int.toNat ((IntKind.wrap .i64 ((↑(List.length s4)) - 1)) - 0)) (Int.toNat ((↑(List.length s4)) - 0)) false y8 s2 s3 s4 y7)
 False)
 False)
 (k2)) → I1 s1 s2 s3 s4) →
 (∀ (s30 : Int) (s31 s32 s33 : Nat) (s34 : tFN) (s35 : List Bool) (s36 : List (List Int)), (br (decide ((((s32 : Nat) : Int) : Int) > 0))
 (br (decide ((0 : Int) ≤ (IntKind.wrap .i64 (((s32 : Nat) : Int) - 1)) ∧ ((IntKind.wrap .i64 (((s32 : Nat) : Int) - 1)) : Int) < ((s32 : Nat) : Int)))
 (need False (s36)[(s31 + (Int.toNat (IntKind.wrap .i64 (((s32 : Nat) : Int) - 1))))]? fun y37 =>
 br (decide ((0 : Int) ≤ 0 ∧ (0 : Int) ≤ (IntKind.wrap .i64 (((s32 : Nat) : Int) - 1)) ∧ ((IntKind.wrap .i64 (((s32 : Nat) : Int) - 1)) : Int) ≤ ((s33 : Nat) : Int) ∧ (((s33 : Nat) : Int) : Int) ≤ ((s33 : Nat) : Int)))
 (need False (y37)[0]? fun y38 =>
 need False (at? s34.2.2.2.1 y38) fun y39 =>
 need False (y37)[1]? fun y40 =>
 l20r9
 (fun z41 => k1 z41)
 (fun z42 z43 z44 z45 z46 z47 z48 z49 z50 => br (z46)
 (I2 z42 z43 z44 z45 z47 z48 z49)
 (br ((z50.2.1.2.2.1 : Int) == z42)
 (k1 true)
 (br ((z50.2.1.2.2.2.1 : Int) == z42)
 (k1 true)
 (l20r18
 (fun z51 z52 z53 z54 z55 z56 z57 => I2 z51 z52 z53 z54 z55 z56 z57)
 (fun z58 z59 z60 z61 => I1 z58 z59 z60 z61)
 z42 z43 z44 z45 z50.2.1.2.2.2.2.2.1 (↑(List.length z50.2.1.2.2.2.2.2.1)) 0 z47 z48 z49))))
 s30 (s31 + 0) (Int.toNat ((IntKind.wrap .i64 (((s32 : Nat) : Int) - 1)) - 0)) (Int.toNat (((s33 : Nat) : Int) - 0)) false y40 s34 s35 s36 y39)
 False)
 False)
 (k2)) → I2 s30 s31 s32 s33 s34 s35 s36) →
 I1 s1 s2 s3 s4
structure c20 (x1 : tFN) (x2 x3 x4 : Int) (k1 : Bool → Prop) : Prop where
of :
 br (decide ((0 : Int) ≤ (↑(List.length x1.2.2.2.1)) ∧ ((↑(List.length x1.2.2.2.1)) : Int) ≤ (↑(List.length x1.2.2.2.1)) ∧ (((↑(List.length x1.2.2.2.1)) * 1) : Int) ≤ 140737488355328))
 (l20r3
 (fun z5 => k1 z5)
 (k1 false)
 x4 x1 (List.replicate (Int.toNat (↑(List.length x1.2.2.2.1))) (false : Bool)) [[x2, x3]])
 False
structure l7r36 (k1 : Int → Prop) (k2 : Prop) (s1 : Int) (s2 : tFN) : Prop where
of :
 ∀ (I1 : Int → tFN → Prop),
 (∀ (s1 : Int) (s2 : tFN), (br (decide (s1 < s2.2.2.1))
 (c20 s2 0 0 s1
 (fun z3 => br (z3)
 (c21 s2.2.1 s1
 (fun z4 => br (!z4)
 (k1 12)
 (I1 (IntKind.wrap .i64 (s1 + 1)) s2)))
 (I1 (IntKind.wrap .i64 (s1 + 1)) s2)))
 (k2)) → I1 s1 s2) →
 I1 s1 s2
structure c7 (x1 : tFN) (k1 : Int → Prop) : Prop where
of :
 br (decide (((↑(List.length x1.2.1)) : Int) > 6))
 (k1 2)
 (br (decide (((↑(List.length x1.2.2.2.1)) : Int) > 4096))
 (k1 2)
 (br (decide ((x1.2.2.1 : Int) < 1))
 (k1 2)
 (br (decide ((x1.2.2.1 : Int) > 8192))
 (k1 2)
 (br (((↑(List.length x1.2.2.2.1)) : Int) == 0)
 (k1 3)
 (l7r6
 (fun z2 => k1 z2)
 (fun z3 => l7r19
 (fun z4 => k1 z4)
 (fun z5 => l7r36
 (fun z6 => k1 z6)
 (k1 0)
 1 z5)
 0 z3.2.2.2.1 (↑(List.length z3.2.2.2.1)) 0 z3)
 x1.2.1 (↑(List.length x1.2.1)) 0 x1)))))
structure l22r9 (k1 : Int → Prop) (k2 : Prop) (s1 s2 : Int) (s3 : (List Int) × (List Int) × Int × Unit) : Prop where
of :
 ∀ (I1 : Int → Int → ((List Int) × (List Int) × Int × Unit) → Prop),
 (∀ (s1 s2 : Int) (s3 : (List Int) × (List Int) × Int × Unit), (br (decide (s2 < s1))
 (need False (at? s3.1 s2) fun y4 =>
 br (y4 != (-1))
 (need False (at? s3.1 s2) fun y5 =>
 br (decide (y5 < 1))
 (k1 4)
 (need False (at? s3.1 s2) fun y6 =>
 br (decide (y6 > 10))
 (k1 4)
 (need False (at? s3.2.1 s2) fun y7 =>
 br (decide (y7 < (-1)))
 (k1 4)
 (need False (at? s3.2.1 s2) fun y8 =>
 br (decide (y8 ≥ s3.2.2.1))
 (k1 4)
 (need False (at? s3.1 s2) fun y9 =>
 br (y9 != (-1))
 (need False (at? s3.2.1 s2) fun y10 =>
 br (y10 != (-1))
 (k1 7)
 (I1 s1 (IntKind.wrap .i64 (s2 + 1)) s3))
 (I1 s1 (IntKind.wrap .i64 (s2 + 1)) s3))))))
 (need False (at? s3.2.1 s2) fun y11 =>
 br (decide (y11 < (-1)))
 (k1 4)
 (need False (at? s3.2.1 s2) fun y12 =>
 br (decide (y12 ≥ s3.2.2.1))
 (k1 4)
 (need False (at? s3.1 s2) fun y13 =>
 br (y13 != (-1))
 (need False (at? s3.2.1 s2) fun y14 =>
 br (y14 != (-1))
 (k1 7)
 (I1 s1 (IntKind.wrap .i64 (s2 + 1)) s3))
 (I1 s1 (IntKind.wrap .i64 (s2 + 1)) s3)))))
 (k2)) → I1 s1 s2 s3) →
 I1 s1 s2 s3
structure c22 (x1 : tFN) (x2 : (List Int) × (List Int) × Int × Unit) (k1 : Int → Prop) : Prop where
of :
 c7 x1
 (fun z3 => br (z3 != 0)
 (k1 z3)
 (br (((↑(List.length x2.1)) : Int) != x1.2.2.1)
 (k1 3)
 (br (((↑(List.length x2.2.1)) : Int) != x1.2.2.1)
 (k1 3)
 (br (decide ((x2.2.2.1 : Int) < 0))
 (k1 2)
 (br (decide ((x2.2.2.1 : Int) > 8192))
 (k1 2)
 (l22r9
 (fun z4 => k1 z4)
 (k1 0)
 (↑(List.length x2.1)) 0 x2))))))
structure c9 (x1 : (List Int) × (List Int) × Int × Unit) (x2 : Int) (k1 : Int → Prop) : Prop where
of :
 br (x2 == 0)
 (k1 0)
 (need False (at? x1.1 x2) fun y3 =>
 br (decide (y3 > 0))
 (need False (at? x1.1 x2) fun y4 =>
 k1 y4)
 (need False (at? x1.2.1 x2) fun y5 =>
 br (decide (y5 ≥ 0))
 (need False (at? x1.2.1 x2) fun y6 =>
 k1 (IntKind.wrap .i64 (100 + y6)))
 (k1 0)))
structure l23r7 (k1 : Bool → Prop) (k2 : Int → (List tBK) → Int → Int → tBK → Prop) (s1 : Int) (s2 : List tBK) (s3 s4 : Int) (s5 : List tIN) (s6 s7 : Int) (s8 : tBK) : Prop where
of :
 ∀ (I1 : Int → (List tBK) → Int → Int → (List tIN) → Int → Int → tBK → Prop),
 (∀ (s1 : Int) (s2 : List tBK) (s3 s4 : Int) (s5 : List tIN) (s6 s7 : Int) (s8 : tBK), (br (decide (s7 < s6))
 (need False (at? s5 s7) fun y9 =>
 c25 y9
 (fun z10 => br (z10 == s1)
 (k1 true)
 (c44 y9
 (fun z11 => c21 z11 s1
 (fun z12 => br (z12)
 (k1 true)
 (I1 s1 s2 s3 s4 s5 s6 (IntKind.wrap .i64 (s7 + 1)) s8))))))
 (k2 s1 s2 s3 s4 s8)) → I1 s1 s2 s3 s4 s5 s6 s7 s8) →
 I1 s1 s2 s3 s4 s5 s6 s7 s8
structure l23r4 (k1 : Bool → Prop) (k2 : Prop) (s1 : Int) (s2 : List tBK) (s3 s4 : Int) : Prop where
of :
 ∀ (I1 : Int → (List tBK) → Int → Int → Prop),
 (∀ (s1 : Int) (s2 : List tBK) (s3 s4 : Int), (br (decide (s4 < s3))
 (need False (at? s2 s4) fun y5 =>
 l23r7
 (fun z6 => k1 z6)
 (fun z7 z8 z9 z10 z11 => br ((z11.2.1.2.2.1 : Int) == z7)
 (k1 true)
 (br ((z11.2.1.2.2.2.1 : Int) == z7)
 (k1 true)
 (I1 z7 z8 z9 (IntKind.wrap .i64 (z10 + 1)))))
 s1 s2 s3 s4 y5.1 (↑(List.length y5.1)) 0 y5)
 (k2)) → I1 s1 s2 s3 s4) →
 I1 s1 s2 s3 s4
structure c23 (x1 : tFN) (x2 : Int) (k1 : Bool → Prop) : Prop where
of :
 c21 x1.2.1 x2
 (fun z3 => br (z3)
 (k1 true)
 (l23r4
 (fun z4 => k1 z4)
 (k1 false)
 x2 x1.2.2.2.1 (↑(List.length x1.2.2.2.1)) 0))
structure j8s6 (k1 : Bool → Prop) (k2 : Int → Int → Int → tFN → ((List Int) × (List Int) × Int × Unit) → Prop) (s1 s2 s3 : Int) (s4 : Bool) (s5 : tFN) (s6 : (List Int) × (List Int) × Int × Unit) : Prop where
of :
 br (s4)
 (k1 false)
 (k2 s1 s2 s3 s5 s6)
structure l24r5 (k1 : Bool → Prop) (k2 : Int → (List tBK) → Int → Int → tFN → Prop) (s1 s2 : Int) (s3 : List tBK) (s4 s5 : Int) (s6 : List tIN) (s7 s8 : Int) (s9 : tFN) : Prop where
of :
 ∀ (I1 : Int → Int → (List tBK) → Int → Int → (List tIN) → Int → Int → tFN → Prop),
 (∀ (s1 s2 : Int) (s3 : List tBK) (s4 s5 : Int) (s6 : List tIN) (s7 s8 : Int) (s9 : tFN), (br (decide (s8 < s7))
 (need False (at? s6 s8) fun y10 =>
 br ((y10.1 : Int) == 101)
 (c25 y10
 (fun z11 => br (z11 != s1)
 (c20 s9 s2 (IntKind.wrap .i64 (s8 + 1)) s1
 (fun z12 => br (z12)
 (k1 true)
 (I1 s1 s2 s3 s4 s5 s6 s7 (IntKind.wrap .i64 (s8 + 1)) s9)))
 (I1 s1 s2 s3 s4 s5 s6 s7 (IntKind.wrap .i64 (s8 + 1)) s9)))
 (br ((y10.1 : Int) == 102)
 (c25 y10
 (fun z13 => br (z13 != s1)
 (c20 s9 s2 (IntKind.wrap .i64 (s8 + 1)) s1
 (fun z14 => br (z14)
 (k1 true)
 (I1 s1 s2 s3 s4 s5 s6 s7 (IntKind.wrap .i64 (s8 + 1)) s9)))
 (I1 s1 s2 s3 s4 s5 s6 s7 (IntKind.wrap .i64 (s8 + 1)) s9)))
 (I1 s1 s2 s3 s4 s5 s6 s7 (IntKind.wrap .i64 (s8 + 1)) s9)))
 (k2 s1 s3 s4 s5 s9)) → I1 s1 s2 s3 s4 s5 s6 s7 s8 s9) →
 I1 s1 s2 s3 s4 s5 s6 s7 s8 s9
structure l24r2 (k1 : Bool → Prop) (k2 : Prop) (s1 : Int) (s2 : List tBK) (s3 s4 : Int) (s5 : tFN) : Prop where
of :
 ∀ (I1 : Int → (List tBK) → Int → Int → tFN → Prop),
 (∀ (s1 : Int) (s2 : List tBK) (s3 s4 : Int) (s5 : tFN), (br (decide (s4 < s3))
 (need False (at? s2 s4) fun y6 =>
 l24r5
 (fun z7 => k1 z7)
 (fun z8 z9 z10 z11 z12 => I1 z8 z9 z10 (IntKind.wrap .i64 (z11 + 1)) z12)
 s1 s4 s2 s3 s4 y6.1 (↑(List.length y6.1)) 0 s5)
 (k2)) → I1 s1 s2 s3 s4 s5) →
 I1 s1 s2 s3 s4 s5
structure c24 (x1 : tFN) (x2 : Int) (k1 : Bool → Prop) : Prop where
of :
 l24r2
 (fun z3 => k1 z3)
 (k1 false)
 x2 x1.2.2.2.1 (↑(List.length x1.2.2.2.1)) 0 x1
structure l8r4 (k1 : Bool → Prop) (k2 : Prop) (s1 s2 s3 : Int) (s4 : tFN) (s5 : (List Int) × (List Int) × Int × Unit) : Prop where
of :
 ∀ (I1 : Int → Int → Int → tFN → ((List Int) × (List Int) × Int × Unit) → Prop),
 (∀ (s1 s2 s3 : Int) (s4 : tFN) (s5 : (List Int) × (List Int) × Int × Unit), (br (decide (s3 < s2))
 (c9 s5 s3
 (fun z6 => br (decide (s3 > 0))
 (c23 s4 s3
 (fun z7 => br (!((((z6 : Int) != 0) : Bool) == z7))
 (j8s6
 (fun z8 => k1 z8)
 (fun z9 z10 z11 z12 z13 => I1 z9 z10 (IntKind.wrap .i64 (z11 + 1)) z12 z13)
 s1 s2 s3 true s4 s5)
 (need False (at? s5.1 s3) fun y14 =>
 br (decide (y14 > s1))
 (j8s6
 (fun z15 => k1 z15)
 (fun z16 z17 z18 z19 z20 => I1 z16 z17 (IntKind.wrap .i64 (z18 + 1)) z19 z20)
 s1 s2 s3 true s4 s5)
 (br (decide (s3 > 0))
 (c24 s4 s3
 (fun z21 => br (z21)
 (need False (at? s5.2.1 s3) fun y22 =>
 j8s6
 (fun z23 => k1 z23)
 (fun z24 z25 z26 z27 z28 => I1 z24 z25 (IntKind.wrap .i64 (z26 + 1)) z27 z28)
 s1 s2 s3 (decide ((y22 : Int) < 0)) s4 s5)
 (j8s6
 (fun z29 => k1 z29)
 (fun z30 z31 z32 z33 z34 => I1 z30 z31 (IntKind.wrap .i64 (z32 + 1)) z33 z34)
 s1 s2 s3 false s4 s5)))
 (j8s6
 (fun z35 => k1 z35)
 (fun z36 z37 z38 z39 z40 => I1 z36 z37 (IntKind.wrap .i64 (z38 + 1)) z39 z40)
 s1 s2 s3 false s4 s5)))))
 (br (!((((z6 : Int) != 0) : Bool) == false))
 (j8s6
 (fun z41 => k1 z41)
 (fun z42 z43 z44 z45 z46 => I1 z42 z43 (IntKind.wrap .i64 (z44 + 1)) z45 z46)
 s1 s2 s3 true s4 s5)
 (need False (at? s5.1 s3) fun y47 =>
 br (decide (y47 > s1))
 (j8s6
 (fun z48 => k1 z48)
 (fun z49 z50 z51 z52 z53 => I1 z49 z50 (IntKind.wrap .i64 (z51 + 1)) z52 z53)
 s1 s2 s3 true s4 s5)
 (br (decide (s3 > 0))
 (c24 s4 s3
 (fun z54 => br (z54)
 (need False (at? s5.2.1 s3) fun y55 =>
 j8s6
 (fun z56 => k1 z56)
 (fun z57 z58 z59 z60 z61 => I1 z57 z58 (IntKind.wrap .i64 (z59 + 1)) z60 z61)
 s1 s2 s3 (decide ((y55 : Int) < 0)) s4 s5)
 (j8s6
 (fun z62 => k1 z62)
 (fun z63 z64 z65 z66 z67 => I1 z63 z64 (IntKind.wrap .i64 (z65 + 1)) z66 z67)
 s1 s2 s3 false s4 s5)))
 (j8s6
 (fun z68 => k1 z68)
 (fun z69 z70 z71 z72 z73 => I1 z69 z70 (IntKind.wrap .i64 (z71 + 1)) z72 z73)
 s1 s2 s3 false s4 s5))))))
 (k2)) → I1 s1 s2 s3 s4 s5) →
 I1 s1 s2 s3 s4 s5
structure c8 (x1 : tFN) (x2 : (List Int) × (List Int) × Int × Unit) (x3 : Int) (k1 : Bool → Prop) : Prop where
of :
 c22 x1 x2
 (fun z4 => br (z4 != 0)
 (k1 false)
 (l8r4
 (fun z5 => k1 z5)
 (k1 true)
 x3 x1.2.2.1 0 x1 x2))
structure l10r8 (k1 : Bool → Prop) (k2 : Int → Int → (List tBK) → Int → Int → tFN → Prop) (s1 s2 s3 : Int) (s4 : List tBK) (s5 s6 : Int) (s7 : List tIN) (s8 s9 : Int) (s10 : tFN) : Prop where
of :
 ∀ (I1 : Int → Int → Int → (List tBK) → Int → Int → (List tIN) → Int → Int → tFN → Prop),
 (∀ (s1 s2 s3 : Int) (s4 : List tBK) (s5 s6 : Int) (s7 : List tIN) (s8 s9 : Int) (s10 : tFN), (br (decide (s9 < s8))
 (need False (at? s7 s9) fun y11 =>
 c25 y11
 (fun z12 => br (z12 != s1)
 (br (z12 != s2)
 (I1 s1 s2 s3 s4 s5 s6 s7 s8 (IntKind.wrap .i64 (s9 + 1)) s10)
 (br ((y11.1 : Int) == 100)
 (br ((y11.2.2.1 : Int) == (IntKind.wrap .i64 ((IntKind.wrap .i64 (s1 + s2)) - z12)))
 (I1 s1 s2 s3 s4 s5 s6 s7 s8 (IntKind.wrap .i64 (s9 + 1)) s10)
 (c20 s10 s3 (IntKind.wrap .i64 (s9 + 1)) (IntKind.wrap .i64 ((IntKind.wrap .i64 (s1 + s2)) - z12))
 (fun z13 => br (z13)
 (k1 true)
 (I1 s1 s2 s3 s4 s5 s6 s7 s8 (IntKind.wrap .i64 (s9 + 1)) s10))))
 (c20 s10 s3 (IntKind.wrap .i64 (s9 + 1)) (IntKind.wrap .i64 ((IntKind.wrap .i64 (s1 + s2)) - z12))
 (fun z14 => br (z14)
 (k1 true)
 (I1 s1 s2 s3 s4 s5 s6 s7 s8 (IntKind.wrap .i64 (s9 + 1)) s10)))))
 (br ((y11.1 : Int) == 100)
 (br ((y11.2.2.1 : Int) == (IntKind.wrap .i64 ((IntKind.wrap .i64 (s1 + s2)) - z12)))
 (I1 s1 s2 s3 s4 s5 s6 s7 s8 (IntKind.wrap .i64 (s9 + 1)) s10)
 (c20 s10 s3 (IntKind.wrap .i64 (s9 + 1)) (IntKind.wrap .i64 ((IntKind.wrap .i64 (s1 + s2)) - z12))
 (fun z15 => br (z15)
 (k1 true)
 (I1 s1 s2 s3 s4 s5 s6 s7 s8 (IntKind.wrap .i64 (s9 + 1)) s10))))
 (c20 s10 s3 (IntKind.wrap .i64 (s9 + 1)) (IntKind.wrap .i64 ((IntKind.wrap .i64 (s1 + s2)) - z12))
 (fun z16 => br (z16)
 (k1 true)
 (I1 s1 s2 s3 s4 s5 s6 s7 s8 (IntKind.wrap .i64 (s9 + 1)) s10))))))
 (k2 s1 s2 s4 s5 s6 s10)) → I1 s1 s2 s3 s4 s5 s6 s7 s8 s9 s10) →
 I1 s1 s2 s3 s4 s5 s6 s7 s8 s9 s10
structure l10r5 (k1 : Bool → Prop) (k2 : Prop) (s1 s2 : Int) (s3 : List tBK) (s4 s5 : Int) (s6 : tFN) : Prop where
of :
 ∀ (I1 : Int → Int → (List tBK) → Int → Int → tFN → Prop),
 (∀ (s1 s2 : Int) (s3 : List tBK) (s4 s5 : Int) (s6 : tFN), (br (decide (s5 < s4))
 (need False (at? s3 s5) fun y7 =>
 l10r8
 (fun z8 => k1 z8)
 (fun z9 z10 z11 z12 z13 z14 => I1 z9 z10 z11 z12 (IntKind.wrap .i64 (z13 + 1)) z14)
 s1 s2 s5 s3 s4 s5 y7.1 (↑(List.length y7.1)) 0 s6)
 (k2)) → I1 s1 s2 s3 s4 s5 s6) →
 I1 s1 s2 s3 s4 s5 s6
structure j10r4 (k1 : Bool → Prop) (s1 s2 : Int) (s3 : tFN) : Prop where
of :
 l10r5
 (fun z4 => k1 z4)
 (k1 false)
 s1 s2 s3.2.2.2.1 (↑(List.length s3.2.2.2.1)) 0 s3
structure c10 (x1 : tFN) (x2 x3 : Int) (k1 : Bool → Prop) : Prop where
of :
 c21 x1.2.1 x2
 (fun z4 => br (true && true)
 (br (eqT (.sl (.int .i64)) x1.2.1 x1.2.1)
 (br (eqT (.int .i64) x3 x3)
 (c21 x1.2.1 x3
 (fun z5 => br (z4)
 (br (z5)
 (k1 true)
 (br (z4)
 (c20 x1 0 0 x3
 (fun z6 => br (z6)
 (k1 true)
 (br (z5)
 (c20 x1 0 0 x2
 (fun z7 => br (z7)
 (k1 true)
 (j10r4
 (fun z8 => k1 z8)
 x2 x3 x1)))
 (j10r4
 (fun z9 => k1 z9)
 x2 x3 x1))))
 (br (z5)
 (c20 x1 0 0 x2
 (fun z10 => br (z10)
 (k1 true)
 (j10r4
 (fun z11 => k1 z11)
 x2 x3 x1)))
 (j10r4
 (fun z12 => k1 z12)
 x2 x3 x1))))
 (br (z4)
 (c20 x1 0 0 x3
 (fun z13 => br (z13)
 (k1 true)
 (br (z5)
 (c20 x1 0 0 x2
 (fun z14 => br (z14)
 (k1 true)
 (j10r4
 (fun z15 => k1 z15)
 x2 x3 x1)))
 (j10r4
 (fun z16 => k1 z16)
 x2 x3 x1))))
 (br (z5)
 (c20 x1 0 0 x2
 (fun z17 => br (z17)
 (k1 true)
 (j10r4
 (fun z18 => k1 z18)
 x2 x3 x1)))
 (j10r4
 (fun z19 => k1 z19)
 x2 x3 x1)))))
 False)
 False)
 False)
structure l3r17 (k1 : Bool → Prop) (k2 : Int → tFN → Int → (List Int) → (List Int) → Prop) (s1 s2 : Int) (s3 : tFN) (s4 : Int) (s5 s6 : List Int) : Prop where
of :
 ∀ (I1 : Int → Int → tFN → Int → (List Int) → (List Int) → Prop),
 (∀ (s1 s2 : Int) (s3 : tFN) (s4 : Int) (s5 s6 : List Int), (br (decide (s2 < s3.2.2.1))
 (c9 (s5, s6, s4, ()) s1
 (fun z7 => br (z7 != 0)
 (c9 (s5, s6, s4, ()) s1
 (fun z8 => br (true && (true && ((eqT (.int .i64) s4 s4) && true)))
 (br (eqT (.int .i64) s2 s2)
 (c9 (s5, s6, s4, ()) s2
 (fun z9 => br (z8 == z9)
 (c10 s3 s1 s2
 (fun z10 => br (z10)
 (k1 false)
 (I1 s1 (IntKind.wrap .i64 (s2 + 1)) s3 s4 s5 s6)))
 (I1 s1 (IntKind.wrap .i64 (s2 + 1)) s3 s4 s5 s6)))
 False)
 False))
 (I1 s1 (IntKind.wrap .i64 (s2 + 1)) s3 s4 s5 s6)))
 (k2 s1 s3 s4 s5 s6)) → I1 s1 s2 s3 s4 s5 s6) →
 I1 s1 s2 s3 s4 s5 s6
structure l3r14 (k1 : Bool → Prop) (k2 : Prop) (s1 : Int) (s2 : tFN) (s3 : Int) (s4 s5 : List Int) : Prop where
of :
 ∀ (I1 : Int → tFN → Int → (List Int) → (List Int) → Prop),
 (∀ (s1 : Int) (s2 : tFN) (s3 : Int) (s4 s5 : List Int), (br (decide (s1 < s2.2.2.1))
 (l3r17
 (fun z6 => k1 z6)
 (fun z7 z8 z9 z10 z11 => I1 (IntKind.wrap .i64 (z7 + 1)) z8 z9 z10 z11)
 s1 (IntKind.wrap .i64 (s1 + 1)) s2 s3 s4 s5)
 (k2)) → I1 s1 s2 s3 s4 s5) →
 I1 s1 s2 s3 s4 s5
structure j3r9 (k1 : Bool → Prop) (s1 s2 s3 : Int) (s4 : tFN) (s5 : Int) (s6 s7 : List Int) : Prop where
of :
 br (s3 != 0)
 (br (s2 == s3)
 (k1 (((IntKind.wrap .i64 ((IntKind.wrap .i64 ((↑(List.length s6)) + (↑(List.length s7)))) + s5)) : Int) == 0))
 (k1 false))
 (br (s2 != 0)
 (k1 false)
 (c8 s4 (s6, s7, s5, ()) s1
 (fun z8 => br (!z8)
 (k1 false)
 (l3r14
 (fun z9 => k1 z9)
 (k1 true)
 1 s4 s5 s6 s7))))
structure c3 (x1 : tFN) (x2 : Int) (k1 : Bool → Prop) : Prop where
of :
 c4 
 (fun z3 => br (!z3)
 (k1 false)
 (c5 x1
 (fun z4 => br (!z4)
 (k1 true)
 (c6 x1 x2
 (fun z5 z6 z7 z8 => c7 x1
 (fun z9 => br (z9 == 0)
 (br (decide (x2 < 1))
 (j3r9
 (fun z10 => k1 z10)
 x2 z6 4 x1 z5 z7 z8)
 (br (decide (x2 > 10))
 (j3r9
 (fun z11 => k1 z11)
 x2 z6 4 x1 z5 z7 z8)
 (j3r9
 (fun z12 => k1 z12)
 x2 z6 z9 x1 z5 z7 z8)))
 (j3r9
 (fun z13 => k1 z13)
 x2 z6 z9 x1 z5 z7 z8)))))))
end Go.Proofs.Ytmnidkbkmakdbaa
