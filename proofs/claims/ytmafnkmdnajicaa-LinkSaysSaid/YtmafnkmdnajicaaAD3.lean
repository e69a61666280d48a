/- What the functions compute, as plain Lean (printed by a program). -/
import Derived.Test.YtmafnkmdnajicaaATypT
namespace Go.Proofs.Ytmafnkmdnajicaa
open Go.Abs
abbrev tOP := Int × Int × Int × Int × Int × Unit
abbrev tIT := tOP × Int × Unit
abbrev tLF := Int × (List tIT) × (List (Int × Int × Unit)) × (List (Int × Bool × (List Int) × Int × Unit)) × Int × Unit
abbrev tMK := Int × Int × Int × (List ((List UInt8) × Int × Int × Unit)) × Unit
abbrev tMP := Int × Int × (List Int) × Int × Unit
set_option linter.unusedVariables false
def tc40 (x1 : Int) (x2 : Int) (x3 : Int) (k1 : Bool → Prop) : Prop :=
 br (decide ((x1 : Int) ≥ x2))
 (k1 (decide ((x1 : Int) ≤ x3)))
 (k1 false)
structure c40 (x1 : Int) (x2 : Int) (x3 : Int) (k1 : Bool → Prop) : Prop where
 of : tc40 x1 x2 x3 k1

def tc41 (x1 : Int) (k1 : (Bool × Bool × Bool × Bool × Unit) → Prop) : Prop :=
 br ((x1 : Int) == 0)
 (k1 (false, false, false, false, ()))
 (br ((x1 : Int) == 22)
 (k1 (false, false, false, false, ()))
 (br ((x1 : Int) == 1)
 (k1 (true, true, true, false, ()))
 (br ((x1 : Int) == 2)
 (k1 (true, true, true, false, ()))
 (br ((x1 : Int) == 3)
 (k1 (true, true, true, false, ()))
 (br ((x1 : Int) == 4)
 (k1 (true, true, true, false, ()))
 (br ((x1 : Int) == 5)
 (k1 (true, true, true, false, ()))
 (br ((x1 : Int) == 6)
 (k1 (true, true, true, false, ()))
 (br ((x1 : Int) == 7)
 (k1 (true, true, true, false, ()))
 (br ((x1 : Int) == 15)
 (k1 (true, true, true, false, ()))
 (br ((x1 : Int) == 8)
 (k1 (true, true, false, true, ()))
 (br ((x1 : Int) == 9)
 (k1 (true, true, false, true, ()))
 (br ((x1 : Int) == 10)
 (k1 (true, true, false, true, ()))
 (br ((x1 : Int) == 12)
 (k1 (true, true, false, true, ()))
 (br ((x1 : Int) == 11)
 (k1 (true, false, false, true, ()))
 (br ((x1 : Int) == 13)
 (k1 (false, true, true, true, ()))
 (br ((x1 : Int) == 16)
 (k1 (false, true, true, true, ()))
 (br ((x1 : Int) == 17)
 (k1 (false, true, true, true, ()))
 (br ((x1 : Int) == 18)
 (k1 (false, true, true, true, ()))
 (br ((x1 : Int) == 14)
 (k1 (true, false, true, true, ()))
 (br ((x1 : Int) == 19)
 (k1 (false, false, false, true, ()))
 (br ((x1 : Int) == 20)
 (k1 (false, false, false, true, ()))
 (br ((x1 : Int) == 24)
 (k1 (false, false, false, true, ()))
 (k1 (false, true, false, false, ()))))))))))))))))))))))))
structure c41 (x1 : Int) (k1 : (Bool × Bool × Bool × Bool × Unit) → Prop) : Prop where
 of : tc41 x1 k1

def tc26 (x1 : tOP) (k1 : Int → Prop) : Prop :=
 c40 x1.1 0 24
 (fun z2 => br (!z2)
 (k1 1)
 (c40 x1.2.1 0 15
 (fun z3 => br (!z3)
 (k1 4)
 (c40 x1.2.2.1 0 15
 (fun z4 => br (!z4)
 (k1 4)
 (c40 x1.2.2.2.1 0 15
 (fun z5 => br (!z5)
 (k1 4)
 (c40 x1.2.2.2.2.1 (-2147483648) 2147483647
 (fun z6 => br (!z6)
 (k1 4)
 (c41 x1.1
 (fun z7 => br (!z7.1)
 (br ((x1.2.1 : Int) != 0)
 (k1 3)
 (br (!z7.2.1)
 (br ((x1.2.2.1 : Int) != 0)
 (k1 3)
 (br (!z7.2.2.1)
 (br ((x1.2.2.2.1 : Int) != 0)
 (k1 3)
 (br (!z7.2.2.2.1)
 (br ((x1.2.2.2.2.1 : Int) != 0)
 (k1 3)
 (br ((x1.1 : Int) == 9)
 (c40 x1.2.2.2.2.1 0 31
 (fun z8 => br (!z8)
 (k1 4)
 (br ((x1.1 : Int) == 14)
 (c40 x1.2.2.2.2.1 0 4095
 (fun z9 => br (!z9)
 (k1 4)
 (br ((x1.1 : Int) == 24)
 (c40 x1.2.2.2.2.1 1 6
 (fun z10 => br (!z10)
 (k1 4)
 (k1 0)))
 (k1 0))))
 (br ((x1.1 : Int) == 24)
 (c40 x1.2.2.2.2.1 1 6
 (fun z11 => br (!z11)
 (k1 4)
 (k1 0)))
 (k1 0)))))
 (br ((x1.1 : Int) == 10)
 (c40 x1.2.2.2.2.1 0 31
 (fun z12 => br (!z12)
 (k1 4)
 (br ((x1.1 : Int) == 14)
 (c40 x1.2.2.2.2.1 0 4095
 (fun z13 => br (!z13)
 (k1 4)
 (br ((x1.1 : Int) == 24)
 (c40 x1.2.2.2.2.1 1 6
 (fun z14 => br (!z14)
 (k1 4)
 (k1 0)))
 (k1 0))))
 (br ((x1.1 : Int) == 24)
 (c40 x1.2.2.2.2.1 1 6
 (fun z15 => br (!z15)
 (k1 4)
 (k1 0)))
 (k1 0)))))
 (br ((x1.1 : Int) == 14)
 (c40 x1.2.2.2.2.1 0 4095
 (fun z16 => br (!z16)
 (k1 4)
 (br ((x1.1 : Int) == 24)
 (c40 x1.2.2.2.2.1 1 6
 (fun z17 => br (!z17)
 (k1 4)
 (k1 0)))
 (k1 0))))
 (br ((x1.1 : Int) == 24)
 (c40 x1.2.2.2.2.1 1 6
 (fun z18 => br (!z18)
 (k1 4)
 (k1 0)))
 (k1 0))))))
 (br ((x1.1 : Int) == 9)
 (c40 x1.2.2.2.2.1 0 31
 (fun z19 => br (!z19)
 (k1 4)
 (br ((x1.1 : Int) == 14)
 (c40 x1.2.2.2.2.1 0 4095
 (fun z20 => br (!z20)
 (k1 4)
 (br ((x1.1 : Int) == 24)
 (c40 x1.2.2.2.2.1 1 6
 (fun z21 => br (!z21)
 (k1 4)
 (k1 0)))
 (k1 0))))
 (br ((x1.1 : Int) == 24)
 (c40 x1.2.2.2.2.1 1 6
 (fun z22 => br (!z22)
 (k1 4)
 (k1 0)))
 (k1 0)))))
 (br ((x1.1 : Int) == 10)
 (c40 x1.2.2.2.2.1 0 31
 (fun z23 => br (!z23)
 (k1 4)
 (br ((x1.1 : Int) == 14)
 (c40 x1.2.2.2.2.1 0 4095
 (fun z24 => br (!z24)
 (k1 4)
 (br ((x1.1 : Int) == 24)
 (c40 x1.2.2.2.2.1 1 6
 (fun z25 => br (!z25)
 (k1 4)
 (k1 0)))
 (k1 0))))
 (br ((x1.1 : Int) == 24)
 (c40 x1.2.2.2.2.1 1 6
 (fun z26 => br (!z26)
 (k1 4)
 (k1 0)))
 (k1 0)))))
 (br ((x1.1 : Int) == 14)
 (c40 x1.2.2.2.2.1 0 4095
 (fun z27 => br (!z27)
 (k1 4)
 (br ((x1.1 : Int) == 24)
 (c40 x1.2.2.2.2.1 1 6
 (fun z28 => br (!z28)
 (k1 4)
 (k1 0)))
 (k1 0))))
 (br ((x1.1 : Int) == 24)
 (c40 x1.2.2.2.2.1 1 6
 (fun z29 => br (!z29)
 (k1 4)
 (k1 0)))
 (k1 0)))))))
 (br (!z7.2.2.2.1)
 (br ((x1.2.2.2.2.1 : Int) != 0)
 (k1 3)
 (br ((x1.1 : Int) == 9)
 (c40 x1.2.2.2.2.1 0 31
 (fun z30 => br (!z30)
 (k1 4)
 (br ((x1.1 : Int) == 14)
 (c40 x1.2.2.2.2.1 0 4095
 (fun z31 => br (!z31)
 (k1 4)
 (br ((x1.1 : Int) == 24)
 (c40 x1.2.2.2.2.1 1 6
 (fun z32 => br (!z32)
 (k1 4)
 (k1 0)))
 (k1 0))))
 (br ((x1.1 : Int) == 24)
 (c40 x1.2.2.2.2.1 1 6
 (fun z33 => br (!z33)
 (k1 4)
 (k1 0)))
 (k1 0)))))
 (br ((x1.1 : Int) == 10)
 (c40 x1.2.2.2.2.1 0 31
 (fun z34 => br (!z34)
 (k1 4)
 (br ((x1.1 : Int) == 14)
 (c40 x1.2.2.2.2.1 0 4095
 (fun z35 => br (!z35)
 (k1 4)
 (br ((x1.1 : Int) == 24)
 (c40 x1.2.2.2.2.1 1 6
 (fun z36 => br (!z36)
 (k1 4)
 (k1 0)))
 (k1 0))))
 (br ((x1.1 : Int) == 24)
 (c40 x1.2.2.2.2.1 1 6
 (fun z37 => br (!z37)
 (k1 4)
 (k1 0)))
 (k1 0)))))
 (br ((x1.1 : Int) == 14)
 (c40 x1.2.2.2.2.1 0 4095
 (fun z38 => br (!z38)
 (k1 4)
 (br ((x1.1 : Int) == 24)
 (c40 x1.2.2.2.2.1 1 6
 (fun z39 => br (!z39)
 (k1 4)
 (k1 0)))
 (k1 0))))
 (br ((x1.1 : Int) == 24)
 (c40 x1.2.2.2.2.1 1 6
 (fun z40 => br (!z40)
 (k1 4)
 (k1 0)))
 (k1 0))))))
 (br ((x1.1 : Int) == 9)
 (c40 x1.2.2.2.2.1 0 31
 (fun z41 => br (!z41)
 (k1 4)
 (br ((x1.1 : Int) == 14)
 (c40 x1.2.2.2.2.1 0 4095
 (fun z42 => br (!z42)
 (k1 4)
 (br ((x1.1 : Int) == 24)
 (c40 x1.2.2.2.2.1 1 6
 (fun z43 => br (!z43)
 (k1 4)
 (k1 0)))
 (k1 0))))
 (br ((x1.1 : Int) == 24)
 (c40 x1.2.2.2.2.1 1 6
 (fun z44 => br (!z44)
 (k1 4)
 (k1 0)))
 (k1 0)))))
 (br ((x1.1 : Int) == 10)
 (c40 x1.2.2.2.2.1 0 31
 (fun z45 => br (!z45)
 (k1 4)
 (br ((x1.1 : Int) == 14)
 (c40 x1.2.2.2.2.1 0 4095
 (fun z46 => br (!z46)
 (k1 4)
 (br ((x1.1 : Int) == 24)
 (c40 x1.2.2.2.2.1 1 6
 (fun z47 => br (!z47)
 (k1 4)
 (k1 0)))
 (k1 0))))
 (br ((x1.1 : Int) == 24)
 (c40 x1.2.2.2.2.1 1 6
 (fun z48 => br (!z48)
 (k1 4)
 (k1 0)))
 (k1 0)))))
 (br ((x1.1 : Int) == 14)
 (c40 x1.2.2.2.2.1 0 4095
 (fun z49 => br (!z49)
 (k1 4)
 (br ((x1.1 : Int) == 24)
 (c40 x1.2.2.2.2.1 1 6
 (fun z50 => br (!z50)
 (k1 4)
 (k1 0)))
 (k1 0))))
 (br ((x1.1 : Int) == 24)
 (c40 x1.2.2.2.2.1 1 6
 (fun z51 => br (!z51)
 (k1 4)
 (k1 0)))
 (k1 0))))))))
 (br (!z7.2.2.1)
 (br ((x1.2.2.2.1 : Int) != 0)
 (k1 3)
 (br (!z7.2.2.2.1)
 (br ((x1.2.2.2.2.1 : Int) != 0)
 (k1 3)
 (br ((x1.1 : Int) == 9)
 (c40 x1.2.2.2.2.1 0 31
 (fun z52 => br (!z52)
 (k1 4)
 (br ((x1.1 : Int) == 14)
 (c40 x1.2.2.2.2.1 0 4095
 (fun z53 => br (!z53)
 (k1 4)
 (br ((x1.1 : Int) == 24)
 (c40 x1.2.2.2.2.1 1 6
 (fun z54 => br (!z54)
 (k1 4)
 (k1 0)))
 (k1 0))))
 (br ((x1.1 : Int) == 24)
 (c40 x1.2.2.2.2.1 1 6
 (fun z55 => br (!z55)
 (k1 4)
 (k1 0)))
 (k1 0)))))
 (br ((x1.1 : Int) == 10)
 (c40 x1.2.2.2.2.1 0 31
 (fun z56 => br (!z56)
 (k1 4)
 (br ((x1.1 : Int) == 14)
 (c40 x1.2.2.2.2.1 0 4095
 (fun z57 => br (!z57)
 (k1 4)
 (br ((x1.1 : Int) == 24)
 (c40 x1.2.2.2.2.1 1 6
 (fun z58 => br (!z58)
 (k1 4)
 (k1 0)))
 (k1 0))))
 (br ((x1.1 : Int) == 24)
 (c40 x1.2.2.2.2.1 1 6
 (fun z59 => br (!z59)
 (k1 4)
 (k1 0)))
 (k1 0)))))
 (br ((x1.1 : Int) == 14)
 (c40 x1.2.2.2.2.1 0 4095
 (fun z60 => br (!z60)
 (k1 4)
 (br ((x1.1 : Int) == 24)
 (c40 x1.2.2.2.2.1 1 6
 (fun z61 => br (!z61)
 (k1 4)
 (k1 0)))
 (k1 0))))
 (br ((x1.1 : Int) == 24)
 (c40 x1.2.2.2.2.1 1 6
 (fun z62 => br (!z62)
 (k1 4)
 (k1 0)))
 (k1 0))))))
 (br ((x1.1 : Int) == 9)
 (c40 x1.2.2.2.2.1 0 31
 (fun z63 => br (!z63)
 (k1 4)
 (br ((x1.1 : Int) == 14)
 (c40 x1.2.2.2.2.1 0 4095
 (fun z64 => br (!z64)
 (k1 4)
 (br ((x1.1 : Int) == 24)
 (c40 x1.2.2.2.2.1 1 6
 (fun z65 => br (!z65)
 (k1 4)
 (k1 0)))
 (k1 0))))
 (br ((x1.1 : Int) == 24)
 (c40 x1.2.2.2.2.1 1 6
 (fun z66 => br (!z66)
 (k1 4)
 (k1 0)))
 (k1 0)))))
 (br ((x1.1 : Int) == 10)
 (c40 x1.2.2.2.2.1 0 31
 (fun z67 => br (!z67)
 (k1 4)
 (br ((x1.1 : Int) == 14)
 (c40 x1.2.2.2.2.1 0 4095
 (fun z68 => br (!z68)
 (k1 4)
 (br ((x1.1 : Int) == 24)
 (c40 x1.2.2.2.2.1 1 6
 (fun z69 => br (!z69)
 (k1 4)
 (k1 0)))
 (k1 0))))
 (br ((x1.1 : Int) == 24)
 (c40 x1.2.2.2.2.1 1 6
 (fun z70 => br (!z70)
 (k1 4)
 (k1 0)))
 (k1 0)))))
 (br ((x1.1 : Int) == 14)
 (c40 x1.2.2.2.2.1 0 4095
 (fun z71 => br (!z71)
 (k1 4)
 (br ((x1.1 : Int) == 24)
 (c40 x1.2.2.2.2.1 1 6
 (fun z72 => br (!z72)
 (k1 4)
 (k1 0)))
 (k1 0))))
 (br ((x1.1 : Int) == 24)
 (c40 x1.2.2.2.2.1 1 6
 (fun z73 => br (!z73)
 (k1 4)
 (k1 0)))
 (k1 0)))))))
 (br (!z7.2.2.2.1)
 (br ((x1.2.2.2.2.1 : Int) != 0)
 (k1 3)
 (br ((x1.1 : Int) == 9)
 (c40 x1.2.2.2.2.1 0 31
 (fun z74 => br (!z74)
 (k1 4)
 (br ((x1.1 : Int) == 14)
 (c40 x1.2.2.2.2.1 0 4095
 (fun z75 => br (!z75)
 (k1 4)
 (br ((x1.1 : Int) == 24)
 (c40 x1.2.2.2.2.1 1 6
 (fun z76 => br (!z76)
 (k1 4)
 (k1 0)))
 (k1 0))))
 (br ((x1.1 : Int) == 24)
 (c40 x1.2.2.2.2.1 1 6
 (fun z77 => br (!z77)
 (k1 4)
 (k1 0)))
 (k1 0)))))
 (br ((x1.1 : Int) == 10)
 (c40 x1.2.2.2.2.1 0 31
 (fun z78 => br (!z78)
 (k1 4)
 (br ((x1.1 : Int) == 14)
 (c40 x1.2.2.2.2.1 0 4095
 (fun z79 => br (!z79)
 (k1 4)
 (br ((x1.1 : Int) == 24)
 (c40 x1.2.2.2.2.1 1 6
 (fun z80 => br (!z80)
 (k1 4)
 (k1 0)))
 (k1 0))))
 (br ((x1.1 : Int) == 24)
 (c40 x1.2.2.2.2.1 1 6
 (fun z81 => br (!z81)
 (k1 4)
 (k1 0)))
 (k1 0)))))
 (br ((x1.1 : Int) == 14)
 (c40 x1.2.2.2.2.1 0 4095
 (fun z82 => br (!z82)
 (k1 4)
 (br ((x1.1 : Int) == 24)
 (c40 x1.2.2.2.2.1 1 6
 (fun z83 => br (!z83)
 (k1 4)
 (k1 0)))
 (k1 0))))
 (br ((x1.1 : Int) == 24)
 (c40 x1.2.2.2.2.1 1 6
 (fun z84 => br (!z84)
 (k1 4)
 (k1 0)))
 (k1 0))))))
 (br ((x1.1 : Int) == 9)
 (c40 x1.2.2.2.2.1 0 31
 (fun z85 => br (!z85)
 (k1 4)
 (br ((x1.1 : Int) == 14)
 (c40 x1.2.2.2.2.1 0 4095
 (fun z86 => br (!z86)
 (k1 4)
 (br ((x1.1 : Int) == 24)
 (c40 x1.2.2.2.2.1 1 6
 (fun z87 => br (!z87)
 (k1 4)
 (k1 0)))
 (k1 0))))
 (br ((x1.1 : Int) == 24)
 (c40 x1.2.2.2.2.1 1 6
 (fun z88 => br (!z88)
 (k1 4)
 (k1 0)))
 (k1 0)))))
 (br ((x1.1 : Int) == 10)
 (c40 x1.2.2.2.2.1 0 31
 (fun z89 => br (!z89)
 (k1 4)
 (br ((x1.1 : Int) == 14)
 (c40 x1.2.2.2.2.1 0 4095
 (fun z90 => br (!z90)
 (k1 4)
 (br ((x1.1 : Int) == 24)
 (c40 x1.2.2.2.2.1 1 6
 (fun z91 => br (!z91)
 (k1 4)
 (k1 0)))
 (k1 0))))
 (br ((x1.1 : Int) == 24)
 (c40 x1.2.2.2.2.1 1 6
 (fun z92 => br (!z92)
 (k1 4)
 (k1 0)))
 (k1 0)))))
 (br ((x1.1 : Int) == 14)
 (c40 x1.2.2.2.2.1 0 4095
 (fun z93 => br (!z93)
 (k1 4)
 (br ((x1.1 : Int) == 24)
 (c40 x1.2.2.2.2.1 1 6
 (fun z94 => br (!z94)
 (k1 4)
 (k1 0)))
 (k1 0))))
 (br ((x1.1 : Int) == 24)
 (c40 x1.2.2.2.2.1 1 6
 (fun z95 => br (!z95)
 (k1 4)
 (k1 0)))
 (k1 0)))))))))
 (br (!z7.2.1)
 (br ((x1.2.2.1 : Int) != 0)
 (k1 3)
 (br (!z7.2.2.1)
 (br ((x1.2.2.2.1 : Int) != 0)
 (k1 3)
 (br (!z7.2.2.2.1)
 (br ((x1.2.2.2.2.1 : Int) != 0)
 (k1 3)
 (br ((x1.1 : Int) == 9)
 (c40 x1.2.2.2.2.1 0 31
 (fun z96 => br (!z96)
 (k1 4)
 (br ((x1.1 : Int) == 14)
 (c40 x1.2.2.2.2.1 0 4095
 (fun z97 => br (!z97)
 (k1 4)
 (br ((x1.1 : Int) == 24)
 (c40 x1.2.2.2.2.1 1 6
 (fun z98 => br (!z98)
 (k1 4)
 (k1 0)))
 (k1 0))))
 (br ((x1.1 : Int) == 24)
 (c40 x1.2.2.2.2.1 1 6
 (fun z99 => br (!z99)
 (k1 4)
 (k1 0)))
 (k1 0)))))
 (br ((x1.1 : Int) == 10)
 (c40 x1.2.2.2.2.1 0 31
 (fun z100 => br (!z100)
 (k1 4)
 (br ((x1.1 : Int) == 14)
 (c40 x1.2.2.2.2.1 0 4095
 (fun z101 => br (!z101)
 (k1 4)
 (br ((x1.1 : Int) == 24)
 (c40 x1.2.2.2.2.1 1 6
 (fun z102 => br (!z102)
 (k1 4)
 (k1 0)))
 (k1 0))))
 (br ((x1.1 : Int) == 24)
 (c40 x1.2.2.2.2.1 1 6
 (fun z103 => br (!z103)
 (k1 4)
 (k1 0)))
 (k1 0)))))
 (br ((x1.1 : Int) == 14)
 (c40 x1.2.2.2.2.1 0 4095
 (fun z104 => br (!z104)
 (k1 4)
 (br ((x1.1 : Int) == 24)
 (c40 x1.2.2.2.2.1 1 6
 (fun z105 => br (!z105)
 (k1 4)
 (k1 0)))
 (k1 0))))
 (br ((x1.1 : Int) == 24)
 (c40 x1.2.2.2.2.1 1 6
 (fun z106 => br (!z106)
 (k1 4)
 (k1 0)))
 (k1 0))))))
 (br ((x1.1 : Int) == 9)
 (c40 x1.2.2.2.2.1 0 31
 (fun z107 => br (!z107)
 (k1 4)
 (br ((x1.1 : Int) == 14)
 (c40 x1.2.2.2.2.1 0 4095
 (fun z108 => br (!z108)
 (k1 4)
 (br ((x1.1 : Int) == 24)
 (c40 x1.2.2.2.2.1 1 6
 (fun z109 => br (!z109)
 (k1 4)
 (k1 0)))
 (k1 0))))
 (br ((x1.1 : Int) == 24)
 (c40 x1.2.2.2.2.1 1 6
 (fun z110 => br (!z110)
 (k1 4)
 (k1 0)))
 (k1 0)))))
 (br ((x1.1 : Int) == 10)
 (c40 x1.2.2.2.2.1 0 31
 (fun z111 => br (!z111)
 (k1 4)
 (br ((x1.1 : Int) == 14)
 (c40 x1.2.2.2.2.1 0 4095
 (fun z112 => br (!z112)
 (k1 4)
 (br ((x1.1 : Int) == 24)
 (c40 x1.2.2.2.2.1 1 6
 (fun z113 => br (!z113)
 (k1 4)
 (k1 0)))
 (k1 0))))
 (br ((x1.1 : Int) == 24)
 (c40 x1.2.2.2.2.1 1 6
 (fun z114 => br (!z114)
 (k1 4)
 (k1 0)))
 (k1 0)))))
 (br ((x1.1 : Int) == 14)
 (c40 x1.2.2.2.2.1 0 4095
 (fun z115 => br (!z115)
 (k1 4)
 (br ((x1.1 : Int) == 24)
 (c40 x1.2.2.2.2.1 1 6
 (fun z116 => br (!z116)
 (k1 4)
 (k1 0)))
 (k1 0))))
 (br ((x1.1 : Int) == 24)
 (c40 x1.2.2.2.2.1 1 6
 (fun z117 => br (!z117)
 (k1 4)
 (k1 0)))
 (k1 0)))))))
 (br (!z7.2.2.2.1)
 (br ((x1.2.2.2.2.1 : Int) != 0)
 (k1 3)
 (br ((x1.1 : Int) == 9)
 (c40 x1.2.2.2.2.1 0 31
 (fun z118 => br (!z118)
 (k1 4)
 (br ((x1.1 : Int) == 14)
 (c40 x1.2.2.2.2.1 0 4095
 (fun z119 => br (!z119)
 (k1 4)
 (br ((x1.1 : Int) == 24)
 (c40 x1.2.2.2.2.1 1 6
 (fun z120 => br (!z120)
 (k1 4)
 (k1 0)))
 (k1 0))))
 (br ((x1.1 : Int) == 24)
 (c40 x1.2.2.2.2.1 1 6
 (fun z121 => br (!z121)
 (k1 4)
 (k1 0)))
 (k1 0)))))
 (br ((x1.1 : Int) == 10)
 (c40 x1.2.2.2.2.1 0 31
 (fun z122 => br (!z122)
 (k1 4)
 (br ((x1.1 : Int) == 14)
 (c40 x1.2.2.2.2.1 0 4095
 (fun z123 => br (!z123)
 (k1 4)
 (br ((x1.1 : Int) == 24)
 (c40 x1.2.2.2.2.1 1 6
 (fun z124 => br (!z124)
 (k1 4)
 (k1 0)))
 (k1 0))))
 (br ((x1.1 : Int) == 24)
 (c40 x1.2.2.2.2.1 1 6
 (fun z125 => br (!z125)
 (k1 4)
 (k1 0)))
 (k1 0)))))
 (br ((x1.1 : Int) == 14)
 (c40 x1.2.2.2.2.1 0 4095
 (fun z126 => br (!z126)
 (k1 4)
 (br ((x1.1 : Int) == 24)
 (c40 x1.2.2.2.2.1 1 6
 (fun z127 => br (!z127)
 (k1 4)
 (k1 0)))
 (k1 0))))
 (br ((x1.1 : Int) == 24)
 (c40 x1.2.2.2.2.1 1 6
 (fun z128 => br (!z128)
 (k1 4)
 (k1 0)))
 (k1 0))))))
 (br ((x1.1 : Int) == 9)
 (c40 x1.2.2.2.2.1 0 31
 (fun z129 => br (!z129)
 (k1 4)
 (br ((x1.1 : Int) == 14)
 (c40 x1.2.2.2.2.1 0 4095
 (fun z130 => br (!z130)
 (k1 4)
 (br ((x1.1 : Int) == 24)
 (c40 x1.2.2.2.2.1 1 6
 (fun z131 => br (!z131)
 (k1 4)
 (k1 0)))
 (k1 0))))
 (br ((x1.1 : Int) == 24)
 (c40 x1.2.2.2.2.1 1 6
 (fun z132 => br (!z132)
 (k1 4)
 (k1 0)))
 (k1 0)))))
 (br ((x1.1 : Int) == 10)
 (c40 x1.2.2.2.2.1 0 31
 (fun z133 => br (!z133)
 (k1 4)
 (br ((x1.1 : Int) == 14)
 (c40 x1.2.2.2.2.1 0 4095
 (fun z134 => br (!z134)
 (k1 4)
 (br ((x1.1 : Int) == 24)
 (c40 x1.2.2.2.2.1 1 6
 (fun z135 => br (!z135)
 (k1 4)
 (k1 0)))
 (k1 0))))
 (br ((x1.1 : Int) == 24)
 (c40 x1.2.2.2.2.1 1 6
 (fun z136 => br (!z136)
 (k1 4)
 (k1 0)))
 (k1 0)))))
 (br ((x1.1 : Int) == 14)
 (c40 x1.2.2.2.2.1 0 4095
 (fun z137 => br (!z137)
 (k1 4)
 (br ((x1.1 : Int) == 24)
 (c40 x1.2.2.2.2.1 1 6
 (fun z138 => br (!z138)
 (k1 4)
 (k1 0)))
 (k1 0))))
 (br ((x1.1 : Int) == 24)
 (c40 x1.2.2.2.2.1 1 6
 (fun z139 => br (!z139)
 (k1 4)
 (k1 0)))
 (k1 0))))))))
 (br (!z7.2.2.1)
 (br ((x1.2.2.2.1 : Int) != 0)
 (k1 3)
 (br (!z7.2.2.2.1)
 (br ((x1.2.2.2.2.1 : Int) != 0)
 (k1 3)
 (br ((x1.1 : Int) == 9)
 (c40 x1.2.2.2.2.1 0 31
 (fun z140 => br (!z140)
 (k1 4)
 (br ((x1.1 : Int) == 14)
 (c40 x1.2.2.2.2.1 0 4095
 (fun z141 => br (!z141)
 (k1 4)
 (br ((x1.1 : Int) == 24)
 (c40 x1.2.2.2.2.1 1 6
 (fun z142 => br (!z142)
 (k1 4)
 (k1 0)))
 (k1 0))))
 (br ((x1.1 : Int) == 24)
 (c40 x1.2.2.2.2.1 1 6
 (fun z143 => br (!z143)
 (k1 4)
 (k1 0)))
 (k1 0)))))
 (br ((x1.1 : Int) == 10)
 (c40 x1.2.2.2.2.1 0 31
 (fun z144 => br (!z144)
 (k1 4)
 (br ((x1.1 : Int) == 14)
 (c40 x1.2.2.2.2.1 0 4095
 (fun z145 => br (!z145)
 (k1 4)
 (br ((x1.1 : Int) == 24)
 (c40 x1.2.2.2.2.1 1 6
 (fun z146 => br (!z146)
 (k1 4)
 (k1 0)))
 (k1 0))))
 (br ((x1.1 : Int) == 24)
 (c40 x1.2.2.2.2.1 1 6
 (fun z147 => br (!z147)
 (k1 4)
 (k1 0)))
 (k1 0)))))
 (br ((x1.1 : Int) == 14)
 (c40 x1.2.2.2.2.1 0 4095
 (fun z148 => br (!z148)
 (k1 4)
 (br ((x1.1 : Int) == 24)
 (c40 x1.2.2.2.2.1 1 6
 (fun z149 => br (!z149)
 (k1 4)
 (k1 0)))
 (k1 0))))
 (br ((x1.1 : Int) == 24)
 (c40 x1.2.2.2.2.1 1 6
 (fun z150 => br (!z150)
 (k1 4)
 (k1 0)))
 (k1 0))))))
 (br ((x1.1 : Int) == 9)
 (c40 x1.2.2.2.2.1 0 31
 (fun z151 => br (!z151)
 (k1 4)
 (br ((x1.1 : Int) == 14)
 (c40 x1.2.2.2.2.1 0 4095
 (fun z152 => br (!z152)
 (k1 4)
 (br ((x1.1 : Int) == 24)
 (c40 x1.2.2.2.2.1 1 6
 (fun z153 => br (!z153)
 (k1 4)
 (k1 0)))
 (k1 0))))
 (br ((x1.1 : Int) == 24)
 (c40 x1.2.2.2.2.1 1 6
 (fun z154 => br (!z154)
 (k1 4)
 (k1 0)))
 (k1 0)))))
 (br ((x1.1 : Int) == 10)
 (c40 x1.2.2.2.2.1 0 31
 (fun z155 => br (!z155)
 (k1 4)
 (br ((x1.1 : Int) == 14)
 (c40 x1.2.2.2.2.1 0 4095
 (fun z156 => br (!z156)
 (k1 4)
 (br ((x1.1 : Int) == 24)
 (c40 x1.2.2.2.2.1 1 6
 (fun z157 => br (!z157)
 (k1 4)
 (k1 0)))
 (k1 0))))
 (br ((x1.1 : Int) == 24)
 (c40 x1.2.2.2.2.1 1 6
 (fun z158 => br (!z158)
 (k1 4)
 (k1 0)))
 (k1 0)))))
 (br ((x1.1 : Int) == 14)
 (c40 x1.2.2.2.2.1 0 4095
 (fun z159 => br (!z159)
 (k1 4)
 (br ((x1.1 : Int) == 24)
 (c40 x1.2.2.2.2.1 1 6
 (fun z160 => br (!z160)
 (k1 4)
 (k1 0)))
 (k1 0))))
 (br ((x1.1 : Int) == 24)
 (c40 x1.2.2.2.2.1 1 6
 (fun z161 => br (!z161)
 (k1 4)
 (k1 0)))
 (k1 0)))))))
 (br (!z7.2.2.2.1)
 (br ((x1.2.2.2.2.1 : Int) != 0)
 (k1 3)
 (br ((x1.1 : Int) == 9)
 (c40 x1.2.2.2.2.1 0 31
 (fun z162 => br (!z162)
 (k1 4)
 (br ((x1.1 : Int) == 14)
 (c40 x1.2.2.2.2.1 0 4095
 (fun z163 => br (!z163)
 (k1 4)
 (br ((x1.1 : Int) == 24)
 (c40 x1.2.2.2.2.1 1 6
 (fun z164 => br (!z164)
 (k1 4)
 (k1 0)))
 (k1 0))))
 (br ((x1.1 : Int) == 24)
 (c40 x1.2.2.2.2.1 1 6
 (fun z165 => br (!z165)
 (k1 4)
 (k1 0)))
 (k1 0)))))
 (br ((x1.1 : Int) == 10)
 (c40 x1.2.2.2.2.1 0 31
 (fun z166 => br (!z166)
 (k1 4)
 (br ((x1.1 : Int) == 14)
 (c40 x1.2.2.2.2.1 0 4095
 (fun z167 => br (!z167)
 (k1 4)
 (br ((x1.1 : Int) == 24)
 (c40 x1.2.2.2.2.1 1 6
 (fun z168 => br (!z168)
 (k1 4)
 (k1 0)))
 (k1 0))))
 (br ((x1.1 : Int) == 24)
 (c40 x1.2.2.2.2.1 1 6
 (fun z169 => br (!z169)
 (k1 4)
 (k1 0)))
 (k1 0)))))
 (br ((x1.1 : Int) == 14)
 (c40 x1.2.2.2.2.1 0 4095
 (fun z170 => br (!z170)
 (k1 4)
 (br ((x1.1 : Int) == 24)
 (c40 x1.2.2.2.2.1 1 6
 (fun z171 => br (!z171)
 (k1 4)
 (k1 0)))
 (k1 0))))
 (br ((x1.1 : Int) == 24)
 (c40 x1.2.2.2.2.1 1 6
 (fun z172 => br (!z172)
 (k1 4)
 (k1 0)))
 (k1 0))))))
 (br ((x1.1 : Int) == 9)
 (c40 x1.2.2.2.2.1 0 31
 (fun z173 => br (!z173)
 (k1 4)
 (br ((x1.1 : Int) == 14)
 (c40 x1.2.2.2.2.1 0 4095
 (fun z174 => br (!z174)
 (k1 4)
 (br ((x1.1 : Int) == 24)
 (c40 x1.2.2.2.2.1 1 6
 (fun z175 => br (!z175)
 (k1 4)
 (k1 0)))
 (k1 0))))
 (br ((x1.1 : Int) == 24)
 (c40 x1.2.2.2.2.1 1 6
 (fun z176 => br (!z176)
 (k1 4)
 (k1 0)))
 (k1 0)))))
 (br ((x1.1 : Int) == 10)
 (c40 x1.2.2.2.2.1 0 31
 (fun z177 => br (!z177)
 (k1 4)
 (br ((x1.1 : Int) == 14)
 (c40 x1.2.2.2.2.1 0 4095
 (fun z178 => br (!z178)
 (k1 4)
 (br ((x1.1 : Int) == 24)
 (c40 x1.2.2.2.2.1 1 6
 (fun z179 => br (!z179)
 (k1 4)
 (k1 0)))
 (k1 0))))
 (br ((x1.1 : Int) == 24)
 (c40 x1.2.2.2.2.1 1 6
 (fun z180 => br (!z180)
 (k1 4)
 (k1 0)))
 (k1 0)))))
 (br ((x1.1 : Int) == 14)
 (c40 x1.2.2.2.2.1 0 4095
 (fun z181 => br (!z181)
 (k1 4)
 (br ((x1.1 : Int) == 24)
 (c40 x1.2.2.2.2.1 1 6
 (fun z182 => br (!z182)
 (k1 4)
 (k1 0)))
 (k1 0))))
 (br ((x1.1 : Int) == 24)
 (c40 x1.2.2.2.2.1 1 6
 (fun z183 => br (!z183)
 (k1 4)
 (k1 0)))
 (k1 0)))))))))))))))))))
structure c26 (x1 : tOP) (k1 : Int → Prop) : Prop where
 of : tc26 x1 k1

def tc27 (x1 : Int) (k1 : Bool → Prop) : Prop :=
 br ((x1 : Int) == 16)
 (k1 true)
 (br ((x1 : Int) == 17)
 (k1 true)
 (br ((x1 : Int) == 18)
 (k1 true)
 (br ((x1 : Int) == 19)
 (k1 true)
 (k1 ((x1 : Int) == 20)))))
structure c27 (x1 : Int) (k1 : Bool → Prop) : Prop where
 of : tc27 x1 k1

def tl14r4 (k1 : Int → Prop) (k2 : Prop) (s1 : List tIT) (s2 : List tIT) (s3 : Int) (s4 : Int) : Prop :=
 ∀ (I1 : (List tIT) → (List tIT) → Int → Int → Prop),
 (∀ (s1 : List tIT) (s2 : List tIT) (s3 : Int) (s4 : Int), (br (decide ((s4 : Int) < s3))
 (need False (at? s2 s4) fun y5 =>
 br (decide ((y5.2.1 : Int) ≥ 0))
 (c26 (y5.1.1, y5.1.2.1, y5.1.2.2.1, y5.1.2.2.2.1, 0, y5.1.2.2.2.2.2)
 (fun z6 => br ((z6 : Int) != 0)
 (k1 z6)
 (br (decide ((y5.2.1 : Int) < (-1)))
 (k1 4)
 (br (decide ((y5.2.1 : Int) > (((List.length s1) : Nat) : Int)))
 (k1 4)
 (br (decide ((y5.2.1 : Int) ≥ 0))
 (c27 y5.1.1
 (fun z7 => br (!z7)
 (k1 3)
 (br ((y5.1.2.2.2.2.1 : Int) != 0)
 (k1 3)
 (I1 s1 s2 s3 (IntKind.wrap .i64 (s4 + 1))))))
 (I1 s1 s2 s3 (IntKind.wrap .i64 (s4 + 1))))))))
 (c26 y5.1
 (fun z8 => br ((z8 : Int) != 0)
 (k1 z8)
 (br (decide ((y5.2.1 : Int) < (-1)))
 (k1 4)
 (br (decide ((y5.2.1 : Int) > (((List.length s1) : Nat) : Int)))
 (k1 4)
 (br (decide ((y5.2.1 : Int) ≥ 0))
 (c27 y5.1.1
 (fun z9 => br (!z9)
 (k1 3)
 (br ((y5.1.2.2.2.2.1 : Int) != 0)
 (k1 3)
 (I1 s1 s2 s3 (IntKind.wrap .i64 (s4 + 1))))))
 (I1 s1 s2 s3 (IntKind.wrap .i64 (s4 + 1)))))))))
 (k2)) → I1 s1 s2 s3 s4) →
 I1 s1 s2 s3 s4
structure l14r4 (k1 : Int → Prop) (k2 : Prop) (s1 : List tIT) (s2 : List tIT) (s3 : Int) (s4 : Int) : Prop where
 of : tl14r4 k1 k2 s1 s2 s3 s4

def tc14 (x1 : List tIT) (k1 : Int → Prop) : Prop :=
 br (decide (((((List.length x1) : Nat) : Int) : Int) > 16384))
 (k1 2)
 (l14r4
 (fun z2 => k1 z2)
 (k1 0)
 x1 x1 (((List.length x1) : Nat) : Int) 0)
structure c14 (x1 : List tIT) (k1 : Int → Prop) : Prop where
 of : tc14 x1 k1

def tl15r2 (k1 : Int → Prop) (k2 : Int → (tLF) → Prop) (s1 : Int) (s2 : List tIT) (s3 : Int) (s4 : Int) (s5 : tLF) : Prop :=
 ∀ (I1 : Int → (List tIT) → Int → Int → (tLF) → Prop),
 (∀ (s1 : Int) (s2 : List tIT) (s3 : Int) (s4 : Int) (s5 : tLF), (br (decide ((s4 : Int) < s3))
 (need False (at? s2 s4) fun y6 =>
 br ((y6.2.1 : Int) == (((List.length s5.2.1) : Nat) : Int))
 (k1 4)
 (I1 s1 s2 s3 (IntKind.wrap .i64 (s4 + 1)) s5))
 (k2 s1 s5)) → I1 s1 s2 s3 s4 s5) →
 I1 s1 s2 s3 s4 s5
structure l15r2 (k1 : Int → Prop) (k2 : Int → (tLF) → Prop) (s1 : Int) (s2 : List tIT) (s3 : Int) (s4 : Int) (s5 : tLF) : Prop where
 of : tl15r2 k1 k2 s1 s2 s3 s4 s5

def tl15r9 (k1 : Int → Prop) (k2 : (tLF) → Prop) (s1 : Int) (s2 : Int) (s3 : List (Int × Int × Unit)) (s4 : Int) (s5 : Int) (s6 : tLF) : Prop :=
 ∀ (I1 : Int → Int → (List (Int × Int × Unit)) → Int → Int → (tLF) → Prop),
 (∀ (s1 : Int) (s2 : Int) (s3 : List (Int × Int × Unit)) (s4 : Int) (s5 : Int) (s6 : tLF), (br (decide ((s5 : Int) < s4))
 (need False (at? s3 s5) fun y7 =>
 br (decide ((y7.1 : Int) ≤ s2))
 (k1 4)
 (br (decide ((y7.1 : Int) ≥ (((List.length s6.2.1) : Nat) : Int)))
 (k1 4)
 (br (decide ((y7.2.1 : Int) < 0))
 (k1 4)
 (br (decide ((y7.2.1 : Int) ≥ s1))
 (k1 4)
 (need False (at? s6.2.1 y7.1) fun y8 =>
 br ((y8.1.1 : Int) != 20)
 (br ((y8.1.1 : Int) != 11)
 (k1 3)
 (br (decide ((y8.2.1 : Int) ≥ 0))
 (k1 3)
 (br ((y8.1.2.2.2.2.1 : Int) != 0)
 (k1 3)
 (I1 s1 y7.1 s3 s4 (IntKind.wrap .i64 (s5 + 1)) s6))))
 (br (decide ((y8.2.1 : Int) ≥ 0))
 (k1 3)
 (br ((y8.1.2.2.2.2.1 : Int) != 0)
 (k1 3)
 (I1 s1 y7.1 s3 s4 (IntKind.wrap .i64 (s5 + 1)) s6))))))))
 (k2 s6)) → I1 s1 s2 s3 s4 s5 s6) →
 I1 s1 s2 s3 s4 s5 s6
structure l15r9 (k1 : Int → Prop) (k2 : (tLF) → Prop) (s1 : Int) (s2 : Int) (s3 : List (Int × Int × Unit)) (s4 : Int) (s5 : Int) (s6 : tLF) : Prop where
 of : tl15r9 k1 k2 s1 s2 s3 s4 s5 s6

def tl15r20 (k1 : Int → Prop) (k2 : Prop) (s1 : Int) (s2 : List (Int × Bool × (List Int) × Int × Unit)) (s3 : Int) (s4 : Int) (s5 : tLF) : Prop :=
 ∀ (I1 : Int → (List (Int × Bool × (List Int) × Int × Unit)) → Int → Int → (tLF) → Prop),
 (∀ (s1 : Int) (s2 : List (Int × Bool × (List Int) × Int × Unit)) (s3 : Int) (s4 : Int) (s5 : tLF), (br (decide ((s4 : Int) < s3))
 (need False (at? s2 s4) fun y6 =>
 br (decide ((y6.1 : Int) ≤ s1))
 (k1 4)
 (br (decide ((y6.1 : Int) ≥ (((List.length s5.2.1) : Nat) : Int)))
 (k1 4)
 (br (y6.2.1)
 (br (decide (((IntKind.wrap .i64 (y6.1 + 1)) : Int) ≥ (((List.length s5.2.1) : Nat) : Int)))
 (k1 4)
 (I1 y6.1 s2 s3 (IntKind.wrap .i64 (s4 + 1)) s5))
 (I1 y6.1 s2 s3 (IntKind.wrap .i64 (s4 + 1)) s5))))
 (k2)) → I1 s1 s2 s3 s4 s5) →
 I1 s1 s2 s3 s4 s5
structure l15r20 (k1 : Int → Prop) (k2 : Prop) (s1 : Int) (s2 : List (Int × Bool × (List Int) × Int × Unit)) (s3 : Int) (s4 : Int) (s5 : tLF) : Prop where
 of : tl15r20 k1 k2 s1 s2 s3 s4 s5

def tc15 (x1 : tLF) (x2 : Int) (k1 : Int → Prop) : Prop :=
 l15r2
 (fun z3 => k1 z3)
 (fun z4 z5 => l15r9
 (fun z6 => k1 z6)
 (fun z7 => l15r20
 (fun z8 => k1 z8)
 (k1 0)
 (-1) z7.2.2.2.1 (((List.length z7.2.2.2.1) : Nat) : Int) 0 z7)
 z4 (-1) z5.2.2.1 (((List.length z5.2.2.1) : Nat) : Int) 0 z5)
 x2 x1.2.1 (((List.length x1.2.1) : Nat) : Int) 0 x1
structure c15 (x1 : tLF) (x2 : Int) (k1 : Int → Prop) : Prop where
 of : tc15 x1 x2 k1

def tl6r4 (k1 : Int → Prop) (k2 : Prop) (s1 : List tLF) (s2 : List tLF) (s3 : Int) (s4 : Int) : Prop :=
 ∀ (I1 : (List tLF) → (List tLF) → Int → Int → Prop),
 (∀ (s1 : List tLF) (s2 : List tLF) (s3 : Int) (s4 : Int), (br (decide ((s4 : Int) < s3))
 (need False (at? s2 s4) fun y5 =>
 c14 y5.2.1
 (fun z6 => br ((z6 : Int) != 0)
 (k1 z6)
 (br (((((List.length y5.2.1) : Nat) : Int) : Int) == 0)
 (k1 4)
 (br (decide ((y5.2.2.2.2.1 : Int) < 1))
 (k1 4)
 (br (decide ((y5.2.2.2.2.1 : Int) > 4096))
 (k1 4)
 (c15 y5 (((List.length s1) : Nat) : Int)
 (fun z7 => br ((z7 : Int) != 0)
 (k1 z7)
 (I1 s1 s2 s3 (IntKind.wrap .i64 (s4 + 1))))))))))
 (k2)) → I1 s1 s2 s3 s4) →
 I1 s1 s2 s3 s4
structure l6r4 (k1 : Int → Prop) (k2 : Prop) (s1 : List tLF) (s2 : List tLF) (s3 : Int) (s4 : Int) : Prop where
 of : tl6r4 k1 k2 s1 s2 s3 s4

def tc6 (x1 : List tLF) (k1 : Int → Prop) : Prop :=
 br (decide (((((List.length x1) : Nat) : Int) : Int) > 256))
 (k1 2)
 (l6r4
 (fun z2 => k1 z2)
 (k1 0)
 x1 x1 (((List.length x1) : Nat) : Int) 0)
structure c6 (x1 : List tLF) (k1 : Int → Prop) : Prop where
 of : tc6 x1 k1

def tl33r4 (k1 : Bool → Prop) (k2 : Prop) (s1 : List tIT) (s2 : List tIT) (s3 : Int) (s4 : Int) : Prop :=
 ∀ (I1 : (List tIT) → (List tIT) → Int → Int → Prop),
 (∀ (s1 : List tIT) (s2 : List tIT) (s3 : Int) (s4 : Int), (br (decide ((s4 : Int) < s3))
 (need False (at? s1 s4) fun y5 =>
 need False (at? s2 s4) fun y6 =>
 br (!((((y5.1.1 : Int) == y6.1.1) && (((y5.1.2.1 : Int) == y6.1.2.1) && (((y5.1.2.2.1 : Int) == y6.1.2.2.1) && (((y5.1.2.2.2.1 : Int) == y6.1.2.2.2.1) && (((y5.1.2.2.2.2.1 : Int) == y6.1.2.2.2.2.1) && true))))) && (((y5.2.1 : Int) == y6.2.1) && true)))
 (k1 false)
 (I1 s1 s2 s3 (IntKind.wrap .i64 (s4 + 1))))
 (k2)) → I1 s1 s2 s3 s4) →
 I1 s1 s2 s3 s4
structure l33r4 (k1 : Bool → Prop) (k2 : Prop) (s1 : List tIT) (s2 : List tIT) (s3 : Int) (s4 : Int) : Prop where
 of : tl33r4 k1 k2 s1 s2 s3 s4

def tc33 (x1 : List tIT) (x2 : List tIT) (k1 : Bool → Prop) : Prop :=
 br (((((List.length x1) : Nat) : Int) : Int) != (((List.length x2) : Nat) : Int))
 (k1 false)
 (l33r4
 (fun z3 => k1 z3)
 (k1 true)
 x1 x2 (((List.length x1) : Nat) : Int) 0)
structure c33 (x1 : List tIT) (x2 : List tIT) (k1 : Bool → Prop) : Prop where
 of : tc33 x1 x2 k1

def tl23r4 (k1 : Bool → Prop) (k2 : Prop) (s1 : List Int) (s2 : List Int) (s3 : Int) (s4 : Int) : Prop :=
 ∀ (I1 : (List Int) → (List Int) → Int → Int → Prop),
 (∀ (s1 : List Int) (s2 : List Int) (s3 : Int) (s4 : Int), (br (decide ((s4 : Int) < s3))
 (need False (at? s1 s4) fun y5 =>
 need False (at? s2 s4) fun y6 =>
 br ((y5 : Int) != y6)
 (k1 false)
 (I1 s1 s2 s3 (IntKind.wrap .i64 (s4 + 1))))
 (k2)) → I1 s1 s2 s3 s4) →
 I1 s1 s2 s3 s4
structure l23r4 (k1 : Bool → Prop) (k2 : Prop) (s1 : List Int) (s2 : List Int) (s3 : Int) (s4 : Int) : Prop where
 of : tl23r4 k1 k2 s1 s2 s3 s4

def tc23 (x1 : List Int) (x2 : List Int) (k1 : Bool → Prop) : Prop :=
 br (((((List.length x1) : Nat) : Int) : Int) != (((List.length x2) : Nat) : Int))
 (k1 false)
 (l23r4
 (fun z3 => k1 z3)
 (k1 true)
 x1 x2 (((List.length x1) : Nat) : Int) 0)
structure c23 (x1 : List Int) (x2 : List Int) (k1 : Bool → Prop) : Prop where
 of : tc23 x1 x2 k1

def tc35 (x1 : Int × Bool × (List Int) × Int × Unit) (x2 : Int × Bool × (List Int) × Int × Unit) (k1 : Bool → Prop) : Prop :=
 br ((x1.1 : Int) == x2.1)
 (br ((x1.2.1 : Bool) == x2.2.1)
 (br ((x1.2.2.2.1 : Int) == x2.2.2.2.1)
 (c23 x1.2.2.1 x2.2.2.1
 (fun z3 => k1 z3))
 (k1 false))
 (k1 false))
 (k1 false)
structure c35 (x1 : Int × Bool × (List Int) × Int × Unit) (x2 : Int × Bool × (List Int) × Int × Unit) (k1 : Bool → Prop) : Prop where
 of : tc35 x1 x2 k1

def tl34r4 (k1 : Bool → Prop) (k2 : Prop) (s1 : List (Int × Bool × (List Int) × Int × Unit)) (s2 : List (Int × Bool × (List Int) × Int × Unit)) (s3 : Int) (s4 : Int) : Prop :=
 ∀ (I1 : (List (Int × Bool × (List Int) × Int × Unit)) → (List (Int × Bool × (List Int) × Int × Unit)) → Int → Int → Prop),
 (∀ (s1 : List (Int × Bool × (List Int) × Int × Unit)) (s2 : List (Int × Bool × (List Int) × Int × Unit)) (s3 : Int) (s4 : Int), (br (decide ((s4 : Int) < s3))
 (need False (at? s2 s4) fun y5 =>
 need False (at? s1 s4) fun y6 =>
 c35 y5 y6
 (fun z7 => br (!z7)
 (k1 false)
 (I1 s1 s2 s3 (IntKind.wrap .i64 (s4 + 1)))))
 (k2)) → I1 s1 s2 s3 s4) →
 I1 s1 s2 s3 s4
structure l34r4 (k1 : Bool → Prop) (k2 : Prop) (s1 : List (Int × Bool × (List Int) × Int × Unit)) (s2 : List (Int × Bool × (List Int) × Int × Unit)) (s3 : Int) (s4 : Int) : Prop where
 of : tl34r4 k1 k2 s1 s2 s3 s4

def tc34 (x1 : List (Int × Bool × (List Int) × Int × Unit)) (x2 : List (Int × Bool × (List Int) × Int × Unit)) (k1 : Bool → Prop) : Prop :=
 br (((((List.length x1) : Nat) : Int) : Int) != (((List.length x2) : Nat) : Int))
 (k1 false)
 (l34r4
 (fun z3 => k1 z3)
 (k1 true)
 x2 x1 (((List.length x1) : Nat) : Int) 0)
structure c34 (x1 : List (Int × Bool × (List Int) × Int × Unit)) (x2 : List (Int × Bool × (List Int) × Int × Unit)) (k1 : Bool → Prop) : Prop where
 of : tc34 x1 x2 k1

def tc37 (x1 : Int × Int × Unit) (x2 : Int × Int × Unit) (x3 : List Int) (k1 : Bool → (List Int) → Prop) : Prop :=
 br ((x1.1 : Int) == x2.1)
 (need False (at? x3 x1.2.1) fun y4 =>
 need False (at? x3 x2.2.1) fun y5 =>
 k1 ((y4 : Int) == y5) x3)
 (k1 false x3)
structure c37 (x1 : Int × Int × Unit) (x2 : Int × Int × Unit) (x3 : List Int) (k1 : Bool → (List Int) → Prop) : Prop where
 of : tc37 x1 x2 x3 k1

def tl36r4 (k1 : Bool → (List Int) → Prop) (k2 : (List Int) → Prop) (s1 : List (Int × Int × Unit)) (s2 : List (Int × Int × Unit)) (s3 : Int) (s4 : Int) (s5 : List Int) : Prop :=
 ∀ (I1 : (List (Int × Int × Unit)) → (List (Int × Int × Unit)) → Int → Int → (List Int) → Prop),
 (∀ (s1 : List (Int × Int × Unit)) (s2 : List (Int × Int × Unit)) (s3 : Int) (s4 : Int) (s5 : List Int), (br (decide ((s4 : Int) < s3))
 (need False (at? s2 s4) fun y6 =>
 need False (at? s1 s4) fun y7 =>
 c37 y6 y7 s5
 (fun z8 z9 => br (!z8)
 (k1 false z9)
 (I1 s1 s2 s3 (IntKind.wrap .i64 (s4 + 1)) z9)))
 (k2 s5)) → I1 s1 s2 s3 s4 s5) →
 I1 s1 s2 s3 s4 s5
structure l36r4 (k1 : Bool → (List Int) → Prop) (k2 : (List Int) → Prop) (s1 : List (Int × Int × Unit)) (s2 : List (Int × Int × Unit)) (s3 : Int) (s4 : Int) (s5 : List Int) : Prop where
 of : tl36r4 k1 k2 s1 s2 s3 s4 s5

def tc36 (x1 : List (Int × Int × Unit)) (x2 : List (Int × Int × Unit)) (x3 : List Int) (k1 : Bool → (List Int) → Prop) : Prop :=
 br (((((List.length x1) : Nat) : Int) : Int) != (((List.length x2) : Nat) : Int))
 (k1 false x3)
 (l36r4
 (fun z4 z5 => k1 z4 z5)
 (fun z6 => k1 true z6)
 x2 x1 (((List.length x1) : Nat) : Int) 0 x3)
structure c36 (x1 : List (Int × Int × Unit)) (x2 : List (Int × Int × Unit)) (x3 : List Int) (k1 : Bool → (List Int) → Prop) : Prop where
 of : tc36 x1 x2 x3 k1

def tc22 (x1 : tLF) (x2 : tLF) (x3 : List Int) (k1 : Bool → Prop) : Prop :=
 br ((x1.2.2.2.2.1 : Int) == x2.2.2.2.2.1)
 (c33 x1.2.1 x2.2.1
 (fun z4 => br (z4)
 (c34 x1.2.2.2.1 x2.2.2.2.1
 (fun z5 => br (z5)
 (c36 x1.2.2.1 x2.2.2.1 x3
 (fun z6 z7 => k1 z6))
 (k1 false)))
 (k1 false)))
 (k1 false)
structure c22 (x1 : tLF) (x2 : tLF) (x3 : List Int) (k1 : Bool → Prop) : Prop where
 of : tc22 x1 x2 x3 k1

def tl11r11 (k1 : (List tLF) → Int → Int → (List Int) → (List Int) → Prop) (s1 : List tLF) (s2 : Int) (s3 : Int) (s4 : Int) (s5 : Int) (s6 : Int) (s7 : List Int) (s8 : List Int) : Prop :=
 ∀ (I1 : (List tLF) → Int → Int → Int → Int → Int → (List Int) → (List Int) → Prop),
 (∀ (s1 : List tLF) (s2 : Int) (s3 : Int) (s4 : Int) (s5 : Int) (s6 : Int) (s7 : List Int) (s8 : List Int), (br (decide ((s6 : Int) < s5))
 (br (decide ((0 : Int) ≤ s6 ∧ (s6 : Int) < (((List.length s8) : Nat) : Int)))
 (need False (s8)[(Int.toNat s6)]? fun y9 =>
 br ((y9 : Int) == s6)
 (br (decide ((0 : Int) ≤ s2 ∧ (s2 : Int) < (((List.length s7) : Nat) : Int)))
 (need False (s7)[(Int.toNat s2)]? fun y10 =>
 br (decide ((0 : Int) ≤ s6 ∧ (s6 : Int) < (((List.length s7) : Nat) : Int)))
 (need False (s7)[(Int.toNat s6)]? fun y11 =>
 br ((y10 : Int) == y11)
 (need False (at? s1 s2) fun y12 =>
 need False (at? s1 s6) fun y13 =>
 c22 y12 y13 s7
 (fun z14 => br (z14)
 (br (decide ((0 : Int) ≤ s2 ∧ (s2 : Int) < (((List.length s8) : Nat) : Int)))
 (need False (s8)[(Int.toNat s2)]? fun y15 =>
 k1 s1 s3 s4 s7 (List.set s8 (Int.toNat s2) s6))
 (False /- 39 -/))
 (I1 s1 s2 s3 s4 s5 (IntKind.wrap .i64 (s6 + 1)) s7 s8)))
 (I1 s1 s2 s3 s4 s5 (IntKind.wrap .i64 (s6 + 1)) s7 s8))
 (False /- 39 -/))
 (False /- 39 -/))
 (I1 s1 s2 s3 s4 s5 (IntKind.wrap .i64 (s6 + 1)) s7 s8))
 (False /- 39 -/))
 (k1 s1 s3 s4 s7 s8)) → I1 s1 s2 s3 s4 s5 s6 s7 s8) →
 I1 s1 s2 s3 s4 s5 s6 s7 s8
structure l11r11 (k1 : (List tLF) → Int → Int → (List Int) → (List Int) → Prop) (s1 : List tLF) (s2 : Int) (s3 : Int) (s4 : Int) (s5 : Int) (s6 : Int) (s7 : List Int) (s8 : List Int) : Prop where
 of : tl11r11 k1 s1 s2 s3 s4 s5 s6 s7 s8

def tl11r7 (k1 : (List tLF) → (List Int) → (List Int) → Prop) (s1 : List tLF) (s2 : Int) (s3 : Int) (s4 : List Int) (s5 : List Int) : Prop :=
 ∀ (I1 : (List tLF) → Int → Int → (List Int) → (List Int) → Prop),
 (∀ (s1 : List tLF) (s2 : Int) (s3 : Int) (s4 : List Int) (s5 : List Int), (br (decide ((s3 : Int) < s2))
 (br (decide ((0 : Int) ≤ s3 ∧ (s3 : Int) < (((List.length s5) : Nat) : Int)))
 (need False (s5)[(Int.toNat s3)]? fun y6 =>
 l11r11
 (fun z7 z8 z9 z10 z11 => I1 z7 z8 (IntKind.wrap .i64 (z9 + 1)) z10 z11)
 s1 s3 s2 s3 s3 0 s4 (List.set s5 (Int.toNat s3) s3))
 (False /- 39 -/))
 (k1 s1 s4 s5)) → I1 s1 s2 s3 s4 s5) →
 I1 s1 s2 s3 s4 s5
structure l11r7 (k1 : (List tLF) → (List Int) → (List Int) → Prop) (s1 : List tLF) (s2 : Int) (s3 : Int) (s4 : List Int) (s5 : List Int) : Prop where
 of : tl11r7 k1 s1 s2 s3 s4 s5

def tl11r5 (k1 : Int → (List Int) → Prop) (s1 : List tLF) (s2 : List Int) : Prop :=
 ∀ (I1 : (List tLF) → (List Int) → Prop),
 (∀ (s1 : List tLF) (s2 : List Int), (br (decide ((0 : Int) ≤ (((List.length s1) : Nat) : Int) ∧ ((((List.length s1) : Nat) : Int) : Int) ≤ (((List.length s1) : Nat) : Int) ∧ (((((List.length s1) : Nat) : Int) * 8) : Int) ≤ 140737488355328))
 (l11r7
 (fun z3 z4 z5 => c23 z5 z4
 (fun z6 => br (z6)
 (k1 0 z4)
 (I1 z3 z5)))
 s1 (((List.length s1) : Nat) : Int) 0 s2 (List.replicate (Int.toNat (((List.length s1) : Nat) : Int)) (0 : Int)))
 (False /- 111 -/)) → I1 s1 s2) →
 I1 s1 s2
structure l11r5 (k1 : Int → (List Int) → Prop) (s1 : List tLF) (s2 : List Int) : Prop where
 of : tl11r5 k1 s1 s2

def tc11 (x1 : List tLF) (k1 : Int → (List Int) → Prop) : Prop :=
 c6 x1
 (fun z2 => br ((z2 : Int) != 0)
 (k1 z2 [])
 (br (decide ((0 : Int) ≤ (((List.length x1) : Nat) : Int) ∧ ((((List.length x1) : Nat) : Int) : Int) ≤ (((List.length x1) : Nat) : Int) ∧ (((((List.length x1) : Nat) : Int) * 8) : Int) ≤ 140737488355328))
 (l11r5
 (fun z3 z4 => k1 z3 z4)
 x1 (List.replicate (Int.toNat (((List.length x1) : Nat) : Int)) (0 : Int)))
 (False /- 111 -/)))
structure c11 (x1 : List tLF) (k1 : Int → (List Int) → Prop) : Prop where
 of : tc11 x1 k1

def tl10r4 (k1 : Bool → Prop) (k2 : Prop) (s1 : List Int) (s2 : List Int) (s3 : Int) (s4 : Int) : Prop :=
 ∀ (I1 : (List Int) → (List Int) → Int → Int → Prop),
 (∀ (s1 : List Int) (s2 : List Int) (s3 : Int) (s4 : Int), (br (decide ((s4 : Int) < s3))
 (need False (at? s1 s4) fun y5 =>
 need False (at? s2 s4) fun y6 =>
 br ((y5 : Int) != y6)
 (k1 false)
 (I1 s1 s2 s3 (IntKind.wrap .i64 (s4 + 1))))
 (k2)) → I1 s1 s2 s3 s4) →
 I1 s1 s2 s3 s4
structure l10r4 (k1 : Bool → Prop) (k2 : Prop) (s1 : List Int) (s2 : List Int) (s3 : Int) (s4 : Int) : Prop where
 of : tl10r4 k1 k2 s1 s2 s3 s4

def tc10 (x1 : List Int) (x2 : List Int) (k1 : Bool → Prop) : Prop :=
 br (((((List.length x1) : Nat) : Int) : Int) != (((List.length x2) : Nat) : Int))
 (k1 false)
 (l10r4
 (fun z3 => k1 z3)
 (k1 true)
 x1 x2 (((List.length x1) : Nat) : Int) 0)
structure c10 (x1 : List Int) (x2 : List Int) (k1 : Bool → Prop) : Prop where
 of : tc10 x1 x2 k1

def tc4 (k1 : Bool → Prop) : Prop :=
 c11 [(0, [((22, 0, 0, 0, 0, ()), (-1), ())], [], [], 1, ()), (0, [((22, 0, 0, 0, 0, ()), (-1), ())], [], [], 1, ())]
 (fun z1 z2 => br ((z1 : Int) == 0)
 (c10 z2 [0, 0]
 (fun z3 => k1 z3))
 (k1 false))
structure c4 (k1 : Bool → Prop) : Prop where
 of : tc4 k1

def tl24r4 (k1 : Int → Prop) (k2 : (tOP) → Prop) (s1 : Int) (s2 : Int) (s3 : tOP) (s4 : List Int) : Prop :=
 ∀ (I1 : Int → Int → (tOP) → (List Int) → Prop),
 (∀ (s1 : Int) (s2 : Int) (s3 : tOP) (s4 : List Int), (br (decide ((s2 : Int) < s1))
 (br (decide ((0 : Int) ≤ s2 ∧ (s2 : Int) < (((List.length s4) : Nat) : Int)))
 (need False (s4)[(Int.toNat s2)]? fun y5 =>
 br (decide ((y5 : Int) < 0))
 (k1 4)
 (br (decide ((y5 : Int) > 15))
 (k1 4)
 (I1 s1 (IntKind.wrap .i64 (s2 + 1)) s3 s4)))
 (False /- 39 -/))
 (k2 s3)) → I1 s1 s2 s3 s4) →
 I1 s1 s2 s3 s4
structure l24r4 (k1 : Int → Prop) (k2 : (tOP) → Prop) (s1 : Int) (s2 : Int) (s3 : tOP) (s4 : List Int) : Prop where
 of : tl24r4 k1 k2 s1 s2 s3 s4

def tc38 (k1 : (List (List UInt8)) → Prop) : Prop :=
 k1 [[], [(68 : UInt8), (65 : UInt8), (66 : UInt8)], [(68 : UInt8), (65 : UInt8), (66 : UInt8)], [(68 : UInt8), (65 : UInt8), (66 : UInt8)], [(68 : UInt8), (65 : UInt8), (66 : UInt8)], [(68 : UInt8), (65 : UInt8), (66 : UInt8)], [(68 : UInt8), (65 : UInt8), (66 : UInt8)], [(68 : UInt8), (65 : UInt8), (66 : UInt8)], [(68 : UInt8), (65 : UInt8), (78 : UInt8)], [(68 : UInt8), (65 : UInt8), (78 : UInt8)], [(68 : UInt8), (65 : UInt8), (78 : UInt8)], [(68 : UInt8), (78 : UInt8)], [(68 : UInt8), (65 : UInt8), (78 : UInt8)], [(65 : UInt8), (66 : UInt8), (78 : UInt8)], [(68 : UInt8), (66 : UInt8), (78 : UInt8)], [(68 : UInt8), (65 : UInt8), (66 : UInt8)], [(65 : UInt8), (66 : UInt8), (78 : UInt8)], [(65 : UInt8), (66 : UInt8), (78 : UInt8)], [(65 : UInt8), (66 : UInt8), (78 : UInt8)], [(78 : UInt8)], [(78 : UInt8)], [(65 : UInt8)], [], [(65 : UInt8)], [(78 : UInt8)]]
structure c38 (k1 : (List (List UInt8)) → Prop) : Prop where
 of : tc38 k1

def tl39r2 (k1 : Bool → Prop) (k2 : Prop) (s1 : List UInt8) (s2 : Int) (s3 : Int) (s4 : Int) : Prop :=
 ∀ (I1 : (List UInt8) → Int → Int → Int → Prop),
 (∀ (s1 : List UInt8) (s2 : Int) (s3 : Int) (s4 : Int), (br (decide ((s4 : Int) < s3))
 (need False (at? s1 s4) fun y5 =>
 br (((UInt8.toNat y5 : Int) : Int) == s2)
 (k1 true)
 (I1 s1 s2 s3 (IntKind.wrap .i64 (s4 + 1))))
 (k2)) → I1 s1 s2 s3 s4) →
 I1 s1 s2 s3 s4
structure l39r2 (k1 : Bool → Prop) (k2 : Prop) (s1 : List UInt8) (s2 : Int) (s3 : Int) (s4 : Int) : Prop where
 of : tl39r2 k1 k2 s1 s2 s3 s4

def tc39 (x1 : List UInt8) (x2 : Int) (k1 : Bool → Prop) : Prop :=
 l39r2
 (fun z3 => k1 z3)
 (k1 false)
 x1 x2 (((List.length x1) : Nat) : Int) 0
structure c39 (x1 : List UInt8) (x2 : Int) (k1 : Bool → Prop) : Prop where
 of : tc39 x1 x2 k1

def tl24r13 (k1 : Int → Prop) (k2 : (tOP) → Prop) (s1 : List UInt8) (s2 : Int) (s3 : Int) (s4 : tOP) (s5 : List Int) : Prop :=
 ∀ (I1 : (List UInt8) → Int → Int → (tOP) → (List Int) → Prop),
 (∀ (s1 : List UInt8) (s2 : Int) (s3 : Int) (s4 : tOP) (s5 : List Int), (br (decide ((s3 : Int) < s2))
 (br (decide ((0 : Int) ≤ s3 ∧ (s3 : Int) < (((List.length s5) : Nat) : Int)))
 (need False (s5)[(Int.toNat s3)]? fun y6 =>
 br ((y6 : Int) != 0)
 (need False (at? [(68 : UInt8), (65 : UInt8), (66 : UInt8), (78 : UInt8)] s3) fun y7 =>
 c39 s1 (UInt8.toNat y7 : Int)
 (fun z8 => br (!z8)
 (k1 3)
 (I1 s1 s2 (IntKind.wrap .i64 (s3 + 1)) s4 s5)))
 (I1 s1 s2 (IntKind.wrap .i64 (s3 + 1)) s4 s5))
 (False /- 39 -/))
 (k2 s4)) → I1 s1 s2 s3 s4 s5) →
 I1 s1 s2 s3 s4 s5
structure l24r13 (k1 : Int → Prop) (k2 : (tOP) → Prop) (s1 : List UInt8) (s2 : Int) (s3 : Int) (s4 : tOP) (s5 : List Int) : Prop where
 of : tl24r13 k1 k2 s1 s2 s3 s4 s5

def tc24 (x1 : tOP) (k1 : Int → Prop) : Prop :=
 br (decide ((x1.1 : Int) < 0))
 (k1 1)
 (br (decide ((x1.1 : Int) > 24))
 (k1 1)
 (l24r4
 (fun z2 => k1 z2)
 (fun z3 => br (decide ((z3.2.2.2.2.1 : Int) < (-2147483648)))
 (k1 4)
 (br (decide ((z3.2.2.2.2.1 : Int) > 2147483647))
 (k1 4)
 (c38 
 (fun z4 => br (true && true)
 (br (eqT (.int .i64) z3.1 z3.1)
 (br (decide ((0 : Int) ≤ z3.1 ∧ (z3.1 : Int) < (((List.length z4) : Nat) : Int)))
 (need False (z4)[(Int.toNat z3.1)]? fun y5 =>
 l24r13
 (fun z6 => k1 z6)
 (fun z7 => br ((z7.1 : Int) == 9)
 (br (decide ((z7.2.2.2.2.1 : Int) < 0))
 (k1 4)
 (br (decide ((z7.2.2.2.2.1 : Int) > 31))
 (k1 4)
 (k1 0)))
 (br ((z7.1 : Int) == 10)
 (br (decide ((z7.2.2.2.2.1 : Int) < 0))
 (k1 4)
 (br (decide ((z7.2.2.2.2.1 : Int) > 31))
 (k1 4)
 (k1 0)))
 (br ((z7.1 : Int) == 14)
 (br (decide ((z7.2.2.2.2.1 : Int) < 0))
 (k1 4)
 (br (decide ((z7.2.2.2.2.1 : Int) > 4095))
 (k1 4)
 (k1 0)))
 (br ((z7.1 : Int) == 24)
 (br (decide ((z7.2.2.2.2.1 : Int) < 1))
 (k1 4)
 (br (decide ((z7.2.2.2.2.1 : Int) > 6))
 (k1 4)
 (k1 0)))
 (br (decide ((z7.2.2.2.2.1 : Int) < (-2147483648)))
 (k1 4)
 (br (decide ((z7.2.2.2.2.1 : Int) > 2147483647))
 (k1 4)
 (k1 0)))))))
 y5 ((4 : Nat) : Int) 0 z3 [z3.2.1, z3.2.2.1, z3.2.2.2.1, z3.2.2.2.2.1])
 (False /- 39 -/))
 (False /- 942 -/))
 (False /- 942 -/)))))
 ((3 : Nat) : Int) 0 x1 [x1.2.1, x1.2.2.1, x1.2.2.2.1]))
structure c24 (x1 : tOP) (k1 : Int → Prop) : Prop where
 of : tc24 x1 k1

def tc25 (x1 : Int) (k1 : Bool → Prop) : Prop :=
 br (decide ((x1 : Int) ≥ 16))
 (k1 (decide ((x1 : Int) ≤ 20)))
 (k1 false)
structure c25 (x1 : Int) (k1 : Bool → Prop) : Prop where
 of : tc25 x1 k1

def tl12r4 (k1 : Int → Prop) (k2 : Prop) (s1 : List tIT) (s2 : List tIT) (s3 : Int) (s4 : Int) : Prop :=
 ∀ (I1 : (List tIT) → (List tIT) → Int → Int → Prop),
 (∀ (s1 : List tIT) (s2 : List tIT) (s3 : Int) (s4 : Int), (br (decide ((s4 : Int) < s3))
 (need False (at? s2 s4) fun y5 =>
 br (decide ((y5.2.1 : Int) ≥ 0))
 (c24 (y5.1.1, y5.1.2.1, y5.1.2.2.1, y5.1.2.2.2.1, 0, y5.1.2.2.2.2.2)
 (fun z6 => br ((z6 : Int) != 0)
 (k1 z6)
 (br (decide ((y5.2.1 : Int) < (-1)))
 (k1 4)
 (br (decide ((y5.2.1 : Int) > (((List.length s1) : Nat) : Int)))
 (k1 4)
 (br (decide ((y5.2.1 : Int) ≥ 0))
 (c25 y5.1.1
 (fun z7 => br (!z7)
 (k1 3)
 (br ((y5.1.2.2.2.2.1 : Int) != 0)
 (k1 3)
 (I1 s1 s2 s3 (IntKind.wrap .i64 (s4 + 1))))))
 (I1 s1 s2 s3 (IntKind.wrap .i64 (s4 + 1))))))))
 (c24 y5.1
 (fun z8 => br ((z8 : Int) != 0)
 (k1 z8)
 (br (decide ((y5.2.1 : Int) < (-1)))
 (k1 4)
 (br (decide ((y5.2.1 : Int) > (((List.length s1) : Nat) : Int)))
 (k1 4)
 (br (decide ((y5.2.1 : Int) ≥ 0))
 (c25 y5.1.1
 (fun z9 => br (!z9)
 (k1 3)
 (br ((y5.1.2.2.2.2.1 : Int) != 0)
 (k1 3)
 (I1 s1 s2 s3 (IntKind.wrap .i64 (s4 + 1))))))
 (I1 s1 s2 s3 (IntKind.wrap .i64 (s4 + 1)))))))))
 (k2)) → I1 s1 s2 s3 s4) →
 I1 s1 s2 s3 s4
structure l12r4 (k1 : Int → Prop) (k2 : Prop) (s1 : List tIT) (s2 : List tIT) (s3 : Int) (s4 : Int) : Prop where
 of : tl12r4 k1 k2 s1 s2 s3 s4

def tc12 (x1 : List tIT) (k1 : Int → Prop) : Prop :=
 br (decide (((((List.length x1) : Nat) : Int) : Int) > 16384))
 (k1 2)
 (l12r4
 (fun z2 => k1 z2)
 (k1 0)
 x1 x1 (((List.length x1) : Nat) : Int) 0)
structure c12 (x1 : List tIT) (k1 : Int → Prop) : Prop where
 of : tc12 x1 k1

def tc13 (x1 : Int) (x2 : Int) (x3 : Int) (k1 : Bool → Prop) : Prop :=
 br (decide ((x1 : Int) ≥ x2))
 (k1 (decide ((x1 : Int) ≤ x3)))
 (k1 false)
structure c13 (x1 : Int) (x2 : Int) (x3 : Int) (k1 : Bool → Prop) : Prop where
 of : tc13 x1 x2 x3 k1

def tl5r12 (k1 : Int → Prop) (k2 : (List tLF) → (List tLF) → Int → Int → (tLF) → Prop) (s1 : List tLF) (s2 : List tLF) (s3 : Int) (s4 : Int) (s5 : List tIT) (s6 : Int) (s7 : Int) (s8 : tLF) : Prop :=
 ∀ (I1 : (List tLF) → (List tLF) → Int → Int → (List tIT) → Int → Int → (tLF) → Prop),
 (∀ (s1 : List tLF) (s2 : List tLF) (s3 : Int) (s4 : Int) (s5 : List tIT) (s6 : Int) (s7 : Int) (s8 : tLF), (br (decide ((s7 : Int) < s6))
 (need False (at? s5 s7) fun y9 =>
 br ((y9.2.1 : Int) == (((List.length s8.2.1) : Nat) : Int))
 (k1 4)
 (I1 s1 s2 s3 s4 s5 s6 (IntKind.wrap .i64 (s7 + 1)) s8))
 (k2 s1 s2 s3 s4 s8)) → I1 s1 s2 s3 s4 s5 s6 s7 s8) →
 I1 s1 s2 s3 s4 s5 s6 s7 s8
structure l5r12 (k1 : Int → Prop) (k2 : (List tLF) → (List tLF) → Int → Int → (tLF) → Prop) (s1 : List tLF) (s2 : List tLF) (s3 : Int) (s4 : Int) (s5 : List tIT) (s6 : Int) (s7 : Int) (s8 : tLF) : Prop where
 of : tl5r12 k1 k2 s1 s2 s3 s4 s5 s6 s7 s8

def tl5r19 (k1 : Int → Prop) (k2 : (List tLF) → (List tLF) → Int → Int → (tLF) → Prop) (s1 : List tLF) (s2 : Int) (s3 : List tLF) (s4 : Int) (s5 : Int) (s6 : List (Int × Int × Unit)) (s7 : Int) (s8 : Int) (s9 : tLF) : Prop :=
 ∀ (I1 : (List tLF) → Int → (List tLF) → Int → Int → (List (Int × Int × Unit)) → Int → Int → (tLF) → Prop),
 (∀ (s1 : List tLF) (s2 : Int) (s3 : List tLF) (s4 : Int) (s5 : Int) (s6 : List (Int × Int × Unit)) (s7 : Int) (s8 : Int) (s9 : tLF), (br (decide ((s8 : Int) < s7))
 (need False (at? s6 s8) fun y10 =>
 br (decide ((y10.1 : Int) ≤ s2))
 (k1 4)
 (br (decide ((y10.1 : Int) ≥ (((List.length s9.2.1) : Nat) : Int)))
 (k1 4)
 (c13 y10.2.1 0 (IntKind.wrap .i64 ((((List.length s1) : Nat) : Int) - 1))
 (fun z11 => br (!z11)
 (k1 4)
 (need False (at? s9.2.1 y10.1) fun y12 =>
 br ((y12.1.1 : Int) != 20)
 (br ((y12.1.1 : Int) != 11)
 (k1 3)
 (br ((y12.2.1 : Int) != (-1))
 (k1 3)
 (br ((y12.1.2.2.2.2.1 : Int) != 0)
 (k1 3)
 (I1 s1 y10.1 s3 s4 s5 s6 s7 (IntKind.wrap .i64 (s8 + 1)) s9))))
 (br ((y12.2.1 : Int) != (-1))
 (k1 3)
 (br ((y12.1.2.2.2.2.1 : Int) != 0)
 (k1 3)
 (I1 s1 y10.1 s3 s4 s5 s6 s7 (IntKind.wrap .i64 (s8 + 1)) s9))))))))
 (k2 s1 s3 s4 s5 s9)) → I1 s1 s2 s3 s4 s5 s6 s7 s8 s9) →
 I1 s1 s2 s3 s4 s5 s6 s7 s8 s9
structure l5r19 (k1 : Int → Prop) (k2 : (List tLF) → (List tLF) → Int → Int → (tLF) → Prop) (s1 : List tLF) (s2 : Int) (s3 : List tLF) (s4 : Int) (s5 : Int) (s6 : List (Int × Int × Unit)) (s7 : Int) (s8 : Int) (s9 : tLF) : Prop where
 of : tl5r19 k1 k2 s1 s2 s3 s4 s5 s6 s7 s8 s9

def tl5r30 (k1 : Int → Prop) (k2 : (List tLF) → (List tLF) → Int → Int → Prop) (s1 : List tLF) (s2 : Int) (s3 : List tLF) (s4 : Int) (s5 : Int) (s6 : List (Int × Bool × (List Int) × Int × Unit)) (s7 : Int) (s8 : Int) (s9 : tLF) : Prop :=
 ∀ (I1 : (List tLF) → Int → (List tLF) → Int → Int → (List (Int × Bool × (List Int) × Int × Unit)) → Int → Int → (tLF) → Prop),
 (∀ (s1 : List tLF) (s2 : Int) (s3 : List tLF) (s4 : Int) (s5 : Int) (s6 : List (Int × Bool × (List Int) × Int × Unit)) (s7 : Int) (s8 : Int) (s9 : tLF), (br (decide ((s8 : Int) < s7))
 (need False (at? s6 s8) fun y10 =>
 br (decide ((y10.1 : Int) ≤ s2))
 (k1 4)
 (br (decide ((y10.1 : Int) ≥ (((List.length s9.2.1) : Nat) : Int)))
 (k1 4)
 (br (y10.2.1)
 (br ((y10.1 : Int) == (IntKind.wrap .i64 ((((List.length s9.2.1) : Nat) : Int) - 1)))
 (k1 4)
 (I1 s1 y10.1 s3 s4 s5 s6 s7 (IntKind.wrap .i64 (s8 + 1)) s9))
 (I1 s1 y10.1 s3 s4 s5 s6 s7 (IntKind.wrap .i64 (s8 + 1)) s9))))
 (k2 s1 s3 s4 s5)) → I1 s1 s2 s3 s4 s5 s6 s7 s8 s9) →
 I1 s1 s2 s3 s4 s5 s6 s7 s8 s9
structure l5r30 (k1 : Int → Prop) (k2 : (List tLF) → (List tLF) → Int → Int → Prop) (s1 : List tLF) (s2 : Int) (s3 : List tLF) (s4 : Int) (s5 : Int) (s6 : List (Int × Bool × (List Int) × Int × Unit)) (s7 : Int) (s8 : Int) (s9 : tLF) : Prop where
 of : tl5r30 k1 k2 s1 s2 s3 s4 s5 s6 s7 s8 s9

def tl5r4 (k1 : Int → Prop) (k2 : Prop) (s1 : List tLF) (s2 : List tLF) (s3 : Int) (s4 : Int) : Prop :=
 ∀ (I1 : (List tLF) → (List tLF) → Int → Int → Prop),
 (∀ (s1 : List tLF) (s2 : List tLF) (s3 : Int) (s4 : Int), (br (decide ((s4 : Int) < s3))
 (need False (at? s2 s4) fun y5 =>
 c12 y5.2.1
 (fun z6 => br ((z6 : Int) != 0)
 (k1 z6)
 (br (((((List.length y5.2.1) : Nat) : Int) : Int) == 0)
 (k1 4)
 (c13 y5.2.2.2.2.1 1 4096
 (fun z7 => br (!z7)
 (k1 4)
 (l5r12
 (fun z8 => k1 z8)
 (fun z9 z10 z11 z12 z13 => l5r19
 (fun z14 => k1 z14)
 (fun z15 z16 z17 z18 z19 => l5r30
 (fun z20 => k1 z20)
 (fun z21 z22 z23 z24 => I1 z21 z22 z23 (IntKind.wrap .i64 (z24 + 1)))
 z15 (-1) z16 z17 z18 z19.2.2.2.1 (((List.length z19.2.2.2.1) : Nat) : Int) 0 z19)
 z9 (-1) z10 z11 z12 z13.2.2.1 (((List.length z13.2.2.1) : Nat) : Int) 0 z13)
 s1 s2 s3 s4 y5.2.1 (((List.length y5.2.1) : Nat) : Int) 0 y5))))))
 (k2)) → I1 s1 s2 s3 s4) →
 I1 s1 s2 s3 s4
structure l5r4 (k1 : Int → Prop) (k2 : Prop) (s1 : List tLF) (s2 : List tLF) (s3 : Int) (s4 : Int) : Prop where
 of : tl5r4 k1 k2 s1 s2 s3 s4

def tc5 (x1 : List tLF) (k1 : Int → Prop) : Prop :=
 br (decide (((((List.length x1) : Nat) : Int) : Int) > 256))
 (k1 2)
 (l5r4
 (fun z2 => k1 z2)
 (k1 0)
 x1 x1 (((List.length x1) : Nat) : Int) 0)
structure c5 (x1 : List tLF) (k1 : Int → Prop) : Prop where
 of : tc5 x1 k1

def tl3r9 (k1 : (List tLF) → Bool → Int → Bool → Int → (List Int) → Prop) (s1 : List tLF) (s2 : Bool) (s3 : Int) (s4 : Bool) (s5 : Int) (s6 : Int) (s7 : Int) (s8 : List Int) : Prop :=
 ∀ (I1 : (List tLF) → Bool → Int → Bool → Int → Int → Int → (List Int) → Prop),
 (∀ (s1 : List tLF) (s2 : Bool) (s3 : Int) (s4 : Bool) (s5 : Int) (s6 : Int) (s7 : Int) (s8 : List Int), (br (decide ((s7 : Int) < s6))
 (br (roomB ((List.length s8) + 1) 8)
 (I1 s1 s2 s3 s4 s5 s6 (IntKind.wrap .i64 (s7 + 1)) (s8 ++ [s7]))
 (False /- 61 -/))
 (k1 s1 s2 s3 s4 s5 s8)) → I1 s1 s2 s3 s4 s5 s6 s7 s8) →
 I1 s1 s2 s3 s4 s5 s6 s7 s8
structure l3r9 (k1 : (List tLF) → Bool → Int → Bool → Int → (List Int) → Prop) (s1 : List tLF) (s2 : Bool) (s3 : Int) (s4 : Bool) (s5 : Int) (s6 : Int) (s7 : Int) (s8 : List Int) : Prop where
 of : tl3r9 k1 s1 s2 s3 s4 s5 s6 s7 s8

def tl7r4 (k1 : (List tLF) → Int → (List Bool) → Prop) (s1 : List tLF) (s2 : Int) (s3 : Int) (s4 : Int) (s5 : List Bool) : Prop :=
 ∀ (I1 : (List tLF) → Int → Int → Int → (List Bool) → Prop),
 (∀ (s1 : List tLF) (s2 : Int) (s3 : Int) (s4 : Int) (s5 : List Bool), (br (decide ((s4 : Int) < s3))
 (br (decide ((0 : Int) ≤ s4 ∧ (s4 : Int) < (((List.length s5) : Nat) : Int)))
 (need False (s5)[(Int.toNat s4)]? fun y6 =>
 I1 s1 s2 s3 (IntKind.wrap .i64 (s4 + 1)) (List.set s5 (Int.toNat s4) true))
 (False /- 39 -/))
 (k1 s1 s2 s5)) → I1 s1 s2 s3 s4 s5) →
 I1 s1 s2 s3 s4 s5
structure l7r4 (k1 : (List tLF) → Int → (List Bool) → Prop) (s1 : List tLF) (s2 : Int) (s3 : Int) (s4 : Int) (s5 : List Bool) : Prop where
 of : tl7r4 k1 s1 s2 s3 s4 s5

def tl16r4 (k1 : Bool → Prop) (k2 : (List Bool) → Int → (tLF) → (tLF) → Prop) (s1 : List Bool) (s2 : Int) (s3 : Int) (s4 : Int) (s5 : tLF) (s6 : tLF) : Prop :=
 ∀ (I1 : (List Bool) → Int → Int → Int → (tLF) → (tLF) → Prop),
 (∀ (s1 : List Bool) (s2 : Int) (s3 : Int) (s4 : Int) (s5 : tLF) (s6 : tLF), (br (decide ((s4 : Int) < s3))
 (need False (at? s5.2.1 s4) fun y7 =>
 need False (at? s6.2.1 s4) fun y8 =>
 br (!((((y7.1.1 : Int) == y8.1.1) && (((y7.1.2.1 : Int) == y8.1.2.1) && (((y7.1.2.2.1 : Int) == y8.1.2.2.1) && (((y7.1.2.2.2.1 : Int) == y8.1.2.2.2.1) && (((y7.1.2.2.2.2.1 : Int) == y8.1.2.2.2.2.1) && true))))) && (((y7.2.1 : Int) == y8.2.1) && true)))
 (k1 false)
 (I1 s1 s2 s3 (IntKind.wrap .i64 (s4 + 1)) s5 s6))
 (k2 s1 s2 s5 s6)) → I1 s1 s2 s3 s4 s5 s6) →
 I1 s1 s2 s3 s4 s5 s6
structure l16r4 (k1 : Bool → Prop) (k2 : (List Bool) → Int → (tLF) → (tLF) → Prop) (s1 : List Bool) (s2 : Int) (s3 : Int) (s4 : Int) (s5 : tLF) (s6 : tLF) : Prop where
 of : tl16r4 k1 k2 s1 s2 s3 s4 s5 s6

def tl16r10 (k1 : Bool → Prop) (k2 : (tLF) → (tLF) → Prop) (s1 : List Bool) (s2 : Int) (s3 : Int) (s4 : Int) (s5 : tLF) (s6 : tLF) : Prop :=
 ∀ (I1 : (List Bool) → Int → Int → Int → (tLF) → (tLF) → Prop),
 (∀ (s1 : List Bool) (s2 : Int) (s3 : Int) (s4 : Int) (s5 : tLF) (s6 : tLF), (br (decide ((s4 : Int) < s3))
 (need False (at? s5.2.2.1 s4) fun y7 =>
 need False (at? s6.2.2.1 s4) fun y8 =>
 br ((y7.1 : Int) != y8.1)
 (k1 false)
 (need False (at? s5.2.2.1 s4) fun y9 =>
 need False (at? s6.2.2.1 s4) fun y10 =>
 need False (at? s1 (IntKind.wrap .i64 ((IntKind.wrap .i64 (y9.2.1 * s2)) + y10.2.1))) fun y11 =>
 br (!y11)
 (k1 false)
 (I1 s1 s2 s3 (IntKind.wrap .i64 (s4 + 1)) s5 s6)))
 (k2 s5 s6)) → I1 s1 s2 s3 s4 s5 s6) →
 I1 s1 s2 s3 s4 s5 s6
structure l16r10 (k1 : Bool → Prop) (k2 : (tLF) → (tLF) → Prop) (s1 : List Bool) (s2 : Int) (s3 : Int) (s4 : Int) (s5 : tLF) (s6 : tLF) : Prop where
 of : tl16r10 k1 k2 s1 s2 s3 s4 s5 s6

def tl16r16 (k1 : Bool → Prop) (k2 : Prop) (s1 : Int) (s2 : Int) (s3 : tLF) (s4 : tLF) : Prop :=
 ∀ (I1 : Int → Int → (tLF) → (tLF) → Prop),
 (∀ (s1 : Int) (s2 : Int) (s3 : tLF) (s4 : tLF), (br (decide ((s2 : Int) < s1))
 (need False (at? s3.2.2.2.1 s2) fun y5 =>
 need False (at? s4.2.2.2.1 s2) fun y6 =>
 (br (true && true)
 (br (eqT (.sl (.pair (.int .i64) (.pair .bool (.pair (.sl (.int .i64)) (.pair (.int .i64) .unit))))) s3.2.2.2.1 s3.2.2.2.1)
 (br (eqT (.int .i64) s2 s2)
 (need False (at? s3.2.2.2.1 s2) fun y7 =>
 br (eqT (.pair (.int .i64) (.pair .bool (.pair (.sl (.int .i64)) (.pair (.int .i64) .unit)))) y5 y7)
 (br (eqT (.pair (.int .i64) (.pair .bool (.pair (.sl (.int .i64)) (.pair (.int .i64) .unit)))) y5 y5)
 (br (true && true)
 (br (eqT (.sl (.pair (.int .i64) (.pair .bool (.pair (.sl (.int .i64)) (.pair (.int .i64) .unit))))) s4.2.2.2.1 s4.2.2.2.1)
 (br (eqT (.int .i64) s2 s2)
 (need False (at? s4.2.2.2.1 s2) fun y8 =>
 br (eqT (.pair (.int .i64) (.pair .bool (.pair (.sl (.int .i64)) (.pair (.int .i64) .unit)))) y6 y8)
 (br (eqT (.pair (.int .i64) (.pair .bool (.pair (.sl (.int .i64)) (.pair (.int .i64) .unit)))) y6 y6)
 (br (true && true)
 (br (eqT (.sl (.pair (.int .i64) (.pair .bool (.pair (.sl (.int .i64)) (.pair (.int .i64) .unit))))) s3.2.2.2.1 s3.2.2.2.1)
 (br (eqT (.int .i64) s2 s2)
 (need False (at? s3.2.2.2.1 s2) fun y9 =>
 br (eqT (.pair (.int .i64) (.pair .bool (.pair (.sl (.int .i64)) (.pair (.int .i64) .unit)))) y5 y9)
 (br (eqT (.pair (.int .i64) (.pair .bool (.pair (.sl (.int .i64)) (.pair (.int .i64) .unit)))) y5 y5)
 (br (true && true)
 (br (eqT (.sl (.pair (.int .i64) (.pair .bool (.pair (.sl (.int .i64)) (.pair (.int .i64) .unit))))) s4.2.2.2.1 s4.2.2.2.1)
 (br (eqT (.int .i64) s2 s2)
 (need False (at? s4.2.2.2.1 s2) fun y10 =>
 br (eqT (.pair (.int .i64) (.pair .bool (.pair (.sl (.int .i64)) (.pair (.int .i64) .unit)))) y6 y10)
 (br (eqT (.pair (.int .i64) (.pair .bool (.pair (.sl (.int .i64)) (.pair (.int .i64) .unit)))) y6 y6)
 (br (true && true)
 (br (eqT (.sl (.pair (.int .i64) (.pair .bool (.pair (.sl (.int .i64)) (.pair (.int .i64) .unit))))) s4.2.2.2.1 s4.2.2.2.1)
 (br (eqT (.int .i64) s2 s2)
 (need False (at? s4.2.2.2.1 s2) fun y11 =>
 br (eqT (.pair (.int .i64) (.pair .bool (.pair (.sl (.int .i64)) (.pair (.int .i64) .unit)))) y6 y11)
 (br (eqT (.pair (.int .i64) (.pair .bool (.pair (.sl (.int .i64)) (.pair (.int .i64) .unit)))) y6 y6)
 (br ((y5.1 : Int) != y6.1)
 (k1 false)
 (br (!((y5.2.1 : Bool) == y6.2.1))
 (k1 false)
 (br ((y5.2.2.2.1 : Int) != y6.2.2.2.1)
 (k1 false)
 (c10 y5.2.2.1 y6.2.2.1
 (fun z12 => br (!z12)
 (k1 false)
 (I1 s1 (IntKind.wrap .i64 (s2 + 1)) s3 s4))))))
 (False /- 942 -/))
 (False /- 942 -/))
 (False /- 942 -/))
 (False /- 942 -/))
 (False /- 942 -/))
 (False /- 942 -/))
 (False /- 942 -/))
 (False /- 942 -/))
 (False /- 942 -/))
 (False /- 942 -/))
 (False /- 942 -/))
 (False /- 942 -/))
 (False /- 942 -/))
 (False /- 942 -/))
 (False /- 942 -/))
 (False /- 942 -/))
 (False /- 942 -/))
 (False /- 942 -/))
 (False /- 942 -/))
 (False /- 942 -/))
 (False /- 942 -/))
 (False /- 942 -/))
 (False /- 942 -/))
 (False /- 942 -/))
 (False /- 942 -/)) ∧
 (br (true && true)
 (br (eqT (.sl (.pair (.int .i64) (.pair .bool (.pair (.sl (.int .i64)) (.pair (.int .i64) .unit))))) s3.2.2.2.1 s3.2.2.2.1)
 (br (eqT (.int .i64) s2 s2)
 (need False (at? s3.2.2.2.1 s2) fun y13 =>
 br (eqT (.pair (.int .i64) (.pair .bool (.pair (.sl (.int .i64)) (.pair (.int .i64) .unit)))) y5 y13)
 (br (eqT (.pair (.int .i64) (.pair .bool (.pair (.sl (.int .i64)) (.pair (.int .i64) .unit)))) y5 y5)
 (br (true && true)
 (br (eqT (.sl (.pair (.int .i64) (.pair .bool (.pair (.sl (.int .i64)) (.pair (.int .i64) .unit))))) s4.2.2.2.1 s4.2.2.2.1)
 (br (eqT (.int .i64) s2 s2)
 (need False (at? s4.2.2.2.1 s2) fun y14 =>
 br (eqT (.pair (.int .i64) (.pair .bool (.pair (.sl (.int .i64)) (.pair (.int .i64) .unit)))) y6 y14)
 (br (eqT (.pair (.int .i64) (.pair .bool (.pair (.sl (.int .i64)) (.pair (.int .i64) .unit)))) y6 y6)
 (br (true && true)
 (br (eqT (.sl (.pair (.int .i64) (.pair .bool (.pair (.sl (.int .i64)) (.pair (.int .i64) .unit))))) s3.2.2.2.1 s3.2.2.2.1)
 (br (eqT (.int .i64) s2 s2)
 (need False (at? s3.2.2.2.1 s2) fun y15 =>
 br (eqT (.pair (.int .i64) (.pair .bool (.pair (.sl (.int .i64)) (.pair (.int .i64) .unit)))) y5 y15)
 (br (eqT (.pair (.int .i64) (.pair .bool (.pair (.sl (.int .i64)) (.pair (.int .i64) .unit)))) y5 y5)
 (br (true && true)
 (br (eqT (.sl (.pair (.int .i64) (.pair .bool (.pair (.sl (.int .i64)) (.pair (.int .i64) .unit))))) s4.2.2.2.1 s4.2.2.2.1)
 (br (eqT (.int .i64) s2 s2)
 (need False (at? s4.2.2.2.1 s2) fun y16 =>
 br (eqT (.pair (.int .i64) (.pair .bool (.pair (.sl (.int .i64)) (.pair (.int .i64) .unit)))) y6 y16)
 (br (eqT (.pair (.int .i64) (.pair .bool (.pair (.sl (.int .i64)) (.pair (.int .i64) .unit)))) y6 y6)
 (br (true && true)
 (br (eqT (.sl (.pair (.int .i64) (.pair .bool (.pair (.sl (.int .i64)) (.pair (.int .i64) .unit))))) s4.2.2.2.1 s4.2.2.2.1)
 (br (eqT (.int .i64) s2 s2)
 (need False (at? s4.2.2.2.1 s2) fun y17 =>
 br (eqT (.pair (.int .i64) (.pair .bool (.pair (.sl (.int .i64)) (.pair (.int .i64) .unit)))) y6 y17)
 (br (eqT (.pair (.int .i64) (.pair .bool (.pair (.sl (.int .i64)) (.pair (.int .i64) .unit)))) y6 y6)
 (br ((y5.1 : Int) != y6.1)
 (k1 false)
 (br (!((y5.2.1 : Bool) == y6.2.1))
 (k1 false)
 (br ((y5.2.2.2.1 : Int) != y6.2.2.2.1)
 (k1 false)
 (c10 y5.2.2.1 y6.2.2.1
 (fun z18 => br (!z18)
 (k1 false)
 (I1 s1 (IntKind.wrap .i64 (s2 + 1)) s3 s4))))))
 (False /- 942 -/))
 (False /- 942 -/))
 (False /- 942 -/))
 (False /- 942 -/))
 (False /- 942 -/))
 (False /- 942 -/))
 (False /- 942 -/))
 (False /- 942 -/))
 (False /- 942 -/))
 (False /- 942 -/))
 (False /- 942 -/))
 (False /- 942 -/))
 (False /- 942 -/))
 (False /- 942 -/))
 (False /- 942 -/))
 (False /- 942 -/))
 (False /- 942 -/))
 (False /- 942 -/))
 (False /- 942 -/))
 (False /- 942 -/))
 (False /- 942 -/))
 (False /- 942 -/))
 (False /- 942 -/))
 (False /- 942 -/))
 (False /- 942 -/)))
 (k2)) → I1 s1 s2 s3 s4) →
 I1 s1 s2 s3 s4
structure l16r16 (k1 : Bool → Prop) (k2 : Prop) (s1 : Int) (s2 : Int) (s3 : tLF) (s4 : tLF) : Prop where
 of : tl16r16 k1 k2 s1 s2 s3 s4

def tc16 (x1 : tLF) (x2 : tLF) (x3 : List Bool) (x4 : Int) (k1 : Bool → Prop) : Prop :=
 br ((x1.2.2.2.2.1 : Int) != x2.2.2.2.2.1)
 (k1 false)
 (br (((((List.length x1.2.1) : Nat) : Int) : Int) != (((List.length x2.2.1) : Nat) : Int))
 (k1 false)
 (br (((((List.length x1.2.2.1) : Nat) : Int) : Int) != (((List.length x2.2.2.1) : Nat) : Int))
 (k1 false)
 (br (((((List.length x1.2.2.2.1) : Nat) : Int) : Int) != (((List.length x2.2.2.2.1) : Nat) : Int))
 (k1 false)
 (l16r4
 (fun z5 => k1 z5)
 (fun z6 z7 z8 z9 => l16r10
 (fun z10 => k1 z10)
 (fun z11 z12 => l16r16
 (fun z13 => k1 z13)
 (k1 true)
 (((List.length z11.2.2.2.1) : Nat) : Int) 0 z11 z12)
 z6 z7 (((List.length z8.2.2.1) : Nat) : Int) 0 z8 z9)
 x3 x4 (((List.length x1.2.1) : Nat) : Int) 0 x1 x2))))
structure c16 (x1 : tLF) (x2 : tLF) (x3 : List Bool) (x4 : Int) (k1 : Bool → Prop) : Prop where
 of : tc16 x1 x2 x3 x4 k1

def tl7r15 (k1 : (List tLF) → Int → Bool → Int → Int → (List Bool) → Prop) (s1 : List tLF) (s2 : Int) (s3 : Bool) (s4 : Int) (s5 : Int) (s6 : Int) (s7 : Int) (s8 : Int) (s9 : List Bool) : Prop :=
 ∀ (I1 : (List tLF) → Int → Bool → Int → Int → Int → Int → Int → (List Bool) → Prop),
 (∀ (s1 : List tLF) (s2 : Int) (s3 : Bool) (s4 : Int) (s5 : Int) (s6 : Int) (s7 : Int) (s8 : Int) (s9 : List Bool), (br (decide ((s8 : Int) < s7))
 (br (decide ((0 : Int) ≤ (IntKind.wrap .i64 ((IntKind.wrap .i64 (s4 * s2)) + s8)) ∧ ((IntKind.wrap .i64 ((IntKind.wrap .i64 (s4 * s2)) + s8)) : Int) < (((List.length s9) : Nat) : Int)))
 (need False (s9)[(Int.toNat (IntKind.wrap .i64 ((IntKind.wrap .i64 (s4 * s2)) + s8)))]? fun y10 =>
 br (y10)
 (need False (at? s1 s4) fun y11 =>
 need False (at? s1 s8) fun y12 =>
 c16 y11 y12 s9 s2
 (fun z13 => br (!z13)
 (br (decide ((0 : Int) ≤ (IntKind.wrap .i64 ((IntKind.wrap .i64 (s4 * s2)) + s8)) ∧ ((IntKind.wrap .i64 ((IntKind.wrap .i64 (s4 * s2)) + s8)) : Int) < (((List.length s9) : Nat) : Int)))
 (need False (s9)[(Int.toNat (IntKind.wrap .i64 ((IntKind.wrap .i64 (s4 * s2)) + s8)))]? fun y14 =>
 I1 s1 s2 true s4 s5 s6 s7 (IntKind.wrap .i64 (s8 + 1)) (List.set s9 (Int.toNat (IntKind.wrap .i64 ((IntKind.wrap .i64 (s4 * s2)) + s8))) false))
 (False /- 39 -/))
 (I1 s1 s2 s3 s4 s5 s6 s7 (IntKind.wrap .i64 (s8 + 1)) s9)))
 (I1 s1 s2 s3 s4 s5 s6 s7 (IntKind.wrap .i64 (s8 + 1)) s9))
 (False /- 39 -/))
 (k1 s1 s2 s3 s5 s6 s9)) → I1 s1 s2 s3 s4 s5 s6 s7 s8 s9) →
 I1 s1 s2 s3 s4 s5 s6 s7 s8 s9
structure l7r15 (k1 : (List tLF) → Int → Bool → Int → Int → (List Bool) → Prop) (s1 : List tLF) (s2 : Int) (s3 : Bool) (s4 : Int) (s5 : Int) (s6 : Int) (s7 : Int) (s8 : Int) (s9 : List Bool) : Prop where
 of : tl7r15 k1 s1 s2 s3 s4 s5 s6 s7 s8 s9

def tl7r12 (k1 : (List tLF) → Int → Bool → (List Bool) → Prop) (s1 : List tLF) (s2 : Int) (s3 : Bool) (s4 : Int) (s5 : Int) (s6 : List Bool) : Prop :=
 ∀ (I1 : (List tLF) → Int → Bool → Int → Int → (List Bool) → Prop),
 (∀ (s1 : List tLF) (s2 : Int) (s3 : Bool) (s4 : Int) (s5 : Int) (s6 : List Bool), (br (decide ((s5 : Int) < s4))
 (l7r15
 (fun z7 z8 z9 z10 z11 z12 => I1 z7 z8 z9 z10 (IntKind.wrap .i64 (z11 + 1)) z12)
 s1 s2 s3 s5 s4 s5 s2 0 s6)
 (k1 s1 s2 s3 s6)) → I1 s1 s2 s3 s4 s5 s6) →
 I1 s1 s2 s3 s4 s5 s6
structure l7r12 (k1 : (List tLF) → Int → Bool → (List Bool) → Prop) (s1 : List tLF) (s2 : Int) (s3 : Bool) (s4 : Int) (s5 : Int) (s6 : List Bool) : Prop where
 of : tl7r12 k1 s1 s2 s3 s4 s5 s6

def tl7r9 (k1 : Int → (List Bool) → Prop) (s1 : List tLF) (s2 : Int) (s3 : Bool) (s4 : List Bool) : Prop :=
 ∀ (I1 : (List tLF) → Int → Bool → (List Bool) → Prop),
 (∀ (s1 : List tLF) (s2 : Int) (s3 : Bool) (s4 : List Bool), (br (s3)
 (l7r12
 (fun z5 z6 z7 z8 => I1 z5 z6 z7 z8)
 s1 s2 false s2 0 s4)
 (k1 s2 s4)) → I1 s1 s2 s3 s4) →
 I1 s1 s2 s3 s4
structure l7r9 (k1 : Int → (List Bool) → Prop) (s1 : List tLF) (s2 : Int) (s3 : Bool) (s4 : List Bool) : Prop where
 of : tl7r9 k1 s1 s2 s3 s4

def tl7r26 (k1 : Int → Int → Int → Int → (List Bool) → (List Int) → Prop) (s1 : Int) (s2 : Int) (s3 : Int) (s4 : Int) (s5 : Int) (s6 : List Bool) (s7 : List Int) : Prop :=
 ∀ (I1 : Int → Int → Int → Int → Int → (List Bool) → (List Int) → Prop),
 (∀ (s1 : Int) (s2 : Int) (s3 : Int) (s4 : Int) (s5 : Int) (s6 : List Bool) (s7 : List Int), (br (decide ((0 : Int) ≤ (IntKind.wrap .i64 ((IntKind.wrap .i64 (s2 * s1)) + s3)) ∧ ((IntKind.wrap .i64 ((IntKind.wrap .i64 (s2 * s1)) + s3)) : Int) < (((List.length s6) : Nat) : Int)))
 (need False (s6)[(Int.toNat (IntKind.wrap .i64 ((IntKind.wrap .i64 (s2 * s1)) + s3)))]? fun y8 =>
 br (!y8)
 (I1 s1 s2 (IntKind.wrap .i64 (s3 + 1)) s4 s5 s6 s7)
 (k1 s1 s3 s4 s5 s6 s7))
 (False /- 39 -/)) → I1 s1 s2 s3 s4 s5 s6 s7) →
 I1 s1 s2 s3 s4 s5 s6 s7
structure l7r26 (k1 : Int → Int → Int → Int → (List Bool) → (List Int) → Prop) (s1 : Int) (s2 : Int) (s3 : Int) (s4 : Int) (s5 : Int) (s6 : List Bool) (s7 : List Int) : Prop where
 of : tl7r26 k1 s1 s2 s3 s4 s5 s6 s7

def tl7r23 (k1 : (List Int) → Prop) (s1 : Int) (s2 : Int) (s3 : Int) (s4 : List Bool) (s5 : List Int) : Prop :=
 ∀ (I1 : Int → Int → Int → (List Bool) → (List Int) → Prop),
 (∀ (s1 : Int) (s2 : Int) (s3 : Int) (s4 : List Bool) (s5 : List Int), (br (decide ((s3 : Int) < s2))
 (l7r26
 (fun z6 z7 z8 z9 z10 z11 => br (roomB ((List.length z11) + 1) 8)
 (I1 z6 z8 (IntKind.wrap .i64 (z9 + 1)) z10 (z11 ++ [z7]))
 (False /- 61 -/))
 s1 s3 0 s2 s3 s4 s5)
 (k1 s5)) → I1 s1 s2 s3 s4 s5) →
 I1 s1 s2 s3 s4 s5
structure l7r23 (k1 : (List Int) → Prop) (s1 : Int) (s2 : Int) (s3 : Int) (s4 : List Bool) (s5 : List Int) : Prop where
 of : tl7r23 k1 s1 s2 s3 s4 s5

def tc7 (x1 : List tLF) (k1 : (List Int) → Prop) : Prop :=
 br (decide ((0 : Int) ≤ (IntKind.wrap .i64 ((((List.length x1) : Nat) : Int) * (((List.length x1) : Nat) : Int))) ∧ ((IntKind.wrap .i64 ((((List.length x1) : Nat) : Int) * (((List.length x1) : Nat) : Int))) : Int) ≤ (IntKind.wrap .i64 ((((List.length x1) : Nat) : Int) * (((List.length x1) : Nat) : Int))) ∧ (((IntKind.wrap .i64 ((((List.length x1) : Nat) : Int) * (((List.length x1) : Nat) : Int))) * 1) : Int) ≤ 140737488355328))
 (l7r4
 (fun z2 z3 z4 => l7r9
 (fun z5 z6 => l7r23
 (fun z7 => k1 z7)
 z5 z5 0 z6 [])
 z2 z3 true z4)
 x1 (((List.length x1) : Nat) : Int) (((List.length (List.replicate (Int.toNat (IntKind.wrap .i64 ((((List.length x1) : Nat) : Int) * (((List.length x1) : Nat) : Int)))) (false : Bool))) : Nat) : Int) 0 (List.replicate (Int.toNat (IntKind.wrap .i64 ((((List.length x1) : Nat) : Int) * (((List.length x1) : Nat) : Int)))) (false : Bool)))
 (False /- 111 -/)
structure c7 (x1 : List tLF) (k1 : (List Int) → Prop) : Prop where
 of : tc7 x1 k1

def tl8r7 (k1 : Int → (List Int) → Int → (List Int) → (List Int) → (List tMP) → (List tMK) → (List Int) → Prop) (k2 : (List tLF) → Int → Bool → (List Int) → Int → (List Int) → (List Int) → (List tMP) → (List tMK) → Prop) (s1 : List tLF) (s2 : Int) (s3 : Bool) (s4 : Int) (s5 : Int) (s6 : List Int) (s7 : Int) (s8 : List Int) (s9 : List Int) (s10 : List tMP) (s11 : List tMK) : Prop :=
 ∀ (I1 : (List tLF) → Int → Bool → Int → Int → (List Int) → Int → (List Int) → (List Int) → (List tMP) → (List tMK) → Prop),
 (∀ (s1 : List tLF) (s2 : Int) (s3 : Bool) (s4 : Int) (s5 : Int) (s6 : List Int) (s7 : Int) (s8 : List Int) (s9 : List Int) (s10 : List tMP) (s11 : List tMK), (br (decide ((s5 : Int) < s4))
 (br (decide ((0 : Int) ≤ s5 ∧ (s5 : Int) < (((List.length s6) : Nat) : Int)))
 (need False (s6)[(Int.toNat s5)]? fun y12 =>
 br (decide ((y12 : Int) < 0))
 (k1 3 s6 0 [] [] [] [] [])
 (br (decide ((y12 : Int) > s5))
 (k1 3 s6 0 [] [] [] [] [])
 (br (decide ((0 : Int) ≤ y12 ∧ (y12 : Int) < (((List.length s6) : Nat) : Int)))
 (need False (s6)[(Int.toNat y12)]? fun y13 =>
 br ((y13 : Int) != y12)
 (k1 3 s6 0 [] [] [] [] [])
 (I1 s1 s2 s3 s4 (IntKind.wrap .i64 (s5 + 1)) s6 s7 s8 s9 s10 s11))
 (False /- 39 -/))))
 (False /- 39 -/))
 (k2 s1 s2 s3 s6 s7 s8 s9 s10 s11)) → I1 s1 s2 s3 s4 s5 s6 s7 s8 s9 s10 s11) →
 I1 s1 s2 s3 s4 s5 s6 s7 s8 s9 s10 s11
structure l8r7 (k1 : Int → (List Int) → Int → (List Int) → (List Int) → (List tMP) → (List tMK) → (List Int) → Prop) (k2 : (List tLF) → Int → Bool → (List Int) → Int → (List Int) → (List Int) → (List tMP) → (List tMK) → Prop) (s1 : List tLF) (s2 : Int) (s3 : Bool) (s4 : Int) (s5 : Int) (s6 : List Int) (s7 : Int) (s8 : List Int) (s9 : List Int) (s10 : List tMP) (s11 : List tMK) : Prop where
 of : tl8r7 k1 k2 s1 s2 s3 s4 s5 s6 s7 s8 s9 s10 s11

def tl17r3 (k1 : (List tIT) → (List Int) → (List (List Int)) → Prop) (k2 : (List Int) → (List (List Int)) → (List tIT) → Prop) (s1 : Int) (s2 : List tIT) (s3 : Int) (s4 : Int) (s5 : List tIT) (s6 : List Int) (s7 : List (List Int)) : Prop :=
 ∀ (I1 : Int → (List tIT) → Int → Int → (List tIT) → (List Int) → (List (List Int)) → Prop) (I2 : Int → (List tIT) → Int → Int → (List Int) → (List (List Int)) → (List tIT) → Prop),
 (∀ (s1 : Int) (s2 : List tIT) (s3 : Int) (s4 : Int) (s5 : List tIT) (s6 : List Int) (s7 : List (List Int)), (br (decide ((s4 : Int) < s3))
 (need False (at? s2 s4) fun y8 =>
 br (decide ((y8.2.1 : Int) ≥ 0))
 (br (true)
 (br (true)
 (br (true)
 (br (true && true)
 (br (roomB ((List.length s5) + 1) 48)
 (br (true)
 (I2 s1 s2 s3 (IntKind.wrap .i64 (s4 + 1)) s6 s7 (s5 ++ [(y8.1, (IntKind.wrap .i64 (y8.2.1 + s1)), y8.2.2)]))
 (False /- 942 -/))
 (False /- 61 -/))
 (False /- 942 -/))
 (False /- 942 -/))
 (False /- 942 -/))
 (False /- 942 -/))
 (br (true)
 (br (true)
 (br (true)
 (br (true && true)
 (br (roomB ((List.length s5) + 1) 48)
 (br (true)
 (I2 s1 s2 s3 (IntKind.wrap .i64 (s4 + 1)) s6 s7 (s5 ++ [y8]))
 (False /- 942 -/))
 (False /- 61 -/))
 (False /- 942 -/))
 (False /- 942 -/))
 (False /- 942 -/))
 (False /- 942 -/)))
 (k1 s5 s6 s7)) → I1 s1 s2 s3 s4 s5 s6 s7) →
 (∀ (s9 : Int) (s10 : List tIT) (s11 : Int) (s12 : Int) (s13 : List Int) (s14 : List (List Int)) (s15 : List tIT), (br (decide ((s12 : Int) < s11))
 (need False (at? s10 s12) fun y16 =>
 br (decide ((y16.2.1 : Int) ≥ 0))
 (br (true)
 (br (true)
 (br (true)
 (br (true && true)
 (br (roomB ((List.length s15) + 1) 48)
 (br (true)
 (I2 s9 s10 s11 (IntKind.wrap .i64 (s12 + 1)) s13 s14 (s15 ++ [(y16.1, (IntKind.wrap .i64 (y16.2.1 + s9)), y16.2.2)]))
 (False /- 942 -/))
 (False /- 61 -/))
 (False /- 942 -/))
 (False /- 942 -/))
 (False /- 942 -/))
 (False /- 942 -/))
 (br (true)
 (br (true)
 (br (true)
 (br (true && true)
 (br (roomB ((List.length s15) + 1) 48)
 (br (true)
 (I2 s9 s10 s11 (IntKind.wrap .i64 (s12 + 1)) s13 s14 (s15 ++ [y16]))
 (False /- 942 -/))
 (False /- 61 -/))
 (False /- 942 -/))
 (False /- 942 -/))
 (False /- 942 -/))
 (False /- 942 -/)))
 (k2 s13 s14 s15)) → I2 s9 s10 s11 s12 s13 s14 s15) →
 I1 s1 s2 s3 s4 s5 s6 s7
structure l17r3 (k1 : (List tIT) → (List Int) → (List (List Int)) → Prop) (k2 : (List Int) → (List (List Int)) → (List tIT) → Prop) (s1 : Int) (s2 : List tIT) (s3 : Int) (s4 : Int) (s5 : List tIT) (s6 : List Int) (s7 : List (List Int)) : Prop where
 of : tl17r3 k1 k2 s1 s2 s3 s4 s5 s6 s7

def tc17 (x1 : tLF) (x2 : List tIT) (x3 : List Int) (x4 : List (List Int)) (k1 : (List tIT) → (List Int) → (List (List Int)) → Prop) (k2 : (List Int) → (List (List Int)) → (List tIT) → Prop) : Prop :=
 l17r3
 (fun z5 z6 z7 => k1 z5 z6 z7)
 (fun z8 z9 z10 => k2 z8 z9 z10)
 (((List.length x2) : Nat) : Int) x1.2.1 (((List.length x1.2.1) : Nat) : Int) 0 x2 x3 x4
structure c17 (x1 : tLF) (x2 : List tIT) (x3 : List Int) (x4 : List (List Int)) (k1 : (List tIT) → (List Int) → (List (List Int)) → Prop) (k2 : (List Int) → (List (List Int)) → (List tIT) → Prop) : Prop where
 of : tc17 x1 x2 x3 x4 k1 k2

def tl8r16 (k1 : (List tLF) → Int → Bool → (List Int) → Int → (List Int) → (List Int) → (List tMP) → (List tMK) → (List tIT) → (List Int) → (List (List Int)) → Prop) (s1 : List tLF) (s2 : Int) (s3 : Bool) (s4 : List tLF) (s5 : Int) (s6 : Int) (s7 : List Int) (s8 : Int) (s9 : List Int) (s10 : List Int) (s11 : List tMP) (s12 : List tMK) (s13 : List tIT) (s14 : List Int) (s15 : List (List Int)) : Prop :=
 ∀ (I1 : (List tLF) → Int → Bool → (List tLF) → Int → Int → (List Int) → Int → (List Int) → (List Int) → (List tMP) → (List tMK) → (List tIT) → (List Int) → (List (List Int)) → Prop),
 (∀ (s1 : List tLF) (s2 : Int) (s3 : Bool) (s4 : List tLF) (s5 : Int) (s6 : Int) (s7 : List Int) (s8 : Int) (s9 : List Int) (s10 : List Int) (s11 : List tMP) (s12 : List tMK) (s13 : List tIT) (s14 : List Int) (s15 : List (List Int)), (br (decide ((s6 : Int) < s5))
 (need False (at? s4 s6) fun y16 =>
 br (roomB ((List.length s14) + 1) 8)
 (br (decide ((0 : Int) ≤ s6 ∧ (s6 : Int) < (((List.length s7) : Nat) : Int)))
 (need False (s7)[(Int.toNat s6)]? fun y17 =>
 br ((y17 : Int) == s6)
 (br (decide ((0 : Int) ≤ s6 ∧ (s6 : Int) < (((List.length (s14 ++ [(-1)])) : Nat) : Int)))
 (need False ((s14 ++ [(-1)]))[(Int.toNat s6)]? fun y18 =>
 c17 y16 s13 (List.set (s14 ++ [(-1)]) (Int.toNat s6) (((List.length s13) : Nat) : Int)) s15
 (fun z19 z20 z21 => I1 s1 s2 s3 s4 s5 (IntKind.wrap .i64 (s6 + 1)) s7 s8 s9 s10 s11 s12 z19 z20 z21)
 (fun z22 z23 z24 => I1 s1 s2 s3 s4 s5 (IntKind.wrap .i64 (s6 + 1)) s7 s8 s9 s10 s11 s12 z24 z22 z23))
 (False /- 39 -/))
 (I1 s1 s2 s3 s4 s5 (IntKind.wrap .i64 (s6 + 1)) s7 s8 s9 s10 s11 s12 s13 (s14 ++ [(-1)]) s15))
 (False /- 39 -/))
 (False /- 61 -/))
 (k1 s1 s2 s3 s7 s8 s9 s10 s11 s12 s13 s14 s15)) → I1 s1 s2 s3 s4 s5 s6 s7 s8 s9 s10 s11 s12 s13 s14 s15) →
 I1 s1 s2 s3 s4 s5 s6 s7 s8 s9 s10 s11 s12 s13 s14 s15
structure l8r16 (k1 : (List tLF) → Int → Bool → (List Int) → Int → (List Int) → (List Int) → (List tMP) → (List tMK) → (List tIT) → (List Int) → (List (List Int)) → Prop) (s1 : List tLF) (s2 : Int) (s3 : Bool) (s4 : List tLF) (s5 : Int) (s6 : Int) (s7 : List Int) (s8 : Int) (s9 : List Int) (s10 : List Int) (s11 : List tMP) (s12 : List tMK) (s13 : List tIT) (s14 : List Int) (s15 : List (List Int)) : Prop where
 of : tl8r16 k1 s1 s2 s3 s4 s5 s6 s7 s8 s9 s10 s11 s12 s13 s14 s15

def tl18r2 (k1 : (List tIT) → (List Int) → (List (List Int)) → Prop) (k2 : (List tIT) → (List Int) → (List (List Int)) → Prop) (s1 : Int) (s2 : List Int) (s3 : List (Int × Int × Unit)) (s4 : Int) (s5 : Int) (s6 : List tIT) (s7 : List Int) (s8 : List (List Int)) : Prop :=
 ∀ (I1 : Int → (List Int) → (List (Int × Int × Unit)) → Int → Int → (List tIT) → (List Int) → (List (List Int)) → Prop) (I2 : Int → (List Int) → (List (Int × Int × Unit)) → Int → Int → (List tIT) → (List Int) → (List (List Int)) → Prop),
 (∀ (s1 : Int) (s2 : List Int) (s3 : List (Int × Int × Unit)) (s4 : Int) (s5 : Int) (s6 : List tIT) (s7 : List Int) (s8 : List (List Int)), (br (decide ((s5 : Int) < s4))
 (need False (at? s3 s5) fun y9 =>
 br (decide ((0 : Int) ≤ (IntKind.wrap .i64 (s1 + y9.1)) ∧ ((IntKind.wrap .i64 (s1 + y9.1)) : Int) < (((List.length s6) : Nat) : Int)))
 (need False (at? s2 y9.2.1) fun y10 =>
 br (decide ((0 : Int) ≤ y10 ∧ (y10 : Int) < (((List.length s7) : Nat) : Int)))
 (need False (s7)[(Int.toNat y10)]? fun y11 =>
 need False (s6)[(Int.toNat (IntKind.wrap .i64 (s1 + y9.1)))]? fun y12 =>
 br ((y12.1.1 : Int) == 20)
 (need False (s6)[(Int.toNat (IntKind.wrap .i64 (s1 + y9.1)))]? fun y13 =>
 I1 s1 s2 s3 s4 (IntKind.wrap .i64 (s5 + 1)) (List.set s6 (Int.toNat (IntKind.wrap .i64 (s1 + y9.1))) (y13.1, y11, y13.2.2)) s7 s8)
 (need False (s6)[(Int.toNat (IntKind.wrap .i64 (s1 + y9.1)))]? fun y14 =>
 br (true)
 (br (true)
 (br (true)
 (br (true && true)
 (br (roomB ((List.length s8) + 1) 16)
 (br (true)
 (I2 s1 s2 s3 s4 (IntKind.wrap .i64 (s5 + 1)) (List.set s6 (Int.toNat (IntKind.wrap .i64 (s1 + y9.1))) ((y14.1.1, y14.1.2.1, y14.1.2.2.1, y14.1.2.2.2.1, 1048576, y14.1.2.2.2.2.2), y14.2)) s7 (s8 ++ [[(IntKind.wrap .i64 (s1 + y9.1)), y11]]))
 (False /- 942 -/))
 (False /- 61 -/))
 (False /- 942 -/))
 (False /- 942 -/))
 (False /- 942 -/))
 (False /- 942 -/)))
 (False /- 39 -/))
 (False /- 39 -/))
 (k1 s6 s7 s8)) → I1 s1 s2 s3 s4 s5 s6 s7 s8) →
 (∀ (s15 : Int) (s16 : List Int) (s17 : List (Int × Int × Unit)) (s18 : Int) (s19 : Int) (s20 : List tIT) (s21 : List Int) (s22 : List (List Int)), (br (decide ((s19 : Int) < s18))
 (need False (at? s17 s19) fun y23 =>
 br (decide ((0 : Int) ≤ (IntKind.wrap .i64 (s15 + y23.1)) ∧ ((IntKind.wrap .i64 (s15 + y23.1)) : Int) < (((List.length s20) : Nat) : Int)))
 (need False (at? s16 y23.2.1) fun y24 =>
 br (decide ((0 : Int) ≤ y24 ∧ (y24 : Int) < (((List.length s21) : Nat) : Int)))
 (need False (s21)[(Int.toNat y24)]? fun y25 =>
 need False (s20)[(Int.toNat (IntKind.wrap .i64 (s15 + y23.1)))]? fun y26 =>
 br ((y26.1.1 : Int) == 20)
 (need False (s20)[(Int.toNat (IntKind.wrap .i64 (s15 + y23.1)))]? fun y27 =>
 I2 s15 s16 s17 s18 (IntKind.wrap .i64 (s19 + 1)) (List.set s20 (Int.toNat (IntKind.wrap .i64 (s15 + y23.1))) (y27.1, y25, y27.2.2)) s21 s22)
 (need False (s20)[(Int.toNat (IntKind.wrap .i64 (s15 + y23.1)))]? fun y28 =>
 br (true)
 (br (true)
 (br (true)
 (br (true && true)
 (br (roomB ((List.length s22) + 1) 16)
 (br (true)
 (I2 s15 s16 s17 s18 (IntKind.wrap .i64 (s19 + 1)) (List.set s20 (Int.toNat (IntKind.wrap .i64 (s15 + y23.1))) ((y28.1.1, y28.1.2.1, y28.1.2.2.1, y28.1.2.2.2.1, 1048576, y28.1.2.2.2.2.2), y28.2)) s21 (s22 ++ [[(IntKind.wrap .i64 (s15 + y23.1)), y25]]))
 (False /- 942 -/))
 (False /- 61 -/))
 (False /- 942 -/))
 (False /- 942 -/))
 (False /- 942 -/))
 (False /- 942 -/)))
 (False /- 39 -/))
 (False /- 39 -/))
 (k2 s20 s21 s22)) → I2 s15 s16 s17 s18 s19 s20 s21 s22) →
 I1 s1 s2 s3 s4 s5 s6 s7 s8
structure l18r2 (k1 : (List tIT) → (List Int) → (List (List Int)) → Prop) (k2 : (List tIT) → (List Int) → (List (List Int)) → Prop) (s1 : Int) (s2 : List Int) (s3 : List (Int × Int × Unit)) (s4 : Int) (s5 : Int) (s6 : List tIT) (s7 : List Int) (s8 : List (List Int)) : Prop where
 of : tl18r2 k1 k2 s1 s2 s3 s4 s5 s6 s7 s8

def tc18 (x1 : tLF) (x2 : Int) (x3 : List Int) (x4 : List tIT) (x5 : List Int) (x6 : List (List Int)) (k1 : (List tIT) → (List Int) → (List (List Int)) → Prop) (k2 : (List tIT) → (List Int) → (List (List Int)) → Prop) : Prop :=
 l18r2
 (fun z7 z8 z9 => k1 z7 z8 z9)
 (fun z10 z11 z12 => k2 z10 z11 z12)
 x2 x3 x1.2.2.1 (((List.length x1.2.2.1) : Nat) : Int) 0 x4 x5 x6
structure c18 (x1 : tLF) (x2 : Int) (x3 : List Int) (x4 : List tIT) (x5 : List Int) (x6 : List (List Int)) (k1 : (List tIT) → (List Int) → (List (List Int)) → Prop) (k2 : (List tIT) → (List Int) → (List (List Int)) → Prop) : Prop where
 of : tc18 x1 x2 x3 x4 x5 x6 k1 k2

def tl8r25 (k1 : (List tLF) → Bool → (List Int) → Int → (List Int) → (List Int) → (List tMP) → (List tMK) → (List tIT) → (List Int) → (List (List Int)) → Prop) (s1 : List tLF) (s2 : Bool) (s3 : List tLF) (s4 : Int) (s5 : Int) (s6 : List Int) (s7 : Int) (s8 : List Int) (s9 : List Int) (s10 : List tMP) (s11 : List tMK) (s12 : List tIT) (s13 : List Int) (s14 : List (List Int)) : Prop :=
 ∀ (I1 : (List tLF) → Bool → (List tLF) → Int → Int → (List Int) → Int → (List Int) → (List Int) → (List tMP) → (List tMK) → (List tIT) → (List Int) → (List (List Int)) → Prop),
 (∀ (s1 : List tLF) (s2 : Bool) (s3 : List tLF) (s4 : Int) (s5 : Int) (s6 : List Int) (s7 : Int) (s8 : List Int) (s9 : List Int) (s10 : List tMP) (s11 : List tMK) (s12 : List tIT) (s13 : List Int) (s14 : List (List Int)), (br (decide ((s5 : Int) < s4))
 (need False (at? s3 s5) fun y15 =>
 br (decide ((0 : Int) ≤ s5 ∧ (s5 : Int) < (((List.length s6) : Nat) : Int)))
 (need False (s6)[(Int.toNat s5)]? fun y16 =>
 br ((y16 : Int) == s5)
 (br (decide ((0 : Int) ≤ s5 ∧ (s5 : Int) < (((List.length s13) : Nat) : Int)))
 (need False (s13)[(Int.toNat s5)]? fun y17 =>
 c18 y15 y17 s6 s12 s13 s14
 (fun z18 z19 z20 => I1 s1 s2 s3 s4 (IntKind.wrap .i64 (s5 + 1)) s6 s7 s8 s9 s10 s11 z18 z19 z20)
 (fun z21 z22 z23 => I1 s1 s2 s3 s4 (IntKind.wrap .i64 (s5 + 1)) s6 s7 s8 s9 s10 s11 z21 z22 z23))
 (False /- 39 -/))
 (I1 s1 s2 s3 s4 (IntKind.wrap .i64 (s5 + 1)) s6 s7 s8 s9 s10 s11 s12 s13 s14))
 (False /- 39 -/))
 (k1 s1 s2 s6 s7 s8 s9 s10 s11 s12 s13 s14)) → I1 s1 s2 s3 s4 s5 s6 s7 s8 s9 s10 s11 s12 s13 s14) →
 I1 s1 s2 s3 s4 s5 s6 s7 s8 s9 s10 s11 s12 s13 s14
structure l8r25 (k1 : (List tLF) → Bool → (List Int) → Int → (List Int) → (List Int) → (List tMP) → (List tMK) → (List tIT) → (List Int) → (List (List Int)) → Prop) (s1 : List tLF) (s2 : Bool) (s3 : List tLF) (s4 : Int) (s5 : Int) (s6 : List Int) (s7 : Int) (s8 : List Int) (s9 : List Int) (s10 : List tMP) (s11 : List tMK) (s12 : List tIT) (s13 : List Int) (s14 : List (List Int)) : Prop where
 of : tl8r25 k1 s1 s2 s3 s4 s5 s6 s7 s8 s9 s10 s11 s12 s13 s14

def tc49 (x1 : tOP) (k1 : Int → Prop) : Prop :=
 c40 x1.2.2.2.2.1 (-128) 127
 (fun z2 => br (z2)
 (k1 1)
 (k1 2))
structure c49 (x1 : tOP) (k1 : Int → Prop) : Prop where
 of : tc49 x1 k1

def tl42r6 (k1 : (List tIT) → (List Bool) → Prop) (s1 : List tIT) (s2 : List tIT) (s3 : Int) (s4 : Int) (s5 : List Bool) : Prop :=
 ∀ (I1 : (List tIT) → (List tIT) → Int → Int → (List Bool) → Prop),
 (∀ (s1 : List tIT) (s2 : List tIT) (s3 : Int) (s4 : Int) (s5 : List Bool), (br (decide ((s4 : Int) < s3))
 (need False (at? s2 s4) fun y6 =>
 br (decide ((y6.2.1 : Int) < 0))
 (c49 y6.1
 (fun z7 => br (decide ((0 : Int) ≤ s4 ∧ (s4 : Int) < (((List.length s5) : Nat) : Int)))
 (need False (s5)[(Int.toNat s4)]? fun y8 =>
 I1 s1 s2 s3 (IntKind.wrap .i64 (s4 + 1)) (List.set s5 (Int.toNat s4) ((z7 : Int) == 2)))
 (False /- 39 -/)))
 (br (decide ((0 : Int) ≤ s4 ∧ (s4 : Int) < (((List.length s5) : Nat) : Int)))
 (need False (s5)[(Int.toNat s4)]? fun y9 =>
 I1 s1 s2 s3 (IntKind.wrap .i64 (s4 + 1)) (List.set s5 (Int.toNat s4) false))
 (False /- 39 -/)))
 (k1 s1 s5)) → I1 s1 s2 s3 s4 s5) →
 I1 s1 s2 s3 s4 s5
structure l42r6 (k1 : (List tIT) → (List Bool) → Prop) (s1 : List tIT) (s2 : List tIT) (s3 : Int) (s4 : Int) (s5 : List Bool) : Prop where
 of : tl42r6 k1 s1 s2 s3 s4 s5

def tl43r3 (k1 : (List Int) → Prop) (s1 : List Bool) (s2 : Int) (s3 : Int) (s4 : List Int) : Prop :=
 ∀ (I1 : (List Bool) → Int → Int → (List Int) → Prop),
 (∀ (s1 : List Bool) (s2 : Int) (s3 : Int) (s4 : List Int), (br (decide ((s3 : Int) < s2))
 (need False (at? s1 s3) fun y5 =>
 br (y5)
 (br (decide ((0 : Int) ≤ s3 ∧ (s3 : Int) < (((List.length s4) : Nat) : Int)))
 (need False (s4)[(Int.toNat s3)]? fun y6 =>
 br (decide ((0 : Int) ≤ (IntKind.wrap .i64 (s3 + 1)) ∧ ((IntKind.wrap .i64 (s3 + 1)) : Int) < (((List.length s4) : Nat) : Int)))
 (need False (s4)[(Int.toNat (IntKind.wrap .i64 (s3 + 1)))]? fun y7 =>
 I1 s1 s2 (IntKind.wrap .i64 (s3 + 1)) (List.set s4 (Int.toNat (IntKind.wrap .i64 (s3 + 1))) (IntKind.wrap .i64 (y6 + 2))))
 (False /- 39 -/))
 (False /- 39 -/))
 (br (decide ((0 : Int) ≤ s3 ∧ (s3 : Int) < (((List.length s4) : Nat) : Int)))
 (need False (s4)[(Int.toNat s3)]? fun y8 =>
 br (decide ((0 : Int) ≤ (IntKind.wrap .i64 (s3 + 1)) ∧ ((IntKind.wrap .i64 (s3 + 1)) : Int) < (((List.length s4) : Nat) : Int)))
 (need False (s4)[(Int.toNat (IntKind.wrap .i64 (s3 + 1)))]? fun y9 =>
 I1 s1 s2 (IntKind.wrap .i64 (s3 + 1)) (List.set s4 (Int.toNat (IntKind.wrap .i64 (s3 + 1))) (IntKind.wrap .i64 (y8 + 1))))
 (False /- 39 -/))
 (False /- 39 -/)))
 (k1 s4)) → I1 s1 s2 s3 s4) →
 I1 s1 s2 s3 s4
structure l43r3 (k1 : (List Int) → Prop) (s1 : List Bool) (s2 : Int) (s3 : Int) (s4 : List Int) : Prop where
 of : tl43r3 k1 s1 s2 s3 s4

def tc43 (x1 : List tIT) (x2 : List Bool) (k1 : (List Int) → Prop) : Prop :=
 br (decide ((0 : Int) ≤ (IntKind.wrap .i64 ((((List.length x1) : Nat) : Int) + 1)) ∧ ((IntKind.wrap .i64 ((((List.length x1) : Nat) : Int) + 1)) : Int) ≤ (IntKind.wrap .i64 ((((List.length x1) : Nat) : Int) + 1)) ∧ (((IntKind.wrap .i64 ((((List.length x1) : Nat) : Int) + 1)) * 8) : Int) ≤ 140737488355328))
 (l43r3
 (fun z3 => k1 z3)
 x2 (((List.length x1) : Nat) : Int) 0 (List.replicate (Int.toNat (IntKind.wrap .i64 ((((List.length x1) : Nat) : Int) + 1))) (0 : Int)))
 (False /- 111 -/)
structure c43 (x1 : List tIT) (x2 : List Bool) (k1 : (List Int) → Prop) : Prop where
 of : tc43 x1 x2 k1

def tl42r15 (k1 : (List tIT) → Bool → (List Bool) → Prop) (s1 : List tIT) (s2 : Bool) (s3 : List tIT) (s4 : Int) (s5 : Int) (s6 : List Bool) (s7 : List Int) : Prop :=
 ∀ (I1 : (List tIT) → Bool → (List tIT) → Int → Int → (List Bool) → (List Int) → Prop),
 (∀ (s1 : List tIT) (s2 : Bool) (s3 : List tIT) (s4 : Int) (s5 : Int) (s6 : List Bool) (s7 : List Int), (br (decide ((s5 : Int) < s4))
 (need False (at? s3 s5) fun y8 =>
 br (decide ((y8.2.1 : Int) < 0))
 (I1 s1 s2 s3 s4 (IntKind.wrap .i64 (s5 + 1)) s6 s7)
 (br (decide ((0 : Int) ≤ s5 ∧ (s5 : Int) < (((List.length s6) : Nat) : Int)))
 (need False (s6)[(Int.toNat s5)]? fun y9 =>
 br (y9)
 (I1 s1 s2 s3 s4 (IntKind.wrap .i64 (s5 + 1)) s6 s7)
 (br (decide ((0 : Int) ≤ y8.2.1 ∧ (y8.2.1 : Int) < (((List.length s7) : Nat) : Int)))
 (need False (s7)[(Int.toNat y8.2.1)]? fun y10 =>
 br (decide ((0 : Int) ≤ s5 ∧ (s5 : Int) < (((List.length s7) : Nat) : Int)))
 (need False (s7)[(Int.toNat s5)]? fun y11 =>
 c49 (0, 0, 0, 0, (IntKind.wrap .i64 ((IntKind.wrap .i64 (y10 - y11)) - 1)), ())
 (fun z12 => br ((z12 : Int) == 2)
 (br (decide ((0 : Int) ≤ s5 ∧ (s5 : Int) < (((List.length s6) : Nat) : Int)))
 (need False (s6)[(Int.toNat s5)]? fun y13 =>
 I1 s1 true s3 s4 (IntKind.wrap .i64 (s5 + 1)) (List.set s6 (Int.toNat s5) true) s7)
 (False /- 39 -/))
 (I1 s1 s2 s3 s4 (IntKind.wrap .i64 (s5 + 1)) s6 s7)))
 (False /- 39 -/))
 (False /- 39 -/)))
 (False /- 39 -/)))
 (k1 s1 s2 s6)) → I1 s1 s2 s3 s4 s5 s6 s7) →
 I1 s1 s2 s3 s4 s5 s6 s7
structure l42r15 (k1 : (List tIT) → Bool → (List Bool) → Prop) (s1 : List tIT) (s2 : Bool) (s3 : List tIT) (s4 : Int) (s5 : Int) (s6 : List Bool) (s7 : List Int) : Prop where
 of : tl42r15 k1 s1 s2 s3 s4 s5 s6 s7

def tl42r11 (k1 : (List Bool) → Prop) (s1 : List tIT) (s2 : Bool) (s3 : List Bool) : Prop :=
 ∀ (I1 : (List tIT) → Bool → (List Bool) → Prop),
 (∀ (s1 : List tIT) (s2 : Bool) (s3 : List Bool), (br (s2)
 (c43 s1 s3
 (fun z4 => l42r15
 (fun z5 z6 z7 => I1 z5 z6 z7)
 s1 false s1 (((List.length s1) : Nat) : Int) 0 s3 z4))
 (k1 s3)) → I1 s1 s2 s3) →
 I1 s1 s2 s3
structure l42r11 (k1 : (List Bool) → Prop) (s1 : List tIT) (s2 : Bool) (s3 : List Bool) : Prop where
 of : tl42r11 k1 s1 s2 s3

def tc42 (x1 : List tIT) (k1 : Int → (List Bool) → Prop) : Prop :=
 c14 x1
 (fun z2 => br ((z2 : Int) != 0)
 (k1 z2 [])
 (br (decide ((0 : Int) ≤ (((List.length x1) : Nat) : Int) ∧ ((((List.length x1) : Nat) : Int) : Int) ≤ (((List.length x1) : Nat) : Int) ∧ (((((List.length x1) : Nat) : Int) * 1) : Int) ≤ 140737488355328))
 (l42r6
 (fun z3 z4 => l42r11
 (fun z5 => k1 0 z5)
 z3 true z4)
 x1 x1 (((List.length x1) : Nat) : Int) 0 (List.replicate (Int.toNat (((List.length x1) : Nat) : Int)) (false : Bool)))
 (False /- 111 -/)))
structure c42 (x1 : List tIT) (k1 : Int → (List Bool) → Prop) : Prop where
 of : tc42 x1 k1

def tl28r5 (k1 : (List tIT) → (List Bool) → Prop) (s1 : List tIT) (s2 : Bool) (s3 : List tIT) (s4 : Int) (s5 : Int) (s6 : List Bool) : Prop :=
 ∀ (I1 : (List tIT) → Bool → (List tIT) → Int → Int → (List Bool) → Prop),
 (∀ (s1 : List tIT) (s2 : Bool) (s3 : List tIT) (s4 : Int) (s5 : Int) (s6 : List Bool), (br (decide ((s5 : Int) < s4))
 (need False (at? s3 s5) fun y7 =>
 br (decide ((0 : Int) ≤ s5 ∧ (s5 : Int) < (((List.length s6) : Nat) : Int)))
 (need False (s6)[(Int.toNat s5)]? fun y8 =>
 br (y8)
 (br (decide ((0 : Int) ≤ s5 ∧ (s5 : Int) < (((List.length s6) : Nat) : Int)))
 (need False (s6)[(Int.toNat s5)]? fun y9 =>
 I1 s1 s2 s3 s4 (IntKind.wrap .i64 (s5 + 1)) (List.set s6 (Int.toNat s5) true))
 (False /- 39 -/))
 (br (s2)
 (br (decide ((0 : Int) ≤ s5 ∧ (s5 : Int) < (((List.length s6) : Nat) : Int)))
 (need False (s6)[(Int.toNat s5)]? fun y10 =>
 I1 s1 s2 s3 s4 (IntKind.wrap .i64 (s5 + 1)) (List.set s6 (Int.toNat s5) (decide ((y7.2.1 : Int) ≥ 0))))
 (False /- 39 -/))
 (br (decide ((0 : Int) ≤ s5 ∧ (s5 : Int) < (((List.length s6) : Nat) : Int)))
 (need False (s6)[(Int.toNat s5)]? fun y11 =>
 I1 s1 s2 s3 s4 (IntKind.wrap .i64 (s5 + 1)) (List.set s6 (Int.toNat s5) false))
 (False /- 39 -/))))
 (False /- 39 -/))
 (k1 s1 s6)) → I1 s1 s2 s3 s4 s5 s6) →
 I1 s1 s2 s3 s4 s5 s6
structure l28r5 (k1 : (List tIT) → (List Bool) → Prop) (s1 : List tIT) (s2 : Bool) (s3 : List tIT) (s4 : Int) (s5 : Int) (s6 : List Bool) : Prop where
 of : tl28r5 k1 s1 s2 s3 s4 s5 s6

def tc50 (x1 : tOP) (k1 : Int → Prop) : Prop :=
 k1 (bitop .or .i64 (bitop .or .i64 (bitop .or .i64 (shlI .i64 x1.1 27) (shlI .i64 x1.2.1 22)) (shlI .i64 x1.2.2.1 18)) (shlI .i64 x1.2.2.2.1 14))
structure c50 (x1 : tOP) (k1 : Int → Prop) : Prop where
 of : tc50 x1 k1

def tc45 (x1 : tOP) (k1 : Int → (List Int) → Prop) : Prop :=
 c26 x1
 (fun z2 => br ((z2 : Int) != 0)
 (k1 z2 [])
 (c50 x1
 (fun z3 => br (true && true)
 (br (eqT (.int .i64) x1.2.2.2.2.1 x1.2.2.2.2.1)
 (br (eqT (.int .i64) (bitop .and .i64 x1.2.2.2.2.1 4294967295) (bitop .and .i64 x1.2.2.2.2.1 4294967295))
 (k1 0 [(bitop .or .i64 z3 67108864), (bitop .and .i64 x1.2.2.2.2.1 4294967295)])
 (False /- 942 -/))
 (False /- 942 -/))
 (False /- 942 -/))))
structure c45 (x1 : tOP) (k1 : Int → (List Int) → Prop) : Prop where
 of : tc45 x1 k1

def tc44 (x1 : tOP) (k1 : Int → (List Int) → Prop) : Prop :=
 c26 x1
 (fun z2 => br ((z2 : Int) != 0)
 (k1 z2 [])
 (c49 x1
 (fun z3 => br ((z3 : Int) == 2)
 (c45 x1
 (fun z4 z5 => k1 z4 z5))
 (c50 x1
 (fun z6 => br (true && true)
 (br (eqT (.int .i64) x1.2.2.2.2.1 x1.2.2.2.2.1)
 (br (eqT (.int .i64) (bitop .and .i64 x1.2.2.2.2.1 255) (bitop .and .i64 x1.2.2.2.2.1 255))
 (k1 0 [(bitop .or .i64 z6 (bitop .and .i64 x1.2.2.2.2.1 255))])
 (False /- 942 -/))
 (False /- 942 -/))
 (False /- 942 -/))))))
structure c44 (x1 : tOP) (k1 : Int → (List Int) → Prop) : Prop where
 of : tc44 x1 k1

def tl28r14 (k1 : Int → (List Int) → (List Int) → Prop) (k2 : (List tIT) → (List Int) → (List Int) → Prop) (s1 : List tIT) (s2 : List tIT) (s3 : Int) (s4 : Int) (s5 : List Bool) (s6 : List Int) (s7 : List Int) : Prop :=
 ∀ (I1 : (List tIT) → (List tIT) → Int → Int → (List Bool) → (List Int) → (List Int) → Prop),
 (∀ (s1 : List tIT) (s2 : List tIT) (s3 : Int) (s4 : Int) (s5 : List Bool) (s6 : List Int) (s7 : List Int), (br (decide ((s4 : Int) < s3))
 (need False (at? s2 s4) fun y8 =>
 br (decide ((y8.2.1 : Int) ≥ 0))
 (br (decide ((0 : Int) ≤ y8.2.1 ∧ (y8.2.1 : Int) < (((List.length s6) : Nat) : Int)))
 (need False (s6)[(Int.toNat y8.2.1)]? fun y9 =>
 br (decide ((0 : Int) ≤ (IntKind.wrap .i64 (s4 + 1)) ∧ ((IntKind.wrap .i64 (s4 + 1)) : Int) < (((List.length s6) : Nat) : Int)))
 (need False (s6)[(Int.toNat (IntKind.wrap .i64 (s4 + 1)))]? fun y10 =>
 br (decide ((0 : Int) ≤ s4 ∧ (s4 : Int) < (((List.length s5) : Nat) : Int)))
 (need False (s5)[(Int.toNat s4)]? fun y11 =>
 br (y11)
 (c45 (y8.1.1, y8.1.2.1, y8.1.2.2.1, y8.1.2.2.2.1, (IntKind.wrap .i64 (y9 - y10)), y8.1.2.2.2.2.2)
 (fun z12 z13 => br ((z12 : Int) != 0)
 (k1 z12 [] [])
 (br (List.isEmpty z13)
 (I1 s1 s2 s3 (IntKind.wrap .i64 (s4 + 1)) s5 s6 s7)
 (br (roomB ((List.length s7) + (List.length z13)) 8)
 (I1 s1 s2 s3 (IntKind.wrap .i64 (s4 + 1)) s5 s6 (s7 ++ z13))
 (False /- 61 -/)))))
 (c44 (y8.1.1, y8.1.2.1, y8.1.2.2.1, y8.1.2.2.2.1, (IntKind.wrap .i64 (y9 - y10)), y8.1.2.2.2.2.2)
 (fun z14 z15 => br ((z14 : Int) != 0)
 (k1 z14 [] [])
 (br (List.isEmpty z15)
 (I1 s1 s2 s3 (IntKind.wrap .i64 (s4 + 1)) s5 s6 s7)
 (br (roomB ((List.length s7) + (List.length z15)) 8)
 (I1 s1 s2 s3 (IntKind.wrap .i64 (s4 + 1)) s5 s6 (s7 ++ z15))
 (False /- 61 -/))))))
 (False /- 39 -/))
 (False /- 39 -/))
 (False /- 39 -/))
 (br (decide ((0 : Int) ≤ s4 ∧ (s4 : Int) < (((List.length s5) : Nat) : Int)))
 (need False (s5)[(Int.toNat s4)]? fun y16 =>
 br (y16)
 (c45 y8.1
 (fun z17 z18 => br ((z17 : Int) != 0)
 (k1 z17 [] [])
 (br (List.isEmpty z18)
 (I1 s1 s2 s3 (IntKind.wrap .i64 (s4 + 1)) s5 s6 s7)
 (br (roomB ((List.length s7) + (List.length z18)) 8)
 (I1 s1 s2 s3 (IntKind.wrap .i64 (s4 + 1)) s5 s6 (s7 ++ z18))
 (False /- 61 -/)))))
 (c44 y8.1
 (fun z19 z20 => br ((z19 : Int) != 0)
 (k1 z19 [] [])
 (br (List.isEmpty z20)
 (I1 s1 s2 s3 (IntKind.wrap .i64 (s4 + 1)) s5 s6 s7)
 (br (roomB ((List.length s7) + (List.length z20)) 8)
 (I1 s1 s2 s3 (IntKind.wrap .i64 (s4 + 1)) s5 s6 (s7 ++ z20))
 (False /- 61 -/))))))
 (False /- 39 -/)))
 (k2 s1 s6 s7)) → I1 s1 s2 s3 s4 s5 s6 s7) →
 I1 s1 s2 s3 s4 s5 s6 s7
structure l28r14 (k1 : Int → (List Int) → (List Int) → Prop) (k2 : (List tIT) → (List Int) → (List Int) → Prop) (s1 : List tIT) (s2 : List tIT) (s3 : Int) (s4 : Int) (s5 : List Bool) (s6 : List Int) (s7 : List Int) : Prop where
 of : tl28r14 k1 k2 s1 s2 s3 s4 s5 s6 s7

def tc28 (x1 : List tIT) (x2 : Bool) (k1 : Int → (List Int) → (List Int) → Prop) (k2 : Nat → Nat → Nat → Int → (List Int) → (List Int) → Prop) : Prop :=
 c42 x1
 (fun z3 z4 => br ((z3 : Int) != 0)
 (k1 z3 [] [])
 (l28r5
 (fun z5 z6 => c43 z5 z6
 (fun z7 => br (decide ((0 : Int) ≤ (((List.length z5) : Nat) : Int) ∧ ((((List.length z5) : Nat) : Int) : Int) < (((List.length z7) : Nat) : Int)))
 (need False (z7)[(Int.toNat (((List.length z5) : Nat) : Int))]? fun y8 =>
 br (decide ((y8 : Int) > 16384))
 (k1 2 [] [])
 (l28r14
 (fun z9 z10 z11 => k1 z9 z10 z11)
 (fun z12 z13 z14 => br (decide ((0 : Int) ≤ 0 ∧ (0 : Int) ≤ (((List.length z12) : Nat) : Int) ∧ ((((List.length z12) : Nat) : Int) : Int) ≤ (((List.length z13) : Nat) : Int) ∧ ((((List.length z13) : Nat) : Int) : Int) ≤ (((List.length z13) : Nat) : Int)))
 (k2 0 (Int.toNat ((((List.length z12) : Nat) : Int) - 0)) (Int.toNat ((((List.length z13) : Nat) : Int) - 0)) 0 z14 z13)
 (False /- 82 -/))
 z5 z5 (((List.length z5) : Nat) : Int) 0 z6 z7 []))
 (False /- 39 -/)))
 x1 x2 x1 (((List.length x1) : Nat) : Int) 0 z4))
structure c28 (x1 : List tIT) (x2 : Bool) (k1 : Int → (List Int) → (List Int) → Prop) (k2 : Nat → Nat → Nat → Int → (List Int) → (List Int) → Prop) : Prop where
 of : tc28 x1 x2 k1 k2

def tl19r5 (k1 : (List tLF) → (List tIT) → (List Int) → (List (List Int)) → (List Int) → Int → (List Int) → (List Int) → (List tMP) → (List tMK) → (List Int) → (List Int) → Prop) (s1 : List tLF) (s2 : Int) (s3 : Int) (s4 : List tIT) (s5 : List Int) (s6 : List (List Int)) (s7 : List Int) (s8 : Int) (s9 : List Int) (s10 : List Int) (s11 : List tMP) (s12 : List tMK) (s13 : List Int) (s14 : List Int) : Prop :=
 ∀ (I1 : (List tLF) → Int → Int → (List tIT) → (List Int) → (List (List Int)) → (List Int) → Int → (List Int) → (List Int) → (List tMP) → (List tMK) → (List Int) → (List Int) → Prop),
 (∀ (s1 : List tLF) (s2 : Int) (s3 : Int) (s4 : List tIT) (s5 : List Int) (s6 : List (List Int)) (s7 : List Int) (s8 : Int) (s9 : List Int) (s10 : List Int) (s11 : List tMP) (s12 : List tMK) (s13 : List Int) (s14 : List Int), (br (decide ((s3 : Int) < s2))
 (br (decide ((0 : Int) ≤ s3 ∧ (s3 : Int) < (((List.length s6) : Nat) : Int)))
 (need False (s6)[(Int.toNat s3)]? fun y15 =>
 need False (y15)[0]? fun y16 =>
 br (decide ((0 : Int) ≤ y16 ∧ (y16 : Int) < (((List.length s14) : Nat) : Int)))
 (need False (s14)[(Int.toNat y16)]? fun y17 =>
 need False (y15)[1]? fun y18 =>
 br (decide ((0 : Int) ≤ y18 ∧ (y18 : Int) < (((List.length s14) : Nat) : Int)))
 (need False (s14)[(Int.toNat y18)]? fun y19 =>
 br (decide ((0 : Int) ≤ (IntKind.wrap .i64 (y17 + 1)) ∧ ((IntKind.wrap .i64 (y17 + 1)) : Int) < (((List.length s13) : Nat) : Int)))
 (need False (s13)[(Int.toNat (IntKind.wrap .i64 (y17 + 1)))]? fun y20 =>
 I1 s1 s2 (IntKind.wrap .i64 (s3 + 1)) s4 s5 s6 s7 s8 s9 s10 s11 s12 (List.set s13 (Int.toNat (IntKind.wrap .i64 (y17 + 1))) (IntKind.wrap .i64 ((IntKind.wrap .i64 (2 * y19)) + 1))) s14)
 (False /- 39 -/))
 (False /- 39 -/))
 (False /- 39 -/))
 (False /- 39 -/))
 (k1 s1 s4 s5 s6 s7 s8 s9 s10 s11 s12 s13 s14)) → I1 s1 s2 s3 s4 s5 s6 s7 s8 s9 s10 s11 s12 s13 s14) →
 I1 s1 s2 s3 s4 s5 s6 s7 s8 s9 s10 s11 s12 s13 s14
structure l19r5 (k1 : (List tLF) → (List tIT) → (List Int) → (List (List Int)) → (List Int) → Int → (List Int) → (List Int) → (List tMP) → (List tMK) → (List Int) → (List Int) → Prop) (s1 : List tLF) (s2 : Int) (s3 : Int) (s4 : List tIT) (s5 : List Int) (s6 : List (List Int)) (s7 : List Int) (s8 : Int) (s9 : List Int) (s10 : List Int) (s11 : List tMP) (s12 : List tMK) (s13 : List Int) (s14 : List Int) : Prop where
 of : tl19r5 k1 s1 s2 s3 s4 s5 s6 s7 s8 s9 s10 s11 s12 s13 s14

def tc46 (x1 : List Int) (k1 : (List Int) → Prop) : Prop :=
 br (List.isEmpty x1)
 ((k1 []) ∧
 (br (List.isEmpty x1)
 (k1 [])
 (br (roomB (0 + (List.length x1)) 8)
 (k1 ([] ++ x1))
 (False /- 61 -/))))
 (br (List.isEmpty x1)
 (k1 [])
 (br (roomB (0 + (List.length x1)) 8)
 (k1 ([] ++ x1))
 (False /- 61 -/)))
structure c46 (x1 : List Int) (k1 : (List Int) → Prop) : Prop where
 of : tc46 x1 k1

def tl29r3 (k1 : (List Int) → (List tMP) → Prop) (s1 : Nat) (s2 : Nat) (s3 : Nat) (s4 : List (Int × Bool × (List Int) × Int × Unit)) (s5 : Int) (s6 : Int) (s7 : List Int) (s8 : tLF) (s9 : List tMP) : Prop :=
 ∀ (I1 : Nat → Nat → Nat → (List (Int × Bool × (List Int) × Int × Unit)) → Int → Int → (List Int) → (tLF) → (List tMP) → Prop),
 (∀ (s1 : Nat) (s2 : Nat) (s3 : Nat) (s4 : List (Int × Bool × (List Int) × Int × Unit)) (s5 : Int) (s6 : Int) (s7 : List Int) (s8 : tLF) (s9 : List tMP), (br (decide ((s6 : Int) < s5))
 (need False (at? s4 s6) fun y10 =>
 br (decide ((0 : Int) ≤ y10.1 ∧ (y10.1 : Int) < ((s2 : Nat) : Int)))
 (need False (s7)[(s1 + (Int.toNat y10.1))]? fun y11 =>
 (c46 y10.2.2.1
 (fun z12 => br ((decide (s1 = s1)) && ((decide (s2 = s2)) && (decide (s3 = s3))))
 (br (true && true)
 (br (eqT (.int .i64) y10.1 y10.1)
 (br (decide ((0 : Int) ≤ y10.1 ∧ (y10.1 : Int) < ((s2 : Nat) : Int)))
 (br ((decide ((s1 + (Int.toNat y10.1)) = (s1 + (Int.toNat y10.1)))) && true)
 (need False (s7)[(s1 + (Int.toNat y10.1))]? fun y13 =>
 br (eqT (.int .i64) y11 y13)
 (br (true && true)
 (br (eqT (.int .i64) s8.2.2.2.2.1 s8.2.2.2.2.1)
 (br (true && true)
 (br (eqT (.int .i64) y10.2.2.2.1 y10.2.2.2.1)
 (br ((decide (s1 = s1)) && ((decide (s2 = s2)) && (decide (s3 = s3))))
 (br (true && true)
 (br (eqT (.int .i64) y10.1 y10.1)
 (br (decide ((0 : Int) ≤ y10.1 ∧ (y10.1 : Int) < ((s2 : Nat) : Int)))
 (br ((decide ((s1 + (Int.toNat y10.1)) = (s1 + (Int.toNat y10.1)))) && true)
 (need False (s7)[(s1 + (Int.toNat y10.1))]? fun y14 =>
 br (eqT (.int .i64) y11 y14)
 (br (true && true)
 (br (eqT (.int .i64) s8.2.2.2.2.1 s8.2.2.2.2.1)
 (br (true && true)
 (br (eqT (.int .i64) y10.2.2.2.1 y10.2.2.2.1)
 (br ((eqT (.int .i64) y11 y11) && ((eqT (.int .i64) s8.2.2.2.2.1 s8.2.2.2.2.1) && (true && ((eqT (.int .i64) y10.2.2.2.1 y10.2.2.2.1) && true))))
 (br (y10.2.1)
 (br (decide ((0 : Int) ≤ (IntKind.wrap .i64 (y10.1 + 1)) ∧ ((IntKind.wrap .i64 (y10.1 + 1)) : Int) < ((s2 : Nat) : Int)))
 (need False (s7)[(s1 + (Int.toNat (IntKind.wrap .i64 (y10.1 + 1))))]? fun y15 =>
 br (roomB ((List.length s9) + 1) 48)
 (I1 s1 s2 s3 s4 s5 (IntKind.wrap .i64 (s6 + 1)) s7 s8 (s9 ++ [(y15, s8.2.2.2.2.1, z12, y10.2.2.2.1, ())]))
 (False /- 61 -/))
 (False /- 41 -/))
 (br (roomB ((List.length s9) + 1) 48)
 (I1 s1 s2 s3 s4 s5 (IntKind.wrap .i64 (s6 + 1)) s7 s8 (s9 ++ [(y11, s8.2.2.2.2.1, z12, y10.2.2.2.1, ())]))
 (False /- 61 -/)))
 (False /- 942 -/))
 (False /- 942 -/))
 (False /- 942 -/))
 (False /- 942 -/))
 (False /- 942 -/))
 (False /- 942 -/))
 (False /- 942 -/))
 (False /- 41 -/))
 (False /- 942 -/))
 (False /- 942 -/))
 (False /- 942 -/))
 (False /- 942 -/))
 (False /- 942 -/))
 (False /- 942 -/))
 (False /- 942 -/))
 (False /- 942 -/))
 (False /- 942 -/))
 (False /- 41 -/))
 (False /- 942 -/))
 (False /- 942 -/))
 (False /- 942 -/))) ∧
 (br ((decide (s1 = s1)) && ((decide (s2 = s2)) && (decide (s3 = s3))))
 (br (true && true)
 (br (eqT (.int .i64) y10.1 y10.1)
 (br (decide ((0 : Int) ≤ y10.1 ∧ (y10.1 : Int) < ((s2 : Nat) : Int)))
 (br ((decide ((s1 + (Int.toNat y10.1)) = (s1 + (Int.toNat y10.1)))) && true)
 (need False (s7)[(s1 + (Int.toNat y10.1))]? fun y16 =>
 br (eqT (.int .i64) y11 y16)
 (br (true && true)
 (br (eqT (.int .i64) s8.2.2.2.2.1 s8.2.2.2.2.1)
 (br (true && true)
 (br (eqT (.sl (.int .i64)) y10.2.2.1 y10.2.2.1)
 (br (true && true)
 (br (eqT (.int .i64) y10.2.2.2.1 y10.2.2.2.1)
 (c46 y10.2.2.1
 (fun z17 => br ((decide (s1 = s1)) && ((decide (s2 = s2)) && (decide (s3 = s3))))
 (br (true && true)
 (br (eqT (.int .i64) y10.1 y10.1)
 (br (decide ((0 : Int) ≤ y10.1 ∧ (y10.1 : Int) < ((s2 : Nat) : Int)))
 (br ((decide ((s1 + (Int.toNat y10.1)) = (s1 + (Int.toNat y10.1)))) && true)
 (need False (s7)[(s1 + (Int.toNat y10.1))]? fun y18 =>
 br (eqT (.int .i64) y11 y18)
 (br (true && true)
 (br (eqT (.int .i64) s8.2.2.2.2.1 s8.2.2.2.2.1)
 (br (true && true)
 (br (eqT (.int .i64) y10.2.2.2.1 y10.2.2.2.1)
 (br (y10.2.1)
 (br (decide ((0 : Int) ≤ (IntKind.wrap .i64 (y10.1 + 1)) ∧ ((IntKind.wrap .i64 (y10.1 + 1)) : Int) < ((s2 : Nat) : Int)))
 (need False (s7)[(s1 + (Int.toNat (IntKind.wrap .i64 (y10.1 + 1))))]? fun y19 =>
 br (roomB ((List.length s9) + 1) 48)
 (I1 s1 s2 s3 s4 s5 (IntKind.wrap .i64 (s6 + 1)) s7 s8 (s9 ++ [(y19, s8.2.2.2.2.1, z17, y10.2.2.2.1, ())]))
 (False /- 61 -/))
 (False /- 41 -/))
 (br (roomB ((List.length s9) + 1) 48)
 (I1 s1 s2 s3 s4 s5 (IntKind.wrap .i64 (s6 + 1)) s7 s8 (s9 ++ [(y11, s8.2.2.2.2.1, z17, y10.2.2.2.1, ())]))
 (False /- 61 -/)))
 (False /- 942 -/))
 (False /- 942 -/))
 (False /- 942 -/))
 (False /- 942 -/))
 (False /- 942 -/))
 (False /- 942 -/))
 (False /- 41 -/))
 (False /- 942 -/))
 (False /- 942 -/))
 (False /- 942 -/)))
 (False /- 942 -/))
 (False /- 942 -/))
 (False /- 942 -/))
 (False /- 942 -/))
 (False /- 942 -/))
 (False /- 942 -/))
 (False /- 942 -/))
 (False /- 942 -/))
 (False /- 41 -/))
 (False /- 942 -/))
 (False /- 942 -/))
 (False /- 942 -/)))
 (False /- 41 -/))
 (k1 s7 s9)) → I1 s1 s2 s3 s4 s5 s6 s7 s8 s9) →
 I1 s1 s2 s3 s4 s5 s6 s7 s8 s9
structure l29r3 (k1 : (List Int) → (List tMP) → Prop) (s1 : Nat) (s2 : Nat) (s3 : Nat) (s4 : List (Int × Bool × (List Int) × Int × Unit)) (s5 : Int) (s6 : Int) (s7 : List Int) (s8 : tLF) (s9 : List tMP) : Prop where
 of : tl29r3 k1 s1 s2 s3 s4 s5 s6 s7 s8 s9

def tc29 (x1 : tLF) (x2 : Nat) (x3 : Nat) (x4 : Nat) (x5 : List Int) (k1 : (List Int) → (List tMP) → Prop) : Prop :=
 l29r3
 (fun z6 z7 => k1 z6 z7)
 x2 x3 x4 x1.2.2.2.1 (((List.length x1.2.2.2.1) : Nat) : Int) 0 x5 x1 []
structure c29 (x1 : tLF) (x2 : Nat) (x3 : Nat) (x4 : Nat) (x5 : List Int) (k1 : (List Int) → (List tMP) → Prop) : Prop where
 of : tc29 x1 x2 x3 x4 x5 k1

def tl19r12 (k1 : (List tIT) → (List Int) → (List (List Int)) → (List Int) → Int → (List Int) → (List Int) → (List tMP) → (List tMK) → Int → (List Int) → (List Int) → (List tMP) → (List tMK) → (List Int) → Prop) (s1 : List tLF) (s2 : Int) (s3 : Int) (s4 : List tIT) (s5 : List Int) (s6 : List (List Int)) (s7 : List Int) (s8 : Int) (s9 : List Int) (s10 : List Int) (s11 : List tMP) (s12 : List tMK) (s13 : List Int) (s14 : Int) (s15 : List Int) (s16 : List Int) (s17 : List tMP) (s18 : List tMK) (s19 : List Int) : Prop :=
 ∀ (I1 : (List tLF) → Int → Int → (List tIT) → (List Int) → (List (List Int)) → (List Int) → Int → (List Int) → (List Int) → (List tMP) → (List tMK) → (List Int) → Int → (List Int) → (List Int) → (List tMP) → (List tMK) → (List Int) → Prop),
 (∀ (s1 : List tLF) (s2 : Int) (s3 : Int) (s4 : List tIT) (s5 : List Int) (s6 : List (List Int)) (s7 : List Int) (s8 : Int) (s9 : List Int) (s10 : List Int) (s11 : List tMP) (s12 : List tMK) (s13 : List Int) (s14 : Int) (s15 : List Int) (s16 : List Int) (s17 : List tMP) (s18 : List tMK) (s19 : List Int), (br (decide ((s3 : Int) < s2))
 (need False (at? s1 s3) fun y20 =>
 br (decide ((0 : Int) ≤ s3 ∧ (s3 : Int) < (((List.length s7) : Nat) : Int)))
 (need False (s7)[(Int.toNat s3)]? fun y21 =>
 br (decide ((0 : Int) ≤ y21 ∧ (y21 : Int) < (((List.length s5) : Nat) : Int)))
 (need False (s5)[(Int.toNat y21)]? fun y22 =>
 br (decide ((0 : Int) ≤ y22 ∧ (y22 : Int) < (((List.length s13) : Nat) : Int)))
 (need False (s13)[(Int.toNat y22)]? fun y23 =>
 br (decide ((0 : Int) ≤ s3 ∧ (s3 : Int) < (((List.length s19) : Nat) : Int)))
 (need False (s19)[(Int.toNat s3)]? fun y24 =>
 br (decide ((0 : Int) ≤ s3 ∧ (s3 : Int) < (((List.length s7) : Nat) : Int)))
 (need False (s7)[(Int.toNat s3)]? fun y25 =>
 br ((y25 : Int) == s3)
 (br (decide ((0 : Int) ≤ s3 ∧ (s3 : Int) < (((List.length s5) : Nat) : Int)))
 (need False (s5)[(Int.toNat s3)]? fun y26 =>
 br (decide ((0 : Int) ≤ y26 ∧ (y26 : Int) < (((List.length s13) : Nat) : Int)))
 (need False (s13)[(Int.toNat y26)]? fun y27 =>
 br (true && true)
 (br (roomB ((List.length s16) + 1) 8)
 (br (decide ((0 : Int) ≤ y26 ∧ (y26 : Int) ≤ (IntKind.wrap .i64 (y26 + (((List.length y20.2.1) : Nat) : Int))) ∧ ((IntKind.wrap .i64 (y26 + (((List.length y20.2.1) : Nat) : Int))) : Int) ≤ (((List.length s13) : Nat) : Int) ∧ ((((List.length s13) : Nat) : Int) : Int) ≤ (((List.length s13) : Nat) : Int)))
 (c29 y20 (Int.toNat y26) (Int.toNat ((IntKind.wrap .i64 (y26 + (((List.length y20.2.1) : Nat) : Int))) - y26)) (Int.toNat ((((List.length s13) : Nat) : Int) - y26)) s13
 (fun z28 z29 => br (true && true)
 (br (List.isEmpty z29)
 (I1 s1 s2 (IntKind.wrap .i64 (s3 + 1)) s4 s5 s6 s7 s8 s9 s10 s11 s12 z28 s14 s15 (s16 ++ [y27]) s17 s18 (List.set s19 (Int.toNat s3) y23))
 (br (roomB ((List.length s17) + (List.length z29)) 48)
 (I1 s1 s2 (IntKind.wrap .i64 (s3 + 1)) s4 s5 s6 s7 s8 s9 s10 s11 s12 z28 s14 s15 (s16 ++ [y27]) (s17 ++ z29) s18 (List.set s19 (Int.toNat s3) y23))
 (False /- 61 -/)))
 (False /- 942 -/)))
 (False /- 82 -/))
 (False /- 61 -/))
 (False /- 942 -/))
 (False /- 39 -/))
 (False /- 39 -/))
 (I1 s1 s2 (IntKind.wrap .i64 (s3 + 1)) s4 s5 s6 s7 s8 s9 s10 s11 s12 s13 s14 s15 s16 s17 s18 (List.set s19 (Int.toNat s3) y23)))
 (False /- 39 -/))
 (False /- 39 -/))
 (False /- 39 -/))
 (False /- 39 -/))
 (False /- 39 -/))
 (k1 s4 s5 s6 s7 s8 s9 s10 s11 s12 s14 s15 s16 s17 s18 s19)) → I1 s1 s2 s3 s4 s5 s6 s7 s8 s9 s10 s11 s12 s13 s14 s15 s16 s17 s18 s19) →
 I1 s1 s2 s3 s4 s5 s6 s7 s8 s9 s10 s11 s12 s13 s14 s15 s16 s17 s18 s19
structure l19r12 (k1 : (List tIT) → (List Int) → (List (List Int)) → (List Int) → Int → (List Int) → (List Int) → (List tMP) → (List tMK) → Int → (List Int) → (List Int) → (List tMP) → (List tMK) → (List Int) → Prop) (s1 : List tLF) (s2 : Int) (s3 : Int) (s4 : List tIT) (s5 : List Int) (s6 : List (List Int)) (s7 : List Int) (s8 : Int) (s9 : List Int) (s10 : List Int) (s11 : List tMP) (s12 : List tMK) (s13 : List Int) (s14 : Int) (s15 : List Int) (s16 : List Int) (s17 : List tMP) (s18 : List tMK) (s19 : List Int) : Prop where
 of : tl19r12 k1 s1 s2 s3 s4 s5 s6 s7 s8 s9 s10 s11 s12 s13 s14 s15 s16 s17 s18 s19

def tl19r5v2 (k1 : (List tLF) → Nat → Nat → Nat → (List tIT) → (List Int) → (List (List Int)) → (List Int) → Int → (List Int) → (List Int) → (List tMP) → (List tMK) → (List Int) → (List Int) → Prop) (s1 : List tLF) (s2 : Nat) (s3 : Nat) (s4 : Nat) (s5 : Int) (s6 : Int) (s7 : List tIT) (s8 : List Int) (s9 : List (List Int)) (s10 : List Int) (s11 : Int) (s12 : List Int) (s13 : List Int) (s14 : List tMP) (s15 : List tMK) (s16 : List Int) (s17 : List Int) : Prop :=
 ∀ (I1 : (List tLF) → Nat → Nat → Nat → Int → Int → (List tIT) → (List Int) → (List (List Int)) → (List Int) → Int → (List Int) → (List Int) → (List tMP) → (List tMK) → (List Int) → (List Int) → Prop),
 (∀ (s1 : List tLF) (s2 : Nat) (s3 : Nat) (s4 : Nat) (s5 : Int) (s6 : Int) (s7 : List tIT) (s8 : List Int) (s9 : List (List Int)) (s10 : List Int) (s11 : Int) (s12 : List Int) (s13 : List Int) (s14 : List tMP) (s15 : List tMK) (s16 : List Int) (s17 : List Int), (br (decide ((s6 : Int) < s5))
 (br (decide ((0 : Int) ≤ s6 ∧ (s6 : Int) < (((List.length s9) : Nat) : Int)))
 (need False (s9)[(Int.toNat s6)]? fun y18 =>
 need False (y18)[0]? fun y19 =>
 br (decide ((0 : Int) ≤ y19 ∧ (y19 : Int) < ((s3 : Nat) : Int)))
 (need False (s17)[(s2 + (Int.toNat y19))]? fun y20 =>
 need False (y18)[1]? fun y21 =>
 br (decide ((0 : Int) ≤ y21 ∧ (y21 : Int) < ((s3 : Nat) : Int)))
 (need False (s17)[(s2 + (Int.toNat y21))]? fun y22 =>
 br (decide ((0 : Int) ≤ (IntKind.wrap .i64 (y20 + 1)) ∧ ((IntKind.wrap .i64 (y20 + 1)) : Int) < (((List.length s16) : Nat) : Int)))
 (need False (s16)[(Int.toNat (IntKind.wrap .i64 (y20 + 1)))]? fun y23 =>
 I1 s1 s2 s3 s4 s5 (IntKind.wrap .i64 (s6 + 1)) s7 s8 s9 s10 s11 s12 s13 s14 s15 (List.set s16 (Int.toNat (IntKind.wrap .i64 (y20 + 1))) (IntKind.wrap .i64 ((IntKind.wrap .i64 (2 * y22)) + 1))) s17)
 (False /- 39 -/))
 (False /- 41 -/))
 (False /- 41 -/))
 (False /- 39 -/))
 (k1 s1 s2 s3 s4 s7 s8 s9 s10 s11 s12 s13 s14 s15 s16 s17)) → I1 s1 s2 s3 s4 s5 s6 s7 s8 s9 s10 s11 s12 s13 s14 s15 s16 s17) →
 I1 s1 s2 s3 s4 s5 s6 s7 s8 s9 s10 s11 s12 s13 s14 s15 s16 s17
structure l19r5v2 (k1 : (List tLF) → Nat → Nat → Nat → (List tIT) → (List Int) → (List (List Int)) → (List Int) → Int → (List Int) → (List Int) → (List tMP) → (List tMK) → (List Int) → (List Int) → Prop) (s1 : List tLF) (s2 : Nat) (s3 : Nat) (s4 : Nat) (s5 : Int) (s6 : Int) (s7 : List tIT) (s8 : List Int) (s9 : List (List Int)) (s10 : List Int) (s11 : Int) (s12 : List Int) (s13 : List Int) (s14 : List tMP) (s15 : List tMK) (s16 : List Int) (s17 : List Int) : Prop where
 of : tl19r5v2 k1 s1 s2 s3 s4 s5 s6 s7 s8 s9 s10 s11 s12 s13 s14 s15 s16 s17

def tl19r12v2 (k1 : (List tIT) → (List Int) → (List (List Int)) → (List Int) → Int → (List Int) → (List Int) → (List tMP) → (List tMK) → Int → (List Int) → (List Int) → (List tMP) → (List tMK) → (List Int) → Prop) (s1 : Nat) (s2 : Nat) (s3 : Nat) (s4 : List tLF) (s5 : Int) (s6 : Int) (s7 : List tIT) (s8 : List Int) (s9 : List (List Int)) (s10 : List Int) (s11 : Int) (s12 : List Int) (s13 : List Int) (s14 : List tMP) (s15 : List tMK) (s16 : List Int) (s17 : Int) (s18 : List Int) (s19 : List Int) (s20 : List tMP) (s21 : List tMK) (s22 : List Int) : Prop :=
 ∀ (I1 : Nat → Nat → Nat → (List tLF) → Int → Int → (List tIT) → (List Int) → (List (List Int)) → (List Int) → Int → (List Int) → (List Int) → (List tMP) → (List tMK) → (List Int) → Int → (List Int) → (List Int) → (List tMP) → (List tMK) → (List Int) → Prop),
 (∀ (s1 : Nat) (s2 : Nat) (s3 : Nat) (s4 : List tLF) (s5 : Int) (s6 : Int) (s7 : List tIT) (s8 : List Int) (s9 : List (List Int)) (s10 : List Int) (s11 : Int) (s12 : List Int) (s13 : List Int) (s14 : List tMP) (s15 : List tMK) (s16 : List Int) (s17 : Int) (s18 : List Int) (s19 : List Int) (s20 : List tMP) (s21 : List tMK) (s22 : List Int), (br (decide ((s6 : Int) < s5))
 (need False (at? s4 s6) fun y23 =>
 br (decide ((0 : Int) ≤ s6 ∧ (s6 : Int) < (((List.length s10) : Nat) : Int)))
 (need False (s10)[(Int.toNat s6)]? fun y24 =>
 br (decide ((0 : Int) ≤ y24 ∧ (y24 : Int) < (((List.length s8) : Nat) : Int)))
 (need False (s8)[(Int.toNat y24)]? fun y25 =>
 br (decide ((0 : Int) ≤ y25 ∧ (y25 : Int) < ((s2 : Nat) : Int)))
 (need False (s16)[(s1 + (Int.toNat y25))]? fun y26 =>
 br (decide ((0 : Int) ≤ s6 ∧ (s6 : Int) < (((List.length s22) : Nat) : Int)))
 (need False (s22)[(Int.toNat s6)]? fun y27 =>
 br (decide ((0 : Int) ≤ s6 ∧ (s6 : Int) < (((List.length s10) : Nat) : Int)))
 (need False (s10)[(Int.toNat s6)]? fun y28 =>
 br ((y28 : Int) == s6)
 (br (decide ((0 : Int) ≤ s6 ∧ (s6 : Int) < (((List.length s8) : Nat) : Int)))
 (need False (s8)[(Int.toNat s6)]? fun y29 =>
 br (decide ((0 : Int) ≤ y29 ∧ (y29 : Int) < ((s2 : Nat) : Int)))
 (need False (s16)[(s1 + (Int.toNat y29))]? fun y30 =>
 br (true && true)
 (br (roomB ((List.length s19) + 1) 8)
 (br (decide ((0 : Int) ≤ y29 ∧ (y29 : Int) ≤ (IntKind.wrap .i64 (y29 + (((List.length y23.2.1) : Nat) : Int))) ∧ ((IntKind.wrap .i64 (y29 + (((List.length y23.2.1) : Nat) : Int))) : Int) ≤ ((s3 : Nat) : Int) ∧ (((s3 : Nat) : Int) : Int) ≤ ((s3 : Nat) : Int)))
 (c29 y23 (s1 + (Int.toNat y29)) (Int.toNat ((IntKind.wrap .i64 (y29 + (((List.length y23.2.1) : Nat) : Int))) - y29)) (Int.toNat (((s3 : Nat) : Int) - y29)) s16
 (fun z31 z32 => br (true && true)
 (br (List.isEmpty z32)
 (I1 s1 s2 s3 s4 s5 (IntKind.wrap .i64 (s6 + 1)) s7 s8 s9 s10 s11 s12 s13 s14 s15 z31 s17 s18 (s19 ++ [y30]) s20 s21 (List.set s22 (Int.toNat s6) y26))
 (br (roomB ((List.length s20) + (List.length z32)) 48)
 (I1 s1 s2 s3 s4 s5 (IntKind.wrap .i64 (s6 + 1)) s7 s8 s9 s10 s11 s12 s13 s14 s15 z31 s17 s18 (s19 ++ [y30]) (s20 ++ z32) s21 (List.set s22 (Int.toNat s6) y26))
 (False /- 61 -/)))
 (False /- 942 -/)))
 (False /- 84 -/))
 (False /- 61 -/))
 (False /- 942 -/))
 (False /- 41 -/))
 (False /- 39 -/))
 (I1 s1 s2 s3 s4 s5 (IntKind.wrap .i64 (s6 + 1)) s7 s8 s9 s10 s11 s12 s13 s14 s15 s16 s17 s18 s19 s20 s21 (List.set s22 (Int.toNat s6) y26)))
 (False /- 39 -/))
 (False /- 39 -/))
 (False /- 41 -/))
 (False /- 39 -/))
 (False /- 39 -/))
 (k1 s7 s8 s9 s10 s11 s12 s13 s14 s15 s17 s18 s19 s20 s21 s22)) → I1 s1 s2 s3 s4 s5 s6 s7 s8 s9 s10 s11 s12 s13 s14 s15 s16 s17 s18 s19 s20 s21 s22) →
 I1 s1 s2 s3 s4 s5 s6 s7 s8 s9 s10 s11 s12 s13 s14 s15 s16 s17 s18 s19 s20 s21 s22
structure l19r12v2 (k1 : (List tIT) → (List Int) → (List (List Int)) → (List Int) → Int → (List Int) → (List Int) → (List tMP) → (List tMK) → Int → (List Int) → (List Int) → (List tMP) → (List tMK) → (List Int) → Prop) (s1 : Nat) (s2 : Nat) (s3 : Nat) (s4 : List tLF) (s5 : Int) (s6 : Int) (s7 : List tIT) (s8 : List Int) (s9 : List (List Int)) (s10 : List Int) (s11 : Int) (s12 : List Int) (s13 : List Int) (s14 : List tMP) (s15 : List tMK) (s16 : List Int) (s17 : Int) (s18 : List Int) (s19 : List Int) (s20 : List tMP) (s21 : List tMK) (s22 : List Int) : Prop where
 of : tl19r12v2 k1 s1 s2 s3 s4 s5 s6 s7 s8 s9 s10 s11 s12 s13 s14 s15 s16 s17 s18 s19 s20 s21 s22

def tc19 (x1 : List tLF) (x2 : Bool) (x3 : List tIT) (x4 : List Int) (x5 : List (List Int)) (x6 : List Int) (k1 : Int → Int → (List tIT) → (List Int) → (List (List Int)) → (List Int) → (List Int) → (List Int) → (List tMP) → (List tMK) → (List Int) → Prop) : Prop :=
 c28 x3 x2
 (fun z7 z8 z9 => br ((z7 : Int) != 0)
 (k1 0 z7 x3 x4 x5 x6 [] [] [] [] [])
 (l19r5
 (fun z10 z11 z12 z13 z14 z15 z16 z17 z18 z19 z20 z21 => br (decide ((0 : Int) ≤ (((List.length z10) : Nat) : Int) ∧ ((((List.length z10) : Nat) : Int) : Int) ≤ (((List.length z10) : Nat) : Int) ∧ (((((List.length z10) : Nat) : Int) * 8) : Int) ≤ 140737488355328))
 (l19r12
 (fun z22 z23 z24 z25 z26 z27 z28 z29 z30 z31 z32 z33 z34 z35 z36 => k1 z31 0 z22 z23 z24 z25 z32 z33 z34 z35 z36)
 z10 (((List.length z10) : Nat) : Int) 0 z11 z12 z13 z14 z15 z16 z17 z18 z19 z21 0 z20 [] [] [] (List.replicate (Int.toNat (((List.length z10) : Nat) : Int)) (0 : Int)))
 (False /- 111 -/))
 x1 (((List.length x5) : Nat) : Int) 0 x3 x4 x5 x6 0 [] [] [] [] z8 z9))
 (fun z37 z38 z39 z40 z41 z42 => br ((z40 : Int) != 0)
 (k1 0 z40 x3 x4 x5 x6 [] [] [] [] [])
 (l19r5v2
 (fun z43 z44 z45 z46 z47 z48 z49 z50 z51 z52 z53 z54 z55 z56 z57 => br (decide ((0 : Int) ≤ (((List.length z43) : Nat) : Int) ∧ ((((List.length z43) : Nat) : Int) : Int) ≤ (((List.length z43) : Nat) : Int) ∧ (((((List.length z43) : Nat) : Int) * 8) : Int) ≤ 140737488355328))
 (l19r12v2
 (fun z58 z59 z60 z61 z62 z63 z64 z65 z66 z67 z68 z69 z70 z71 z72 => k1 z67 0 z58 z59 z60 z61 z68 z69 z70 z71 z72)
 z44 z45 z46 z43 (((List.length z43) : Nat) : Int) 0 z47 z48 z49 z50 z51 z52 z53 z54 z55 z57 0 z56 [] [] [] (List.replicate (Int.toNat (((List.length z43) : Nat) : Int)) (0 : Int)))
 (False /- 111 -/))
 x1 z37 z38 z39 (((List.length x5) : Nat) : Int) 0 x3 x4 x5 x6 0 [] [] [] [] z41 z42))
structure c19 (x1 : List tLF) (x2 : Bool) (x3 : List tIT) (x4 : List Int) (x5 : List (List Int)) (x6 : List Int) (k1 : Int → Int → (List tIT) → (List Int) → (List (List Int)) → (List Int) → (List Int) → (List Int) → (List tMP) → (List tMK) → (List Int) → Prop) : Prop where
 of : tc19 x1 x2 x3 x4 x5 x6 k1

def tc8 (x1 : List tLF) (x2 : Int) (x3 : Bool) (x4 : List Int) (k1 : Int → Int → (List Int) → (List Int) → (List Int) → (List tMP) → (List tMK) → (List Int) → Prop) : Prop :=
 c6 x1
 (fun z5 => br ((z5 : Int) != 0)
 (k1 0 z5 x4 [] [] [] [] [])
 (br (((((List.length x4) : Nat) : Int) : Int) != (((List.length x1) : Nat) : Int))
 (k1 0 3 x4 [] [] [] [] [])
 (l8r7
 (fun z6 z7 z8 z9 z10 z11 z12 z13 => k1 z8 z6 z7 z9 z10 z11 z12 z13)
 (fun z14 z15 z16 z17 z18 z19 z20 z21 z22 => br (decide ((z15 : Int) < 0))
 (k1 0 12 z17 [] [] [] [] [])
 (br (decide ((z15 : Int) ≥ (((List.length z14) : Nat) : Int)))
 (k1 0 12 z17 [] [] [] [] [])
 (l8r16
 (fun z23 z24 z25 z26 z27 z28 z29 z30 z31 z32 z33 z34 => br (decide ((0 : Int) ≤ z24 ∧ (z24 : Int) < (((List.length z26) : Nat) : Int)))
 (need False (z26)[(Int.toNat z24)]? fun y35 =>
 br (decide ((0 : Int) ≤ y35 ∧ (y35 : Int) < (((List.length z33) : Nat) : Int)))
 (need False (z33)[(Int.toNat y35)]? fun y36 =>
 br (decide ((0 : Int) ≤ 0 ∧ (0 : Int) < (((List.length z32) : Nat) : Int)))
 (need False (z32)[0]? fun y37 =>
 l8r25
 (fun z38 z39 z40 z41 z42 z43 z44 z45 z46 z47 z48 => c19 z38 z39 z46 z47 z48 z40
 (fun z49 z50 z51 z52 z53 z54 z55 z56 z57 z58 z59 => k1 z49 z50 z54 z55 z56 z57 z58 z59))
 z23 z25 z23 (((List.length z23) : Nat) : Int) 0 z26 z27 z28 z29 z30 z31 (List.set z32 0 (y37.1, y36, y37.2.2)) z33 z34)
 (False /- 39 -/))
 (False /- 39 -/))
 (False /- 39 -/))
 z14 z15 z16 z14 (((List.length z14) : Nat) : Int) 0 z17 z18 z19 z20 z21 z22 [((20, 0, 0, 0, 0, ()), 0, ()), ((0, 0, 0, 0, 0, ()), (-1), ())] [] [])))
 x1 x2 x3 (((List.length x4) : Nat) : Int) 0 x4 0 [] [] [] [])))
structure c8 (x1 : List tLF) (x2 : Int) (x3 : Bool) (x4 : List Int) (k1 : Int → Int → (List Int) → (List Int) → (List Int) → (List tMP) → (List tMK) → (List Int) → Prop) : Prop where
 of : tc8 x1 x2 x3 x4 k1

def tl9r5 (k1 : (List tLF) → Int → Bool → (List Int) → Int → (List Int) → (List Int) → (List tMP) → (List tMK) → (List tIT) → (List Int) → Prop) (s1 : List tLF) (s2 : Int) (s3 : Bool) (s4 : Int) (s5 : List tLF) (s6 : Int) (s7 : Int) (s8 : List Int) (s9 : Int) (s10 : List Int) (s11 : List Int) (s12 : List tMP) (s13 : List tMK) (s14 : List tIT) (s15 : List Int) : Prop :=
 ∀ (I1 : (List tLF) → Int → Bool → Int → (List tLF) → Int → Int → (List Int) → Int → (List Int) → (List Int) → (List tMP) → (List tMK) → (List tIT) → (List Int) → Prop),
 (∀ (s1 : List tLF) (s2 : Int) (s3 : Bool) (s4 : Int) (s5 : List tLF) (s6 : Int) (s7 : Int) (s8 : List Int) (s9 : Int) (s10 : List Int) (s11 : List Int) (s12 : List tMP) (s13 : List tMK) (s14 : List tIT) (s15 : List Int), (br (decide ((s7 : Int) < s6))
 (need False (at? s5 s7) fun y16 =>
 br (decide ((0 : Int) ≤ s7 ∧ (s7 : Int) < (((List.length s8) : Nat) : Int)))
 (need False (s8)[(Int.toNat s7)]? fun y17 =>
 br ((y17 : Int) == s7)
 (br (decide ((0 : Int) ≤ s7 ∧ (s7 : Int) < (((List.length s15) : Nat) : Int)))
 (need False (s15)[(Int.toNat s7)]? fun y18 =>
 I1 s1 s2 s3 (IntKind.wrap .i64 (s4 + (((List.length y16.2.1) : Nat) : Int))) s5 s6 (IntKind.wrap .i64 (s7 + 1)) s8 s9 s10 s11 s12 s13 s14 (List.set s15 (Int.toNat s7) s4))
 (False /- 39 -/))
 (I1 s1 s2 s3 s4 s5 s6 (IntKind.wrap .i64 (s7 + 1)) s8 s9 s10 s11 s12 s13 s14 s15))
 (False /- 39 -/))
 (k1 s1 s2 s3 s8 s9 s10 s11 s12 s13 s14 s15)) → I1 s1 s2 s3 s4 s5 s6 s7 s8 s9 s10 s11 s12 s13 s14 s15) →
 I1 s1 s2 s3 s4 s5 s6 s7 s8 s9 s10 s11 s12 s13 s14 s15
structure l9r5 (k1 : (List tLF) → Int → Bool → (List Int) → Int → (List Int) → (List Int) → (List tMP) → (List tMK) → (List tIT) → (List Int) → Prop) (s1 : List tLF) (s2 : Int) (s3 : Bool) (s4 : Int) (s5 : List tLF) (s6 : Int) (s7 : Int) (s8 : List Int) (s9 : Int) (s10 : List Int) (s11 : List Int) (s12 : List tMP) (s13 : List tMK) (s14 : List tIT) (s15 : List Int) : Prop where
 of : tl9r5 k1 s1 s2 s3 s4 s5 s6 s7 s8 s9 s10 s11 s12 s13 s14 s15

def tl9r23 (k1 : (List tLF) → Bool → Int → (List tLF) → Int → Int → (List tIT) → Int → Int → (List Int) → Int → (List Int) → (List Int) → (List tMP) → (List tMK) → (List tIT) → (List Int) → (List (Int × Int × Unit)) → (tLF) → (tIT) → Prop) (s1 : List tLF) (s2 : Bool) (s3 : Int) (s4 : Int) (s5 : List tLF) (s6 : Int) (s7 : Int) (s8 : List tIT) (s9 : Int) (s10 : Int) (s11 : List (Int × Int × Unit)) (s12 : Int) (s13 : Int) (s14 : List Int) (s15 : Int) (s16 : List Int) (s17 : List Int) (s18 : List tMP) (s19 : List tMK) (s20 : List tIT) (s21 : List Int) (s22 : List (Int × Int × Unit)) (s23 : tLF) (s24 : tIT) : Prop :=
 ∀ (I1 : (List tLF) → Bool → Int → Int → (List tLF) → Int → Int → (List tIT) → Int → Int → (List (Int × Int × Unit)) → Int → Int → (List Int) → Int → (List Int) → (List Int) → (List tMP) → (List tMK) → (List tIT) → (List Int) → (List (Int × Int × Unit)) → (tLF) → (tIT) → Prop),
 (∀ (s1 : List tLF) (s2 : Bool) (s3 : Int) (s4 : Int) (s5 : List tLF) (s6 : Int) (s7 : Int) (s8 : List tIT) (s9 : Int) (s10 : Int) (s11 : List (Int × Int × Unit)) (s12 : Int) (s13 : Int) (s14 : List Int) (s15 : Int) (s16 : List Int) (s17 : List Int) (s18 : List tMP) (s19 : List tMK) (s20 : List tIT) (s21 : List Int) (s22 : List (Int × Int × Unit)) (s23 : tLF) (s24 : tIT), (br (decide ((s13 : Int) < s12))
 (need False (at? s11 s13) fun y25 =>
 br ((y25.1 : Int) != s4)
 (I1 s1 s2 s3 s4 s5 s6 s7 s8 s9 s10 s11 s12 (IntKind.wrap .i64 (s13 + 1)) s14 s15 s16 s17 s18 s19 s20 s21 s22 s23 s24)
 (br ((s24.1.1 : Int) == 20)
 (br (decide ((0 : Int) ≤ y25.2.1 ∧ (y25.2.1 : Int) < (((List.length s14) : Nat) : Int)))
 (need False (s14)[(Int.toNat y25.2.1)]? fun y26 =>
 br (decide ((0 : Int) ≤ y26 ∧ (y26 : Int) < (((List.length s21) : Nat) : Int)))
 (need False (s21)[(Int.toNat y26)]? fun y27 =>
 I1 s1 s2 s3 s4 s5 s6 s7 s8 s9 s10 s11 s12 (IntKind.wrap .i64 (s13 + 1)) s14 s15 s16 s17 s18 s19 s20 s21 s22 s23 (s24.1, y27, s24.2.2))
 (False /- 39 -/))
 (False /- 39 -/))
 (br (decide ((0 : Int) ≤ y25.2.1 ∧ (y25.2.1 : Int) < (((List.length s14) : Nat) : Int)))
 (need False (s14)[(Int.toNat y25.2.1)]? fun y28 =>
 br (roomB ((List.length s22) + 1) 16)
 (I1 s1 s2 s3 s4 s5 s6 s7 s8 s9 s10 s11 s12 (IntKind.wrap .i64 (s13 + 1)) s14 s15 s16 s17 s18 s19 s20 s21 (s22 ++ [((((List.length s20) : Nat) : Int), y28, ())]) s23 ((s24.1.1, s24.1.2.1, s24.1.2.2.1, s24.1.2.2.2.1, 1048576, s24.1.2.2.2.2.2), s24.2))
 (False /- 61 -/))
 (False /- 39 -/))))
 (k1 s1 s2 s3 s5 s6 s7 s8 s9 s10 s14 s15 s16 s17 s18 s19 s20 s21 s22 s23 s24)) → I1 s1 s2 s3 s4 s5 s6 s7 s8 s9 s10 s11 s12 s13 s14 s15 s16 s17 s18 s19 s20 s21 s22 s23 s24) →
 I1 s1 s2 s3 s4 s5 s6 s7 s8 s9 s10 s11 s12 s13 s14 s15 s16 s17 s18 s19 s20 s21 s22 s23 s24
structure l9r23 (k1 : (List tLF) → Bool → Int → (List tLF) → Int → Int → (List tIT) → Int → Int → (List Int) → Int → (List Int) → (List Int) → (List tMP) → (List tMK) → (List tIT) → (List Int) → (List (Int × Int × Unit)) → (tLF) → (tIT) → Prop) (s1 : List tLF) (s2 : Bool) (s3 : Int) (s4 : Int) (s5 : List tLF) (s6 : Int) (s7 : Int) (s8 : List tIT) (s9 : Int) (s10 : Int) (s11 : List (Int × Int × Unit)) (s12 : Int) (s13 : Int) (s14 : List Int) (s15 : Int) (s16 : List Int) (s17 : List Int) (s18 : List tMP) (s19 : List tMK) (s20 : List tIT) (s21 : List Int) (s22 : List (Int × Int × Unit)) (s23 : tLF) (s24 : tIT) : Prop where
 of : tl9r23 k1 s1 s2 s3 s4 s5 s6 s7 s8 s9 s10 s11 s12 s13 s14 s15 s16 s17 s18 s19 s20 s21 s22 s23 s24

def tl9r18 (k1 : (List tLF) → Bool → (List tLF) → Int → Int → (List Int) → Int → (List Int) → (List Int) → (List tMP) → (List tMK) → (List tIT) → (List Int) → (List (Int × Int × Unit)) → Prop) (s1 : List tLF) (s2 : Bool) (s3 : Int) (s4 : List tLF) (s5 : Int) (s6 : Int) (s7 : List tIT) (s8 : Int) (s9 : Int) (s10 : List Int) (s11 : Int) (s12 : List Int) (s13 : List Int) (s14 : List tMP) (s15 : List tMK) (s16 : List tIT) (s17 : List Int) (s18 : List (Int × Int × Unit)) (s19 : tLF) : Prop :=
 ∀ (I1 : (List tLF) → Bool → Int → (List tLF) → Int → Int → (List tIT) → Int → Int → (List Int) → Int → (List Int) → (List Int) → (List tMP) → (List tMK) → (List tIT) → (List Int) → (List (Int × Int × Unit)) → (tLF) → Prop),
 (∀ (s1 : List tLF) (s2 : Bool) (s3 : Int) (s4 : List tLF) (s5 : Int) (s6 : Int) (s7 : List tIT) (s8 : Int) (s9 : Int) (s10 : List Int) (s11 : Int) (s12 : List Int) (s13 : List Int) (s14 : List tMP) (s15 : List tMK) (s16 : List tIT) (s17 : List Int) (s18 : List (Int × Int × Unit)) (s19 : tLF), (br (decide ((s9 : Int) < s8))
 (need False (at? s7 s9) fun y20 =>
 br (decide ((y20.2.1 : Int) ≥ 0))
 (br (decide ((0 : Int) ≤ s3 ∧ (s3 : Int) < (((List.length s17) : Nat) : Int)))
 (need False (s17)[(Int.toNat s3)]? fun y21 =>
 l9r23
 (fun z22 z23 z24 z25 z26 z27 z28 z29 z30 z31 z32 z33 z34 z35 z36 z37 z38 z39 z40 z41 => br (roomB ((List.length z37) + 1) 48)
 (I1 z22 z23 z24 z25 z26 z27 z28 z29 (IntKind.wrap .i64 (z30 + 1)) z31 z32 z33 z34 z35 z36 (z37 ++ [z41]) z38 z39 z40)
 (False /- 61 -/))
 s1 s2 s3 s9 s4 s5 s6 s7 s8 s9 s19.2.2.1 (((List.length s19.2.2.1) : Nat) : Int) 0 s10 s11 s12 s13 s14 s15 s16 s17 s18 s19 (y20.1, (IntKind.wrap .i64 (y20.2.1 + y21)), y20.2.2))
 (False /- 39 -/))
 (l9r23
 (fun z42 z43 z44 z45 z46 z47 z48 z49 z50 z51 z52 z53 z54 z55 z56 z57 z58 z59 z60 z61 => br (roomB ((List.length z57) + 1) 48)
 (I1 z42 z43 z44 z45 z46 z47 z48 z49 (IntKind.wrap .i64 (z50 + 1)) z51 z52 z53 z54 z55 z56 (z57 ++ [z61]) z58 z59 z60)
 (False /- 61 -/))
 s1 s2 s3 s9 s4 s5 s6 s7 s8 s9 s19.2.2.1 (((List.length s19.2.2.1) : Nat) : Int) 0 s10 s11 s12 s13 s14 s15 s16 s17 s18 s19 y20))
 (k1 s1 s2 s4 s5 s6 s10 s11 s12 s13 s14 s15 s16 s17 s18)) → I1 s1 s2 s3 s4 s5 s6 s7 s8 s9 s10 s11 s12 s13 s14 s15 s16 s17 s18 s19) →
 I1 s1 s2 s3 s4 s5 s6 s7 s8 s9 s10 s11 s12 s13 s14 s15 s16 s17 s18 s19
structure l9r18 (k1 : (List tLF) → Bool → (List tLF) → Int → Int → (List Int) → Int → (List Int) → (List Int) → (List tMP) → (List tMK) → (List tIT) → (List Int) → (List (Int × Int × Unit)) → Prop) (s1 : List tLF) (s2 : Bool) (s3 : Int) (s4 : List tLF) (s5 : Int) (s6 : Int) (s7 : List tIT) (s8 : Int) (s9 : Int) (s10 : List Int) (s11 : Int) (s12 : List Int) (s13 : List Int) (s14 : List tMP) (s15 : List tMK) (s16 : List tIT) (s17 : List Int) (s18 : List (Int × Int × Unit)) (s19 : tLF) : Prop where
 of : tl9r18 k1 s1 s2 s3 s4 s5 s6 s7 s8 s9 s10 s11 s12 s13 s14 s15 s16 s17 s18 s19

def tl9r14 (k1 : (List tLF) → Bool → (List Int) → Int → (List Int) → (List Int) → (List tMP) → (List tMK) → (List tIT) → (List Int) → (List (Int × Int × Unit)) → Prop) (s1 : List tLF) (s2 : Bool) (s3 : List tLF) (s4 : Int) (s5 : Int) (s6 : List Int) (s7 : Int) (s8 : List Int) (s9 : List Int) (s10 : List tMP) (s11 : List tMK) (s12 : List tIT) (s13 : List Int) (s14 : List (Int × Int × Unit)) : Prop :=
 ∀ (I1 : (List tLF) → Bool → (List tLF) → Int → Int → (List Int) → Int → (List Int) → (List Int) → (List tMP) → (List tMK) → (List tIT) → (List Int) → (List (Int × Int × Unit)) → Prop),
 (∀ (s1 : List tLF) (s2 : Bool) (s3 : List tLF) (s4 : Int) (s5 : Int) (s6 : List Int) (s7 : Int) (s8 : List Int) (s9 : List Int) (s10 : List tMP) (s11 : List tMK) (s12 : List tIT) (s13 : List Int) (s14 : List (Int × Int × Unit)), (br (decide ((s5 : Int) < s4))
 (need False (at? s3 s5) fun y15 =>
 br (decide ((0 : Int) ≤ s5 ∧ (s5 : Int) < (((List.length s6) : Nat) : Int)))
 (need False (s6)[(Int.toNat s5)]? fun y16 =>
 br ((y16 : Int) != s5)
 (I1 s1 s2 s3 s4 (IntKind.wrap .i64 (s5 + 1)) s6 s7 s8 s9 s10 s11 s12 s13 s14)
 (l9r18
 (fun z17 z18 z19 z20 z21 z22 z23 z24 z25 z26 z27 z28 z29 z30 => I1 z17 z18 z19 z20 (IntKind.wrap .i64 (z21 + 1)) z22 z23 z24 z25 z26 z27 z28 z29 z30)
 s1 s2 s5 s3 s4 s5 y15.2.1 (((List.length y15.2.1) : Nat) : Int) 0 s6 s7 s8 s9 s10 s11 s12 s13 s14 y15))
 (False /- 39 -/))
 (k1 s1 s2 s6 s7 s8 s9 s10 s11 s12 s13 s14)) → I1 s1 s2 s3 s4 s5 s6 s7 s8 s9 s10 s11 s12 s13 s14) →
 I1 s1 s2 s3 s4 s5 s6 s7 s8 s9 s10 s11 s12 s13 s14
structure l9r14 (k1 : (List tLF) → Bool → (List Int) → Int → (List Int) → (List Int) → (List tMP) → (List tMK) → (List tIT) → (List Int) → (List (Int × Int × Unit)) → Prop) (s1 : List tLF) (s2 : Bool) (s3 : List tLF) (s4 : Int) (s5 : Int) (s6 : List Int) (s7 : Int) (s8 : List Int) (s9 : List Int) (s10 : List tMP) (s11 : List tMK) (s12 : List tIT) (s13 : List Int) (s14 : List (Int × Int × Unit)) : Prop where
 of : tl9r14 k1 s1 s2 s3 s4 s5 s6 s7 s8 s9 s10 s11 s12 s13 s14

def tc30 (x1 : Int) (k1 : Bool → Prop) : Prop :=
 br (decide ((x1 : Int) > (-129)))
 (k1 (decide ((x1 : Int) < 128)))
 (k1 false)
structure c30 (x1 : Int) (k1 : Bool → Prop) : Prop where
 of : tc30 x1 k1

def tl20r3 (k1 : (List tIT) → (List Bool) → Prop) (s1 : List tIT) (s2 : List tIT) (s3 : Int) (s4 : Int) (s5 : List Bool) : Prop :=
 ∀ (I1 : (List tIT) → (List tIT) → Int → Int → (List Bool) → Prop),
 (∀ (s1 : List tIT) (s2 : List tIT) (s3 : Int) (s4 : Int) (s5 : List Bool), (br (decide ((s4 : Int) < s3))
 (need False (at? s2 s4) fun y6 =>
 br (decide ((y6.2.1 : Int) < 0))
 (c30 y6.1.2.2.2.2.1
 (fun z7 => br (decide ((0 : Int) ≤ s4 ∧ (s4 : Int) < (((List.length s5) : Nat) : Int)))
 (need False (s5)[(Int.toNat s4)]? fun y8 =>
 I1 s1 s2 s3 (IntKind.wrap .i64 (s4 + 1)) (List.set s5 (Int.toNat s4) (!z7)))
 (False /- 39 -/)))
 (br (decide ((0 : Int) ≤ s4 ∧ (s4 : Int) < (((List.length s5) : Nat) : Int)))
 (need False (s5)[(Int.toNat s4)]? fun y9 =>
 I1 s1 s2 s3 (IntKind.wrap .i64 (s4 + 1)) (List.set s5 (Int.toNat s4) false))
 (False /- 39 -/)))
 (k1 s1 s5)) → I1 s1 s2 s3 s4 s5) →
 I1 s1 s2 s3 s4 s5
structure l20r3 (k1 : (List tIT) → (List Bool) → Prop) (s1 : List tIT) (s2 : List tIT) (s3 : Int) (s4 : Int) (s5 : List Bool) : Prop where
 of : tl20r3 k1 s1 s2 s3 s4 s5

def tl47r3 (k1 : Int → (List Bool) → Prop) (s1 : Int) (s2 : Int) (s3 : Int) (s4 : List Bool) : Prop :=
 ∀ (I1 : Int → Int → Int → (List Bool) → Prop),
 (∀ (s1 : Int) (s2 : Int) (s3 : Int) (s4 : List Bool), (br (decide ((s3 : Int) < s1))
 (need False (at? s4 s3) fun y5 =>
 br (y5)
 (I1 s1 (IntKind.wrap .i64 ((IntKind.wrap .i64 (s2 + 1)) + 1)) (IntKind.wrap .i64 (s3 + 1)) s4)
 (I1 s1 (IntKind.wrap .i64 (s2 + 1)) (IntKind.wrap .i64 (s3 + 1)) s4))
 (k1 s2 s4)) → I1 s1 s2 s3 s4) →
 I1 s1 s2 s3 s4
structure l47r3 (k1 : Int → (List Bool) → Prop) (s1 : Int) (s2 : Int) (s3 : Int) (s4 : List Bool) : Prop where
 of : tl47r3 k1 s1 s2 s3 s4

def tc47 (x1 : Int) (x2 : Int) (x3 : List Bool) (k1 : Int → (List Bool) → Prop) : Prop :=
 l47r3
 (fun z4 z5 => k1 z4 z5)
 x2 0 x1 x3
structure c47 (x1 : Int) (x2 : Int) (x3 : List Bool) (k1 : Int → (List Bool) → Prop) : Prop where
 of : tc47 x1 x2 x3 k1

def tc31 (x1 : List tIT) (x2 : List Bool) (x3 : Int) (k1 : Int → Prop) : Prop :=
 need False (at? x1 x3) fun y4 =>
 br (decide ((y4.2.1 : Int) > x3))
 (need False (at? x1 x3) fun y5 =>
 c47 (IntKind.wrap .i64 (x3 + 1)) y5.2.1 x2
 (fun z6 z7 => k1 z6))
 (need False (at? x1 x3) fun y8 =>
 c47 y8.2.1 (IntKind.wrap .i64 (x3 + 1)) x2
 (fun z9 z10 => k1 (IntKind.wrap .i64 (0 - z9))))
structure c31 (x1 : List tIT) (x2 : List Bool) (x3 : Int) (k1 : Int → Prop) : Prop where
 of : tc31 x1 x2 x3 k1

def tl20r8 (k1 : (List Bool) → Prop) (s1 : List tIT) (s2 : Int) (s3 : List Bool) : Prop :=
 ∀ (I1 : (List tIT) → Int → (List Bool) → Prop),
 (∀ (s1 : List tIT) (s2 : Int) (s3 : List Bool), (br (decide ((s2 : Int) ≥ 0))
 (need False (at? s1 s2) fun y4 =>
 br (decide ((y4.2.1 : Int) ≥ 0))
 (br (decide ((0 : Int) ≤ s2 ∧ (s2 : Int) < (((List.length s3) : Nat) : Int)))
 (need False (s3)[(Int.toNat s2)]? fun y5 =>
 br (!y5)
 (c31 s1 s3 s2
 (fun z6 => c30 z6
 (fun z7 => br (!z7)
 (br (decide ((0 : Int) ≤ s2 ∧ (s2 : Int) < (((List.length s3) : Nat) : Int)))
 (need False (s3)[(Int.toNat s2)]? fun y8 =>
 I1 s1 (IntKind.wrap .i64 ((((List.length s1) : Nat) : Int) - 1)) (List.set s3 (Int.toNat s2) true))
 (False /- 39 -/))
 (I1 s1 (IntKind.wrap .i64 (s2 - 1)) s3))))
 (I1 s1 (IntKind.wrap .i64 (s2 - 1)) s3))
 (False /- 39 -/))
 (I1 s1 (IntKind.wrap .i64 (s2 - 1)) s3))
 (k1 s3)) → I1 s1 s2 s3) →
 I1 s1 s2 s3
structure l20r8 (k1 : (List Bool) → Prop) (s1 : List tIT) (s2 : Int) (s3 : List Bool) : Prop where
 of : tl20r8 k1 s1 s2 s3

def tc20 (x1 : List tIT) (k1 : (List Bool) → Prop) : Prop :=
 br (decide ((0 : Int) ≤ (((List.length x1) : Nat) : Int) ∧ ((((List.length x1) : Nat) : Int) : Int) ≤ (((List.length x1) : Nat) : Int) ∧ (((((List.length x1) : Nat) : Int) * 1) : Int) ≤ 140737488355328))
 (l20r3
 (fun z2 z3 => l20r8
 (fun z4 => k1 z4)
 z2 (IntKind.wrap .i64 ((((List.length z2) : Nat) : Int) - 1)) z3)
 x1 x1 (((List.length x1) : Nat) : Int) 0 (List.replicate (Int.toNat (((List.length x1) : Nat) : Int)) (false : Bool)))
 (False /- 111 -/)
structure c20 (x1 : List tIT) (k1 : (List Bool) → Prop) : Prop where
 of : tc20 x1 k1

def tl9r39 (k1 : (List tLF) → Bool → (List Int) → Int → (List Int) → (List Int) → (List tMP) → (List tMK) → (List tIT) → (List Int) → (List (Int × Int × Unit)) → (List Int) → Prop) (s1 : List tLF) (s2 : Bool) (s3 : Int) (s4 : Int) (s5 : List Int) (s6 : Int) (s7 : List Int) (s8 : List Int) (s9 : List tMP) (s10 : List tMK) (s11 : List tIT) (s12 : List Int) (s13 : List (Int × Int × Unit)) (s14 : List Bool) (s15 : List Int) : Prop :=
 ∀ (I1 : (List tLF) → Bool → Int → Int → (List Int) → Int → (List Int) → (List Int) → (List tMP) → (List tMK) → (List tIT) → (List Int) → (List (Int × Int × Unit)) → (List Bool) → (List Int) → Prop),
 (∀ (s1 : List tLF) (s2 : Bool) (s3 : Int) (s4 : Int) (s5 : List Int) (s6 : Int) (s7 : List Int) (s8 : List Int) (s9 : List tMP) (s10 : List tMK) (s11 : List tIT) (s12 : List Int) (s13 : List (Int × Int × Unit)) (s14 : List Bool) (s15 : List Int), (br (decide ((s4 : Int) < s3))
 (br (decide ((0 : Int) ≤ s4 ∧ (s4 : Int) < (((List.length s11) : Nat) : Int)))
 (need False (s11)[(Int.toNat s4)]? fun y16 =>
 br (decide ((0 : Int) ≤ s4 ∧ (s4 : Int) < (((List.length s15) : Nat) : Int)))
 (need False (s15)[(Int.toNat s4)]? fun y17 =>
 br (decide ((0 : Int) ≤ (IntKind.wrap .i64 (s4 + 1)) ∧ ((IntKind.wrap .i64 (s4 + 1)) : Int) < (((List.length s15) : Nat) : Int)))
 (need False (s15)[(Int.toNat (IntKind.wrap .i64 (s4 + 1)))]? fun y18 =>
 br (decide ((0 : Int) ≤ s4 ∧ (s4 : Int) < (((List.length s14) : Nat) : Int)))
 (need False (s14)[(Int.toNat s4)]? fun y19 =>
 br (y19)
 (br (decide ((0 : Int) ≤ (IntKind.wrap .i64 (s4 + 1)) ∧ ((IntKind.wrap .i64 (s4 + 1)) : Int) < (((List.length (List.set s15 (Int.toNat (IntKind.wrap .i64 (s4 + 1))) (IntKind.wrap .i64 (y17 + 1)))) : Nat) : Int)))
 (need False ((List.set s15 (Int.toNat (IntKind.wrap .i64 (s4 + 1))) (IntKind.wrap .i64 (y17 + 1))))[(Int.toNat (IntKind.wrap .i64 (s4 + 1)))]? fun y20 =>
 br (decide ((0 : Int) ≤ (IntKind.wrap .i64 (s4 + 1)) ∧ ((IntKind.wrap .i64 (s4 + 1)) : Int) < (((List.length (List.set s15 (Int.toNat (IntKind.wrap .i64 (s4 + 1))) (IntKind.wrap .i64 (y17 + 1)))) : Nat) : Int)))
 (need False ((List.set s15 (Int.toNat (IntKind.wrap .i64 (s4 + 1))) (IntKind.wrap .i64 (y17 + 1))))[(Int.toNat (IntKind.wrap .i64 (s4 + 1)))]? fun y21 =>
 I1 s1 s2 s3 (IntKind.wrap .i64 (s4 + 1)) s5 s6 s7 s8 s9 s10 s11 s12 s13 s14 (List.set (List.set s15 (Int.toNat (IntKind.wrap .i64 (s4 + 1))) (IntKind.wrap .i64 (y17 + 1))) (Int.toNat (IntKind.wrap .i64 (s4 + 1))) (IntKind.wrap .i64 (y20 + 1))))
 (False /- 39 -/))
 (False /- 39 -/))
 (br (s2)
 (br (decide ((y16.2.1 : Int) ≥ 0))
 (br (decide ((0 : Int) ≤ (IntKind.wrap .i64 (s4 + 1)) ∧ ((IntKind.wrap .i64 (s4 + 1)) : Int) < (((List.length (List.set s15 (Int.toNat (IntKind.wrap .i64 (s4 + 1))) (IntKind.wrap .i64 (y17 + 1)))) : Nat) : Int)))
 (need False ((List.set s15 (Int.toNat (IntKind.wrap .i64 (s4 + 1))) (IntKind.wrap .i64 (y17 + 1))))[(Int.toNat (IntKind.wrap .i64 (s4 + 1)))]? fun y22 =>
 br (decide ((0 : Int) ≤ (IntKind.wrap .i64 (s4 + 1)) ∧ ((IntKind.wrap .i64 (s4 + 1)) : Int) < (((List.length (List.set s15 (Int.toNat (IntKind.wrap .i64 (s4 + 1))) (IntKind.wrap .i64 (y17 + 1)))) : Nat) : Int)))
 (need False ((List.set s15 (Int.toNat (IntKind.wrap .i64 (s4 + 1))) (IntKind.wrap .i64 (y17 + 1))))[(Int.toNat (IntKind.wrap .i64 (s4 + 1)))]? fun y23 =>
 I1 s1 s2 s3 (IntKind.wrap .i64 (s4 + 1)) s5 s6 s7 s8 s9 s10 s11 s12 s13 s14 (List.set (List.set s15 (Int.toNat (IntKind.wrap .i64 (s4 + 1))) (IntKind.wrap .i64 (y17 + 1))) (Int.toNat (IntKind.wrap .i64 (s4 + 1))) (IntKind.wrap .i64 (y22 + 1))))
 (False /- 39 -/))
 (False /- 39 -/))
 (I1 s1 s2 s3 (IntKind.wrap .i64 (s4 + 1)) s5 s6 s7 s8 s9 s10 s11 s12 s13 s14 (List.set s15 (Int.toNat (IntKind.wrap .i64 (s4 + 1))) (IntKind.wrap .i64 (y17 + 1)))))
 (I1 s1 s2 s3 (IntKind.wrap .i64 (s4 + 1)) s5 s6 s7 s8 s9 s10 s11 s12 s13 s14 (List.set s15 (Int.toNat (IntKind.wrap .i64 (s4 + 1))) (IntKind.wrap .i64 (y17 + 1))))))
 (False /- 39 -/))
 (False /- 39 -/))
 (False /- 39 -/))
 (False /- 39 -/))
 (k1 s1 s2 s5 s6 s7 s8 s9 s10 s11 s12 s13 s15)) → I1 s1 s2 s3 s4 s5 s6 s7 s8 s9 s10 s11 s12 s13 s14 s15) →
 I1 s1 s2 s3 s4 s5 s6 s7 s8 s9 s10 s11 s12 s13 s14 s15
structure l9r39 (k1 : (List tLF) → Bool → (List Int) → Int → (List Int) → (List Int) → (List tMP) → (List tMK) → (List tIT) → (List Int) → (List (Int × Int × Unit)) → (List Int) → Prop) (s1 : List tLF) (s2 : Bool) (s3 : Int) (s4 : Int) (s5 : List Int) (s6 : Int) (s7 : List Int) (s8 : List Int) (s9 : List tMP) (s10 : List tMK) (s11 : List tIT) (s12 : List Int) (s13 : List (Int × Int × Unit)) (s14 : List Bool) (s15 : List Int) : Prop where
 of : tl9r39 k1 s1 s2 s3 s4 s5 s6 s7 s8 s9 s10 s11 s12 s13 s14 s15

def tl21r3 (k1 : (List tIT) → (List Bool) → Prop) (s1 : List tIT) (s2 : Bool) (s3 : List tIT) (s4 : Int) (s5 : Int) (s6 : List Bool) : Prop :=
 ∀ (I1 : (List tIT) → Bool → (List tIT) → Int → Int → (List Bool) → Prop),
 (∀ (s1 : List tIT) (s2 : Bool) (s3 : List tIT) (s4 : Int) (s5 : Int) (s6 : List Bool), (br (decide ((s5 : Int) < s4))
 (need False (at? s3 s5) fun y7 =>
 br (s2)
 (br (decide ((y7.2.1 : Int) ≥ 0))
 (br (decide ((0 : Int) ≤ s5 ∧ (s5 : Int) < (((List.length s6) : Nat) : Int)))
 (need False (s6)[(Int.toNat s5)]? fun y8 =>
 I1 s1 s2 s3 s4 (IntKind.wrap .i64 (s5 + 1)) (List.set s6 (Int.toNat s5) true))
 (False /- 39 -/))
 (I1 s1 s2 s3 s4 (IntKind.wrap .i64 (s5 + 1)) s6))
 (I1 s1 s2 s3 s4 (IntKind.wrap .i64 (s5 + 1)) s6))
 (k1 s1 s6)) → I1 s1 s2 s3 s4 s5 s6) →
 I1 s1 s2 s3 s4 s5 s6
structure l21r3 (k1 : (List tIT) → (List Bool) → Prop) (s1 : List tIT) (s2 : Bool) (s3 : List tIT) (s4 : Int) (s5 : Int) (s6 : List Bool) : Prop where
 of : tl21r3 k1 s1 s2 s3 s4 s5 s6

def tc48 (x1 : Int) (x2 : Int) (k1 : Int → Prop) : Prop :=
 br ((x2 : Int) == 0)
 (False /- 16 -/)
 (br (decide (((Int.tmod x1 x2) : Int) < 0))
 (k1 (IntKind.wrap .i64 ((Int.tmod x1 x2) + x2)))
 (k1 (Int.tmod x1 x2)))
structure c48 (x1 : Int) (x2 : Int) (k1 : Int → Prop) : Prop where
 of : tc48 x1 x2 k1

def tc32 (x1 : tOP) (x2 : Bool) (k1 : (List Int) → Prop) : Prop :=
 br (x2)
 (c48 x1.2.2.2.2.1 4294967296
 (fun z3 => k1 [(IntKind.wrap .i64 ((IntKind.wrap .i64 ((IntKind.wrap .i64 ((IntKind.wrap .i64 ((IntKind.wrap .i64 (x1.1 * 134217728)) + (IntKind.wrap .i64 (x1.2.1 * 4194304)))) + (IntKind.wrap .i64 (x1.2.2.1 * 262144)))) + (IntKind.wrap .i64 (x1.2.2.2.1 * 16384)))) + 67108864)), z3]))
 (c48 x1.2.2.2.2.1 256
 (fun z4 => k1 [(IntKind.wrap .i64 ((IntKind.wrap .i64 ((IntKind.wrap .i64 ((IntKind.wrap .i64 ((IntKind.wrap .i64 (x1.1 * 134217728)) + (IntKind.wrap .i64 (x1.2.1 * 4194304)))) + (IntKind.wrap .i64 (x1.2.2.1 * 262144)))) + (IntKind.wrap .i64 (x1.2.2.2.1 * 16384)))) + z4))]))
structure c32 (x1 : tOP) (x2 : Bool) (k1 : (List Int) → Prop) : Prop where
 of : tc32 x1 x2 k1

def tl21r10 (k1 : (List Int) → Prop) (s1 : List tIT) (s2 : List tIT) (s3 : Int) (s4 : Int) (s5 : List Bool) (s6 : List Int) : Prop :=
 ∀ (I1 : (List tIT) → (List tIT) → Int → Int → (List Bool) → (List Int) → Prop),
 (∀ (s1 : List tIT) (s2 : List tIT) (s3 : Int) (s4 : Int) (s5 : List Bool) (s6 : List Int), (br (decide ((s4 : Int) < s3))
 (need False (at? s2 s4) fun y7 =>
 br (decide ((y7.2.1 : Int) ≥ 0))
 (c31 s1 s5 s4
 (fun z8 => br (decide ((0 : Int) ≤ s4 ∧ (s4 : Int) < (((List.length s5) : Nat) : Int)))
 (need False (s5)[(Int.toNat s4)]? fun y9 =>
 c32 (y7.1.1, y7.1.2.1, y7.1.2.2.1, y7.1.2.2.2.1, z8, y7.1.2.2.2.2.2) y9
 (fun z10 => br (List.isEmpty z10)
 (I1 s1 s2 s3 (IntKind.wrap .i64 (s4 + 1)) s5 s6)
 (br (roomB ((List.length s6) + (List.length z10)) 8)
 (I1 s1 s2 s3 (IntKind.wrap .i64 (s4 + 1)) s5 (s6 ++ z10))
 (False /- 61 -/))))
 (False /- 39 -/)))
 (br (decide ((0 : Int) ≤ s4 ∧ (s4 : Int) < (((List.length s5) : Nat) : Int)))
 (need False (s5)[(Int.toNat s4)]? fun y11 =>
 c32 y7.1 y11
 (fun z12 => br (List.isEmpty z12)
 (I1 s1 s2 s3 (IntKind.wrap .i64 (s4 + 1)) s5 s6)
 (br (roomB ((List.length s6) + (List.length z12)) 8)
 (I1 s1 s2 s3 (IntKind.wrap .i64 (s4 + 1)) s5 (s6 ++ z12))
 (False /- 61 -/))))
 (False /- 39 -/)))
 (k1 s6)) → I1 s1 s2 s3 s4 s5 s6) →
 I1 s1 s2 s3 s4 s5 s6
structure l21r10 (k1 : (List Int) → Prop) (s1 : List tIT) (s2 : List tIT) (s3 : Int) (s4 : Int) (s5 : List Bool) (s6 : List Int) : Prop where
 of : tl21r10 k1 s1 s2 s3 s4 s5 s6

def tc21 (x1 : List tIT) (x2 : Bool) (k1 : (List Int) → Prop) : Prop :=
 c20 x1
 (fun z3 => l21r3
 (fun z4 z5 => l21r10
 (fun z6 => k1 z6)
 z4 z4 (((List.length z4) : Nat) : Int) 0 z5 [])
 x1 x2 x1 (((List.length x1) : Nat) : Int) 0 z3)
structure c21 (x1 : List tIT) (x2 : Bool) (k1 : (List Int) → Prop) : Prop where
 of : tc21 x1 x2 k1

def tl9r49 (k1 : (List tLF) → (List Int) → Int → (List Int) → (List Int) → (List tMP) → (List tMK) → (List Int) → (List Int) → Int → (List Int) → (List Int) → (List tMP) → (List tMK) → Prop) (s1 : List tLF) (s2 : Int) (s3 : Int) (s4 : List Int) (s5 : Int) (s6 : List Int) (s7 : List Int) (s8 : List tMP) (s9 : List tMK) (s10 : List Int) (s11 : List Int) (s12 : Int) (s13 : List Int) (s14 : List Int) (s15 : List tMP) (s16 : List tMK) (s17 : List (Int × Int × Unit)) : Prop :=
 ∀ (I1 : (List tLF) → Int → Int → (List Int) → Int → (List Int) → (List Int) → (List tMP) → (List tMK) → (List Int) → (List Int) → Int → (List Int) → (List Int) → (List tMP) → (List tMK) → (List (Int × Int × Unit)) → Prop),
 (∀ (s1 : List tLF) (s2 : Int) (s3 : Int) (s4 : List Int) (s5 : Int) (s6 : List Int) (s7 : List Int) (s8 : List tMP) (s9 : List tMK) (s10 : List Int) (s11 : List Int) (s12 : Int) (s13 : List Int) (s14 : List Int) (s15 : List tMP) (s16 : List tMK) (s17 : List (Int × Int × Unit)), (br (decide ((s3 : Int) < s2))
 (br (decide ((0 : Int) ≤ s3 ∧ (s3 : Int) < (((List.length s17) : Nat) : Int)))
 (need False (s17)[(Int.toNat s3)]? fun y18 =>
 br (decide ((0 : Int) ≤ y18.1 ∧ (y18.1 : Int) < (((List.length s11) : Nat) : Int)))
 (need False (s11)[(Int.toNat y18.1)]? fun y19 =>
 br (decide ((0 : Int) ≤ y18.2.1 ∧ (y18.2.1 : Int) < (((List.length s10) : Nat) : Int)))
 (need False (s10)[(Int.toNat y18.2.1)]? fun y20 =>
 br (decide ((0 : Int) ≤ y20 ∧ (y20 : Int) < (((List.length s11) : Nat) : Int)))
 (need False (s11)[(Int.toNat y20)]? fun y21 =>
 br (decide ((0 : Int) ≤ (IntKind.wrap .i64 (y19 + 1)) ∧ ((IntKind.wrap .i64 (y19 + 1)) : Int) < (((List.length s13) : Nat) : Int)))
 (need False (s13)[(Int.toNat (IntKind.wrap .i64 (y19 + 1)))]? fun y22 =>
 I1 s1 s2 (IntKind.wrap .i64 (s3 + 1)) s4 s5 s6 s7 s8 s9 s10 s11 s12 (List.set s13 (Int.toNat (IntKind.wrap .i64 (y19 + 1))) (IntKind.wrap .i64 ((IntKind.wrap .i64 (2 * y21)) + 1))) s14 s15 s16 s17)
 (False /- 39 -/))
 (False /- 39 -/))
 (False /- 39 -/))
 (False /- 39 -/))
 (False /- 39 -/))
 (k1 s1 s4 s5 s6 s7 s8 s9 s10 s11 s12 s13 s14 s15 s16)) → I1 s1 s2 s3 s4 s5 s6 s7 s8 s9 s10 s11 s12 s13 s14 s15 s16 s17) →
 I1 s1 s2 s3 s4 s5 s6 s7 s8 s9 s10 s11 s12 s13 s14 s15 s16 s17
structure l9r49 (k1 : (List tLF) → (List Int) → Int → (List Int) → (List Int) → (List tMP) → (List tMK) → (List Int) → (List Int) → Int → (List Int) → (List Int) → (List tMP) → (List tMK) → Prop) (s1 : List tLF) (s2 : Int) (s3 : Int) (s4 : List Int) (s5 : Int) (s6 : List Int) (s7 : List Int) (s8 : List tMP) (s9 : List tMK) (s10 : List Int) (s11 : List Int) (s12 : Int) (s13 : List Int) (s14 : List Int) (s15 : List tMP) (s16 : List tMK) (s17 : List (Int × Int × Unit)) : Prop where
 of : tl9r49 k1 s1 s2 s3 s4 s5 s6 s7 s8 s9 s10 s11 s12 s13 s14 s15 s16 s17

def tl9r61 (k1 : (List tLF) → Int → Int → (List Int) → Int → (List Int) → (List Int) → (List tMP) → (List tMK) → (List Int) → (List Int) → Int → (List Int) → (List Int) → (List tMP) → (List tMK) → (List Int) → Prop) (s1 : Int) (s2 : List tLF) (s3 : Int) (s4 : Int) (s5 : List (Int × Bool × (List Int) × Int × Unit)) (s6 : Int) (s7 : Int) (s8 : List Int) (s9 : Int) (s10 : List Int) (s11 : List Int) (s12 : List tMP) (s13 : List tMK) (s14 : List Int) (s15 : List Int) (s16 : Int) (s17 : List Int) (s18 : List Int) (s19 : List tMP) (s20 : List tMK) (s21 : List Int) (s22 : tLF) : Prop :=
 ∀ (I1 : Int → (List tLF) → Int → Int → (List (Int × Bool × (List Int) × Int × Unit)) → Int → Int → (List Int) → Int → (List Int) → (List Int) → (List tMP) → (List tMK) → (List Int) → (List Int) → Int → (List Int) → (List Int) → (List tMP) → (List tMK) → (List Int) → (tLF) → Prop),
 (∀ (s1 : Int) (s2 : List tLF) (s3 : Int) (s4 : Int) (s5 : List (Int × Bool × (List Int) × Int × Unit)) (s6 : Int) (s7 : Int) (s8 : List Int) (s9 : Int) (s10 : List Int) (s11 : List Int) (s12 : List tMP) (s13 : List tMK) (s14 : List Int) (s15 : List Int) (s16 : Int) (s17 : List Int) (s18 : List Int) (s19 : List tMP) (s20 : List tMK) (s21 : List Int) (s22 : tLF), (br (decide ((s7 : Int) < s6))
 (need False (at? s5 s7) fun y23 =>
 br (decide ((0 : Int) ≤ s1 ∧ (s1 : Int) < (((List.length s14) : Nat) : Int)))
 (need False (s14)[(Int.toNat s1)]? fun y24 =>
 br (y23.2.1)
 (br (decide ((0 : Int) ≤ (IntKind.wrap .i64 ((IntKind.wrap .i64 (y24 + y23.1)) + 1)) ∧ ((IntKind.wrap .i64 ((IntKind.wrap .i64 (y24 + y23.1)) + 1)) : Int) < (((List.length s15) : Nat) : Int)))
 (need False (s15)[(Int.toNat (IntKind.wrap .i64 ((IntKind.wrap .i64 (y24 + y23.1)) + 1)))]? fun y25 =>
 br (true && true)
 (br (roomB ((List.length s19) + 1) 48)
 (I1 s1 s2 s3 s4 s5 s6 (IntKind.wrap .i64 (s7 + 1)) s8 s9 s10 s11 s12 s13 s14 s15 s16 s17 s18 (s19 ++ [(y25, s22.2.2.2.2.1, y23.2.2.1, y23.2.2.2.1, ())]) s20 s21 s22)
 (False /- 61 -/))
 (False /- 942 -/))
 (False /- 39 -/))
 (br (decide ((0 : Int) ≤ (IntKind.wrap .i64 (y24 + y23.1)) ∧ ((IntKind.wrap .i64 (y24 + y23.1)) : Int) < (((List.length s15) : Nat) : Int)))
 (need False (s15)[(Int.toNat (IntKind.wrap .i64 (y24 + y23.1)))]? fun y26 =>
 br (true && true)
 (br (roomB ((List.length s19) + 1) 48)
 (I1 s1 s2 s3 s4 s5 s6 (IntKind.wrap .i64 (s7 + 1)) s8 s9 s10 s11 s12 s13 s14 s15 s16 s17 s18 (s19 ++ [(y26, s22.2.2.2.2.1, y23.2.2.1, y23.2.2.2.1, ())]) s20 s21 s22)
 (False /- 61 -/))
 (False /- 942 -/))
 (False /- 39 -/)))
 (False /- 39 -/))
 (k1 s2 s3 s4 s8 s9 s10 s11 s12 s13 s14 s15 s16 s17 s18 s19 s20 s21)) → I1 s1 s2 s3 s4 s5 s6 s7 s8 s9 s10 s11 s12 s13 s14 s15 s16 s17 s18 s19 s20 s21 s22) →
 I1 s1 s2 s3 s4 s5 s6 s7 s8 s9 s10 s11 s12 s13 s14 s15 s16 s17 s18 s19 s20 s21 s22
structure l9r61 (k1 : (List tLF) → Int → Int → (List Int) → Int → (List Int) → (List Int) → (List tMP) → (List tMK) → (List Int) → (List Int) → Int → (List Int) → (List Int) → (List tMP) → (List tMK) → (List Int) → Prop) (s1 : Int) (s2 : List tLF) (s3 : Int) (s4 : Int) (s5 : List (Int × Bool × (List Int) × Int × Unit)) (s6 : Int) (s7 : Int) (s8 : List Int) (s9 : Int) (s10 : List Int) (s11 : List Int) (s12 : List tMP) (s13 : List tMK) (s14 : List Int) (s15 : List Int) (s16 : Int) (s17 : List Int) (s18 : List Int) (s19 : List tMP) (s20 : List tMK) (s21 : List Int) (s22 : tLF) : Prop where
 of : tl9r61 k1 s1 s2 s3 s4 s5 s6 s7 s8 s9 s10 s11 s12 s13 s14 s15 s16 s17 s18 s19 s20 s21 s22

def tl9r55 (k1 : (List Int) → Int → (List Int) → (List Int) → (List tMP) → (List tMK) → Int → (List Int) → (List Int) → (List tMP) → (List tMK) → (List Int) → Prop) (s1 : List tLF) (s2 : Int) (s3 : Int) (s4 : List Int) (s5 : Int) (s6 : List Int) (s7 : List Int) (s8 : List tMP) (s9 : List tMK) (s10 : List Int) (s11 : List Int) (s12 : Int) (s13 : List Int) (s14 : List Int) (s15 : List tMP) (s16 : List tMK) (s17 : List Int) : Prop :=
 ∀ (I1 : (List tLF) → Int → Int → (List Int) → Int → (List Int) → (List Int) → (List tMP) → (List tMK) → (List Int) → (List Int) → Int → (List Int) → (List Int) → (List tMP) → (List tMK) → (List Int) → Prop),
 (∀ (s1 : List tLF) (s2 : Int) (s3 : Int) (s4 : List Int) (s5 : Int) (s6 : List Int) (s7 : List Int) (s8 : List tMP) (s9 : List tMK) (s10 : List Int) (s11 : List Int) (s12 : Int) (s13 : List Int) (s14 : List Int) (s15 : List tMP) (s16 : List tMK) (s17 : List Int), (br (decide ((s3 : Int) < s2))
 (need False (at? s1 s3) fun y18 =>
 br (decide ((0 : Int) ≤ s3 ∧ (s3 : Int) < (((List.length s4) : Nat) : Int)))
 (need False (s4)[(Int.toNat s3)]? fun y19 =>
 br (decide ((0 : Int) ≤ y19 ∧ (y19 : Int) < (((List.length s10) : Nat) : Int)))
 (need False (s10)[(Int.toNat y19)]? fun y20 =>
 br (decide ((0 : Int) ≤ y20 ∧ (y20 : Int) < (((List.length s11) : Nat) : Int)))
 (need False (s11)[(Int.toNat y20)]? fun y21 =>
 br (roomB ((List.length s17) + 1) 8)
 (br (decide ((0 : Int) ≤ s3 ∧ (s3 : Int) < (((List.length s4) : Nat) : Int)))
 (need False (s4)[(Int.toNat s3)]? fun y22 =>
 br ((y22 : Int) != s3)
 (I1 s1 s2 (IntKind.wrap .i64 (s3 + 1)) s4 s5 s6 s7 s8 s9 s10 s11 s12 s13 s14 s15 s16 (s17 ++ [y21]))
 (br (decide ((0 : Int) ≤ s3 ∧ (s3 : Int) < (((List.length s10) : Nat) : Int)))
 (need False (s10)[(Int.toNat s3)]? fun y23 =>
 br (decide ((0 : Int) ≤ y23 ∧ (y23 : Int) < (((List.length s11) : Nat) : Int)))
 (need False (s11)[(Int.toNat y23)]? fun y24 =>
 br (true && true)
 (br (roomB ((List.length s14) + 1) 8)
 (l9r61
 (fun z25 z26 z27 z28 z29 z30 z31 z32 z33 z34 z35 z36 z37 z38 z39 z40 z41 => I1 z25 z26 (IntKind.wrap .i64 (z27 + 1)) z28 z29 z30 z31 z32 z33 z34 z35 z36 z37 z38 z39 z40 z41)
 s3 s1 s2 s3 y18.2.2.2.1 (((List.length y18.2.2.2.1) : Nat) : Int) 0 s4 s5 s6 s7 s8 s9 s10 s11 s12 s13 (s14 ++ [y24]) s15 s16 (s17 ++ [y21]) y18)
 (False /- 61 -/))
 (False /- 942 -/))
 (False /- 39 -/))
 (False /- 39 -/)))
 (False /- 39 -/))
 (False /- 61 -/))
 (False /- 39 -/))
 (False /- 39 -/))
 (False /- 39 -/))
 (k1 s4 s5 s6 s7 s8 s9 s12 s13 s14 s15 s16 s17)) → I1 s1 s2 s3 s4 s5 s6 s7 s8 s9 s10 s11 s12 s13 s14 s15 s16 s17) →
 I1 s1 s2 s3 s4 s5 s6 s7 s8 s9 s10 s11 s12 s13 s14 s15 s16 s17
structure l9r55 (k1 : (List Int) → Int → (List Int) → (List Int) → (List tMP) → (List tMK) → Int → (List Int) → (List Int) → (List tMP) → (List tMK) → (List Int) → Prop) (s1 : List tLF) (s2 : Int) (s3 : Int) (s4 : List Int) (s5 : Int) (s6 : List Int) (s7 : List Int) (s8 : List tMP) (s9 : List tMK) (s10 : List Int) (s11 : List Int) (s12 : Int) (s13 : List Int) (s14 : List Int) (s15 : List tMP) (s16 : List tMK) (s17 : List Int) : Prop where
 of : tl9r55 k1 s1 s2 s3 s4 s5 s6 s7 s8 s9 s10 s11 s12 s13 s14 s15 s16 s17

def tc9 (x1 : List tLF) (x2 : Int) (x3 : Bool) (x4 : List Int) (k1 : Int → Bool → (List Int) → (List Int) → (List Int) → (List tMP) → (List tMK) → (List Int) → Prop) : Prop :=
 br (decide ((0 : Int) ≤ (((List.length x1) : Nat) : Int) ∧ ((((List.length x1) : Nat) : Int) : Int) ≤ (((List.length x1) : Nat) : Int) ∧ (((((List.length x1) : Nat) : Int) * 8) : Int) ≤ 140737488355328))
 (l9r5
 (fun z5 z6 z7 z8 z9 z10 z11 z12 z13 z14 z15 => br (decide ((0 : Int) ≤ z6 ∧ (z6 : Int) < (((List.length z8) : Nat) : Int)))
 (need False (z8)[(Int.toNat z6)]? fun y16 =>
 br (decide ((0 : Int) ≤ y16 ∧ (y16 : Int) < (((List.length z15) : Nat) : Int)))
 (need False (z15)[(Int.toNat y16)]? fun y17 =>
 br (decide ((0 : Int) ≤ 0 ∧ (0 : Int) < (((List.length z14) : Nat) : Int)))
 (need False (z14)[0]? fun y18 =>
 l9r14
 (fun z19 z20 z21 z22 z23 z24 z25 z26 z27 z28 z29 => br (decide (((((List.length z27) : Nat) : Int) : Int) > 16384))
 (k1 0 false z21 [] [] [] [] [])
 (c20 z27
 (fun z30 => br (decide ((0 : Int) ≤ (IntKind.wrap .i64 ((((List.length z27) : Nat) : Int) + 1)) ∧ ((IntKind.wrap .i64 ((((List.length z27) : Nat) : Int) + 1)) : Int) ≤ (IntKind.wrap .i64 ((((List.length z27) : Nat) : Int) + 1)) ∧ (((IntKind.wrap .i64 ((((List.length z27) : Nat) : Int) + 1)) * 8) : Int) ≤ 140737488355328))
 (l9r39
 (fun z31 z32 z33 z34 z35 z36 z37 z38 z39 z40 z41 z42 => br (decide ((0 : Int) ≤ (((List.length z39) : Nat) : Int) ∧ ((((List.length z39) : Nat) : Int) : Int) < (((List.length z42) : Nat) : Int)))
 (need False (z42)[(Int.toNat (((List.length z39) : Nat) : Int))]? fun y43 =>
 br (decide ((y43 : Int) > 16384))
 (k1 0 false z33 [] [] [] [] [])
 (c21 z39 z32
 (fun z44 => l9r49
 (fun z45 z46 z47 z48 z49 z50 z51 z52 z53 z54 z55 z56 z57 z58 => l9r55
 (fun z59 z60 z61 z62 z63 z64 z65 z66 z67 z68 z69 z70 => k1 z65 true z59 z66 z67 z68 z69 z70)
 z45 (((List.length z45) : Nat) : Int) 0 z46 z47 z48 z49 z50 z51 z52 z53 z54 z55 z56 z57 z58 [])
 z31 (((List.length z41) : Nat) : Int) 0 z33 z34 z35 z36 z37 z38 z40 z42 0 z44 [] [] [] z41)))
 (False /- 39 -/))
 z19 z20 (((List.length z27) : Nat) : Int) 0 z21 z22 z23 z24 z25 z26 z27 z28 z29 z30 (List.replicate (Int.toNat (IntKind.wrap .i64 ((((List.length z27) : Nat) : Int) + 1))) (0 : Int)))
 (False /- 111 -/))))
 z5 z7 z5 (((List.length z5) : Nat) : Int) 0 z8 z9 z10 z11 z12 z13 (List.set z14 0 (y18.1, y17, y18.2.2)) z15 [])
 (False /- 39 -/))
 (False /- 39 -/))
 (False /- 39 -/))
 x1 x2 x3 2 x1 (((List.length x1) : Nat) : Int) 0 x4 0 [] [] [] [] [((20, 0, 0, 0, 0, ()), 0, ()), ((0, 0, 0, 0, 0, ()), (-1), ())] (List.replicate (Int.toNat (((List.length x1) : Nat) : Int)) (0 : Int)))
 (False /- 111 -/)
structure c9 (x1 : List tLF) (x2 : Int) (x3 : Bool) (x4 : List Int) (k1 : Int → Bool → (List Int) → (List Int) → (List Int) → (List tMP) → (List tMK) → (List Int) → Prop) : Prop where
 of : tc9 x1 x2 x3 x4 k1

def tl3r26 (k1 : Bool → Prop) (k2 : Prop) (s1 : Int) (s2 : Int) (s3 : Int) (s4 : List Int) (s5 : List Int) (s6 : List tMP) (s7 : List tMK) (s8 : List tMP) : Prop :=
 ∀ (I1 : Int → Int → Int → (List Int) → (List Int) → (List tMP) → (List tMK) → (List tMP) → Prop),
 (∀ (s1 : Int) (s2 : Int) (s3 : Int) (s4 : List Int) (s5 : List Int) (s6 : List tMP) (s7 : List tMK) (s8 : List tMP), (br (decide ((s2 : Int) < s1))
 (br (decide ((0 : Int) ≤ s2 ∧ (s2 : Int) < (((List.length s8) : Nat) : Int)))
 (need False (s8)[(Int.toNat s2)]? fun y9 =>
 br (decide ((0 : Int) ≤ s2 ∧ (s2 : Int) < (((List.length s6) : Nat) : Int)))
 (need False (s6)[(Int.toNat s2)]? fun y10 =>
 br ((y9.1 : Int) != y10.1)
 (k1 false)
 (br ((y9.2.1 : Int) != y10.2.1)
 (k1 false)
 (br ((y9.2.2.2.1 : Int) != y10.2.2.2.1)
 (k1 false)
 (c10 y9.2.2.1 y10.2.2.1
 (fun z11 => br (!z11)
 (k1 false)
 (I1 s1 (IntKind.wrap .i64 (s2 + 1)) s3 s4 s5 s6 s7 s8))))))
 (False /- 39 -/))
 (False /- 39 -/))
 (k2)) → I1 s1 s2 s3 s4 s5 s6 s7 s8) →
 I1 s1 s2 s3 s4 s5 s6 s7 s8
structure l3r26 (k1 : Bool → Prop) (k2 : Prop) (s1 : Int) (s2 : Int) (s3 : Int) (s4 : List Int) (s5 : List Int) (s6 : List tMP) (s7 : List tMK) (s8 : List tMP) : Prop where
 of : tl3r26 k1 k2 s1 s2 s3 s4 s5 s6 s7 s8

def tj3r18 (k1 : Bool → Prop) (s1 : List tLF) (s2 : Int) (s3 : Bool) (s4 : Int) (s5 : Int) (s6 : List Int) (s7 : Int) (s8 : List Int) (s9 : List Int) (s10 : List tMP) (s11 : List tMK) (s12 : List Int) : Prop :=
 br ((s4 : Int) != 0)
 (br ((s5 : Int) == s4)
 (k1 (((IntKind.wrap .i64 ((((List.length s8) : Nat) : Int) + (((List.length s12) : Nat) : Int))) : Int) == 0))
 (k1 false))
 (c9 s1 s2 s3 s6
 (fun z13 z14 z15 z16 z17 z18 z19 z20 => br (!z14)
 (br ((s5 : Int) == 2)
 (k1 (((IntKind.wrap .i64 ((((List.length s8) : Nat) : Int) + (((List.length s12) : Nat) : Int))) : Int) == 0))
 (k1 false))
 (br ((s5 : Int) != 0)
 (k1 false)
 (br ((s7 : Int) != 0)
 (k1 false)
 (br (((((List.length s11) : Nat) : Int) : Int) != 0)
 (k1 false)
 (c10 s8 z16
 (fun z21 => br (!z21)
 (k1 false)
 (c10 s12 z20
 (fun z22 => br (!z22)
 (k1 false)
 (c10 s9 z17
 (fun z23 => br (!z23)
 (k1 false)
 (br (((((List.length s10) : Nat) : Int) : Int) != (((List.length z18) : Nat) : Int))
 (k1 false)
 (l3r26
 (fun z24 => k1 z24)
 (k1 true)
 (((List.length s10) : Nat) : Int) 0 z13 z16 z17 z18 z19 s10)))))))))))))
structure j3r18 (k1 : Bool → Prop) (s1 : List tLF) (s2 : Int) (s3 : Bool) (s4 : Int) (s5 : Int) (s6 : List Int) (s7 : Int) (s8 : List Int) (s9 : List Int) (s10 : List tMP) (s11 : List tMK) (s12 : List Int) : Prop where
 of : tj3r18 k1 s1 s2 s3 s4 s5 s6 s7 s8 s9 s10 s11 s12

def tj3r15 (k1 : Bool → Prop) (s1 : List tLF) (s2 : Int) (s3 : Bool) (s4 : Int) (s5 : List Int) : Prop :=
 c8 s1 s2 s3 s5
 (fun z6 z7 z8 z9 z10 z11 z12 z13 => br ((s4 : Int) == 0)
 (br (decide ((s2 : Int) < 0))
 (j3r18
 (fun z14 => k1 z14)
 s1 s2 s3 12 z7 z8 z6 z9 z10 z11 z12 z13)
 (br (decide ((s2 : Int) ≥ (((List.length s1) : Nat) : Int)))
 (j3r18
 (fun z15 => k1 z15)
 s1 s2 s3 12 z7 z8 z6 z9 z10 z11 z12 z13)
 (j3r18
 (fun z16 => k1 z16)
 s1 s2 s3 s4 z7 z8 z6 z9 z10 z11 z12 z13)))
 (j3r18
 (fun z17 => k1 z17)
 s1 s2 s3 s4 z7 z8 z6 z9 z10 z11 z12 z13))
structure j3r15 (k1 : Bool → Prop) (s1 : List tLF) (s2 : Int) (s3 : Bool) (s4 : Int) (s5 : List Int) : Prop where
 of : tj3r15 k1 s1 s2 s3 s4 s5

def tc3 (x1 : List tLF) (x2 : Bool) (x3 : Int) (x4 : Bool) (k1 : Bool → Prop) : Prop :=
 c4 
 (fun z5 => br (!z5)
 (k1 false)
 (br (decide ((0 : Int) ≤ 0 ∧ (0 : Int) ≤ (minI (((List.length x1) : Nat) : Int) 12) ∧ ((minI (((List.length x1) : Nat) : Int) 12) : Int) ≤ (((List.length x1) : Nat) : Int)))
 (c5 (List.drop 0 (List.take (Int.toNat (minI (((List.length x1) : Nat) : Int) 12)) x1))
 (fun z6 => c6 (List.drop 0 (List.take (Int.toNat (minI (((List.length x1) : Nat) : Int) 12)) x1))
 (fun z7 => br ((z7 : Int) != z6)
 (k1 false)
 (l3r9
 (fun z8 z9 z10 z11 z12 z13 => br (z9)
 (br ((z12 : Int) == 0)
 (c7 z8
 (fun z14 => j3r15
 (fun z15 => k1 z15)
 z8 z10 z11 z12 z14))
 (j3r15
 (fun z16 => k1 z16)
 z8 z10 z11 z12 z13))
 (j3r15
 (fun z17 => k1 z17)
 z8 z10 z11 z12 z13))
 (List.drop 0 (List.take (Int.toNat (minI (((List.length x1) : Nat) : Int) 12)) x1)) x2 x3 x4 z6 (((List.length (List.drop 0 (List.take (Int.toNat (minI (((List.length x1) : Nat) : Int) 12)) x1))) : Nat) : Int) 0 []))))
 (False /- 79 -/)))
structure c3 (x1 : List tLF) (x2 : Bool) (x3 : Int) (x4 : Bool) (k1 : Bool → Prop) : Prop where
 of : tc3 x1 x2 x3 x4 k1

end Go.Proofs.Ytmafnkmdnajicaa
