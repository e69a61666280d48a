/- What the functions compute, as plain Lean (printed by a program). -/
import Derived.Test.YtfheeikjlehikaaATypT
namespace Go.Proofs.Ytfheeikjlehikaa
open Go.Abs
set_option linter.unusedVariables false
def tc69 (k1 : Int → Int → (List Int) → (List ((List (Int × Int × Int × Int × Int × (List Int) × Unit)) × (Int × Int × Int × Int × Int × (List Int) × Unit) × Unit)) → Prop) : Prop :=
  k1 0 2 [1] [([], (0, 0, 1, 0, 0, [], ()), ())]
structure c69 (k1 : Int → Int → (List Int) → (List ((List (Int × Int × Int × Int × Int × (List Int) × Unit)) × (Int × Int × Int × Int × Int × (List Int) × Unit) × Unit)) → Prop) : Prop where
  of : tc69 k1

def tc93 (x1 : Int) (x2 : Int) (x3 : Int) (k1 : Bool → Prop) : Prop :=
  br (decide ((x1 : Int) ≥ x2))
  (k1 (decide ((x1 : Int) ≤ x3)))
  (k1 false)
structure c93 (x1 : Int) (x2 : Int) (x3 : Int) (k1 : Bool → Prop) : Prop where
  of : tc93 x1 x2 x3 k1

def tl81r2 (k1 : Int → Prop) (k2 : Prop) (s1 : List Int) (s2 : Int) (s3 : Int) (s4 : Int) : Prop :=
  ∀ (I1 : (List Int) → Int → Int → Int → Prop),
    (∀ (s1 : List Int) (s2 : Int) (s3 : Int) (s4 : Int), (br (decide ((s4 : Int) < s3))
    (need False (at? s1 s4) fun y5 =>
     br ((s2 : Int) == y5)
      (k1 s4)
      (I1 s1 s2 s3 (IntKind.wrap .i64 (s4 + 1))))
    (k2)) → I1 s1 s2 s3 s4) →
    I1 s1 s2 s3 s4
structure l81r2 (k1 : Int → Prop) (k2 : Prop) (s1 : List Int) (s2 : Int) (s3 : Int) (s4 : Int) : Prop where
  of : tl81r2 k1 k2 s1 s2 s3 s4

def tc81 (x1 : List Int) (x2 : Int) (k1 : Int → Prop) : Prop :=
  l81r2
  (fun z3 => k1 z3)
  (k1 (-1))
  x1 x2 (((List.length x1) : Nat) : Int) 0
structure c81 (x1 : List Int) (x2 : Int) (k1 : Int → Prop) : Prop where
  of : tc81 x1 x2 k1

def tc94 (x1 : List Int) (x2 : Int) (k1 : Bool → Prop) : Prop :=
  c81 x1 x2
  (fun z3 => k1 (decide ((z3 : Int) ≥ 0)))
structure c94 (x1 : List Int) (x2 : Int) (k1 : Bool → Prop) : Prop where
  of : tc94 x1 x2 k1

def tl30r6 (k1 : Int → Prop) (k2 : (Int × (List Int) × Int × (List ((List (Int × Int × Int × Int × Int × (List Int) × Unit)) × (Int × Int × Int × Int × Int × (List Int) × Unit) × Unit)) × Unit) → Prop) (s1 : List Int) (s2 : Int) (s3 : Int) (s4 : Int × (List Int) × Int × (List ((List (Int × Int × Int × Int × Int × (List Int) × Unit)) × (Int × Int × Int × Int × Int × (List Int) × Unit) × Unit)) × Unit) : Prop :=
  ∀ (I1 : (List Int) → Int → Int → (Int × (List Int) × Int × (List ((List (Int × Int × Int × Int × Int × (List Int) × Unit)) × (Int × Int × Int × Int × Int × (List Int) × Unit) × Unit)) × Unit) → Prop),
    (∀ (s1 : List Int) (s2 : Int) (s3 : Int) (s4 : Int × (List Int) × Int × (List ((List (Int × Int × Int × Int × Int × (List Int) × Unit)) × (Int × Int × Int × Int × Int × (List Int) × Unit) × Unit)) × Unit), (br (decide ((s3 : Int) < s2))
    (need False (at? s1 s3) fun y5 =>
     c93 y5 1 (IntKind.wrap .i64 (s4.2.2.1 - 1))
      (fun z6 => br (!z6)
       (k1 6)
       (br (decide ((0 : Int) ≤ 0 ∧ (0 : Int) ≤ s3 ∧ (s3 : Int) ≤ (((List.length s4.2.1) : Nat) : Int)))
        (c94 (List.drop 0 (List.take (Int.toNat s3) s4.2.1)) y5
         (fun z7 => br (z7)
          (k1 7)
          (I1 s1 s2 (IntKind.wrap .i64 (s3 + 1)) s4)))
        (False /- 79 -/))))
    (k2 s4)) → I1 s1 s2 s3 s4) →
    I1 s1 s2 s3 s4
structure l30r6 (k1 : Int → Prop) (k2 : (Int × (List Int) × Int × (List ((List (Int × Int × Int × Int × Int × (List Int) × Unit)) × (Int × Int × Int × Int × Int × (List Int) × Unit) × Unit)) × Unit) → Prop) (s1 : List Int) (s2 : Int) (s3 : Int) (s4 : Int × (List Int) × Int × (List ((List (Int × Int × Int × Int × Int × (List Int) × Unit)) × (Int × Int × Int × Int × Int × (List Int) × Unit) × Unit)) × Unit) : Prop where
  of : tl30r6 k1 k2 s1 s2 s3 s4

def tc170 (x1 : Int) (k1 : (Bool × Bool × Bool × Bool × Bool × Unit) → Bool → Prop) : Prop :=
  br ((x1 : Int) == 1)
  (k1 (true, true, true, false, false, ()) true)
  (br ((x1 : Int) == 2)
   (k1 (true, true, true, false, false, ()) true)
   (br ((x1 : Int) == 3)
    (k1 (true, true, true, false, false, ()) true)
    (br ((x1 : Int) == 4)
     (k1 (true, true, true, false, false, ()) true)
     (br ((x1 : Int) == 5)
      (k1 (true, true, true, false, false, ()) true)
      (br ((x1 : Int) == 6)
       (k1 (true, true, true, false, false, ()) true)
       (br ((x1 : Int) == 7)
        (k1 (true, true, true, false, false, ()) true)
        (br ((x1 : Int) == 15)
         (k1 (true, true, true, false, false, ()) true)
         (br ((x1 : Int) == 8)
          (k1 (true, true, false, true, false, ()) true)
          (br ((x1 : Int) == 9)
           (k1 (true, true, false, true, false, ()) true)
           (br ((x1 : Int) == 10)
            (k1 (true, true, false, true, false, ()) true)
            (br ((x1 : Int) == 12)
             (k1 (true, true, false, true, false, ()) true)
             (br ((x1 : Int) == 11)
              (k1 (true, false, false, true, false, ()) true)
              (br ((x1 : Int) == 103)
               (k1 (true, false, false, true, false, ()) true)
               (br ((x1 : Int) == 13)
                (k1 (false, true, true, true, false, ()) true)
                (br ((x1 : Int) == 14)
                 (k1 (true, false, true, true, false, ()) true)
                 (br ((x1 : Int) == 23)
                  (k1 (false, true, false, false, false, ()) true)
                  (br ((x1 : Int) == 100)
                   (k1 (true, true, false, false, false, ()) true)
                   (br ((x1 : Int) == 101)
                    (k1 (true, false, false, true, true, ()) true)
                    (br ((x1 : Int) == 102)
                     (k1 (true, true, false, false, true, ()) true)
                     (k1 (false, false, false, false, false, ()) false))))))))))))))))))))
structure c170 (x1 : Int) (k1 : (Bool × Bool × Bool × Bool × Bool × Unit) → Bool → Prop) : Prop where
  of : tc170 x1 k1

def tj95s4 (k1 : Int → Prop) (k2 : Int → (Int × Int × Int × Int × Int × (List Int) × Unit) → Prop) (s1 : Int) (s2 : Bool) (s3 : Int × Int × Int × Int × Int × (List Int) × Unit) : Prop :=
  br (s2)
  (k1 3)
  (k2 s1 s3)
structure j95s4 (k1 : Int → Prop) (k2 : Int → (Int × Int × Int × Int × Int × (List Int) × Unit) → Prop) (s1 : Int) (s2 : Bool) (s3 : Int × Int × Int × Int × Int × (List Int) × Unit) : Prop where
  of : tj95s4 k1 k2 s1 s2 s3

def tj95s6 (k1 : Int → Prop) (k2 : Int → (Int × Int × Int × Int × Int × (List Int) × Unit) → Prop) (s1 : Int) (s2 : Bool) (s3 : Int × Int × Int × Int × Int × (List Int) × Unit) : Prop :=
  br (s2)
  (k1 4)
  (k2 s1 s3)
structure j95s6 (k1 : Int → Prop) (k2 : Int → (Int × Int × Int × Int × Int × (List Int) × Unit) → Prop) (s1 : Int) (s2 : Bool) (s3 : Int × Int × Int × Int × Int × (List Int) × Unit) : Prop where
  of : tj95s6 k1 k2 s1 s2 s3

def tl95r9 (k1 : Int → Prop) (k2 : Prop) (s1 : Int) (s2 : Int) (s3 : Int) (s4 : List Int) : Prop :=
  ∀ (I1 : Int → Int → Int → (List Int) → Prop),
    (∀ (s1 : Int) (s2 : Int) (s3 : Int) (s4 : List Int), (br (decide ((s3 : Int) < s2))
    (br (decide ((0 : Int) ≤ s3 ∧ (s3 : Int) < (((List.length s4) : Nat) : Int)))
     (need False (s4)[(Int.toNat s3)]? fun y5 =>
      c93 y5 0 (IntKind.wrap .i64 (s1 - 1))
       (fun z6 => br (!z6)
        (k1 6)
        (I1 s1 s2 (IntKind.wrap .i64 (s3 + 1)) s4)))
     (False /- 39 -/))
    (k2)) → I1 s1 s2 s3 s4) →
    I1 s1 s2 s3 s4
structure l95r9 (k1 : Int → Prop) (k2 : Prop) (s1 : Int) (s2 : Int) (s3 : Int) (s4 : List Int) : Prop where
  of : tl95r9 k1 k2 s1 s2 s3 s4

def tj95r8 (k1 : Int → Prop) (s1 : Int) (s2 : Int × Int × Int × Int × Int × (List Int) × Unit) : Prop :=
  br (List.isEmpty s2.2.2.2.2.2.1)
  (l95r9
   (fun z3 => k1 z3)
   (k1 0)
   s1 ((3 : Nat) : Int) 0 [s2.2.1, s2.2.2.1, s2.2.2.2.1])
  (br (roomB (3 + (List.length s2.2.2.2.2.2.1)) 8)
   (l95r9
    (fun z4 => k1 z4)
    (k1 0)
    s1 (((List.length ([s2.2.1, s2.2.2.1, s2.2.2.2.1] ++ s2.2.2.2.2.2.1)) : Nat) : Int) 0 ([s2.2.1, s2.2.2.1, s2.2.2.2.1] ++ s2.2.2.2.2.2.1))
   (False /- 61 -/))
structure j95r8 (k1 : Int → Prop) (s1 : Int) (s2 : Int × Int × Int × Int × Int × (List Int) × Unit) : Prop where
  of : tj95r8 k1 s1 s2

def tj95r6 (k1 : Int → Prop) (s1 : Int) (s2 : Int × Int × Int × Int × Int × (List Int) × Unit) : Prop :=
  br (decide (((((List.length s2.2.2.2.2.2.1) : Nat) : Int) : Int) > 6))
  (j95s6
   (fun z3 => k1 z3)
   (fun z4 z5 => j95r8
    (fun z6 => k1 z6)
    z4 z5)
   s1 true s2)
  (c93 s2.2.2.2.2.1 (-2147483648) 2147483647
   (fun z7 => br (!z7)
    (j95s6
     (fun z8 => k1 z8)
     (fun z9 z10 => j95r8
      (fun z11 => k1 z11)
      z9 z10)
     s1 true s2)
    (br ((s2.1 : Int) == 101)
     (c93 s2.2.2.2.2.1 0 255
      (fun z12 => br (!z12)
       (j95s6
        (fun z13 => k1 z13)
        (fun z14 z15 => j95r8
         (fun z16 => k1 z16)
         z14 z15)
        s1 true s2)
       (br ((s2.1 : Int) == 9)
        (c93 s2.2.2.2.2.1 0 31
         (fun z17 => br (!z17)
          (j95s6
           (fun z18 => k1 z18)
           (fun z19 z20 => j95r8
            (fun z21 => k1 z21)
            z19 z20)
           s1 true s2)
          (br ((s2.1 : Int) == 14)
           (c93 s2.2.2.2.2.1 0 4095
            (fun z22 => j95s6
             (fun z23 => k1 z23)
             (fun z24 z25 => j95r8
              (fun z26 => k1 z26)
              z24 z25)
             s1 (!z22) s2))
           (j95s6
            (fun z27 => k1 z27)
            (fun z28 z29 => j95r8
             (fun z30 => k1 z30)
             z28 z29)
            s1 false s2))))
        (br ((s2.1 : Int) == 10)
         (c93 s2.2.2.2.2.1 0 31
          (fun z31 => br (!z31)
           (j95s6
            (fun z32 => k1 z32)
            (fun z33 z34 => j95r8
             (fun z35 => k1 z35)
             z33 z34)
            s1 true s2)
           (br ((s2.1 : Int) == 14)
            (c93 s2.2.2.2.2.1 0 4095
             (fun z36 => j95s6
              (fun z37 => k1 z37)
              (fun z38 z39 => j95r8
               (fun z40 => k1 z40)
               z38 z39)
              s1 (!z36) s2))
            (j95s6
             (fun z41 => k1 z41)
             (fun z42 z43 => j95r8
              (fun z44 => k1 z44)
              z42 z43)
             s1 false s2))))
         (br ((s2.1 : Int) == 14)
          (c93 s2.2.2.2.2.1 0 4095
           (fun z45 => j95s6
            (fun z46 => k1 z46)
            (fun z47 z48 => j95r8
             (fun z49 => k1 z49)
             z47 z48)
            s1 (!z45) s2))
          (j95s6
           (fun z50 => k1 z50)
           (fun z51 z52 => j95r8
            (fun z53 => k1 z53)
            z51 z52)
           s1 false s2))))))
     (br ((s2.1 : Int) == 103)
      (c93 s2.2.2.2.2.1 0 255
       (fun z54 => br (!z54)
        (j95s6
         (fun z55 => k1 z55)
         (fun z56 z57 => j95r8
          (fun z58 => k1 z58)
          z56 z57)
         s1 true s2)
        (br ((s2.1 : Int) == 9)
         (c93 s2.2.2.2.2.1 0 31
          (fun z59 => br (!z59)
           (j95s6
            (fun z60 => k1 z60)
            (fun z61 z62 => j95r8
             (fun z63 => k1 z63)
             z61 z62)
            s1 true s2)
           (br ((s2.1 : Int) == 14)
            (c93 s2.2.2.2.2.1 0 4095
             (fun z64 => j95s6
              (fun z65 => k1 z65)
              (fun z66 z67 => j95r8
               (fun z68 => k1 z68)
               z66 z67)
              s1 (!z64) s2))
            (j95s6
             (fun z69 => k1 z69)
             (fun z70 z71 => j95r8
              (fun z72 => k1 z72)
              z70 z71)
             s1 false s2))))
         (br ((s2.1 : Int) == 10)
          (c93 s2.2.2.2.2.1 0 31
           (fun z73 => br (!z73)
            (j95s6
             (fun z74 => k1 z74)
             (fun z75 z76 => j95r8
              (fun z77 => k1 z77)
              z75 z76)
             s1 true s2)
            (br ((s2.1 : Int) == 14)
             (c93 s2.2.2.2.2.1 0 4095
              (fun z78 => j95s6
               (fun z79 => k1 z79)
               (fun z80 z81 => j95r8
                (fun z82 => k1 z82)
                z80 z81)
               s1 (!z78) s2))
             (j95s6
              (fun z83 => k1 z83)
              (fun z84 z85 => j95r8
               (fun z86 => k1 z86)
               z84 z85)
              s1 false s2))))
          (br ((s2.1 : Int) == 14)
           (c93 s2.2.2.2.2.1 0 4095
            (fun z87 => j95s6
             (fun z88 => k1 z88)
             (fun z89 z90 => j95r8
              (fun z91 => k1 z91)
              z89 z90)
             s1 (!z87) s2))
           (j95s6
            (fun z92 => k1 z92)
            (fun z93 z94 => j95r8
             (fun z95 => k1 z95)
             z93 z94)
            s1 false s2))))))
      (br ((s2.1 : Int) == 9)
       (c93 s2.2.2.2.2.1 0 31
        (fun z96 => br (!z96)
         (j95s6
          (fun z97 => k1 z97)
          (fun z98 z99 => j95r8
           (fun z100 => k1 z100)
           z98 z99)
          s1 true s2)
         (br ((s2.1 : Int) == 14)
          (c93 s2.2.2.2.2.1 0 4095
           (fun z101 => j95s6
            (fun z102 => k1 z102)
            (fun z103 z104 => j95r8
             (fun z105 => k1 z105)
             z103 z104)
            s1 (!z101) s2))
          (j95s6
           (fun z106 => k1 z106)
           (fun z107 z108 => j95r8
            (fun z109 => k1 z109)
            z107 z108)
           s1 false s2))))
       (br ((s2.1 : Int) == 10)
        (c93 s2.2.2.2.2.1 0 31
         (fun z110 => br (!z110)
          (j95s6
           (fun z111 => k1 z111)
           (fun z112 z113 => j95r8
            (fun z114 => k1 z114)
            z112 z113)
           s1 true s2)
          (br ((s2.1 : Int) == 14)
           (c93 s2.2.2.2.2.1 0 4095
            (fun z115 => j95s6
             (fun z116 => k1 z116)
             (fun z117 z118 => j95r8
              (fun z119 => k1 z119)
              z117 z118)
             s1 (!z115) s2))
           (j95s6
            (fun z120 => k1 z120)
            (fun z121 z122 => j95r8
             (fun z123 => k1 z123)
             z121 z122)
            s1 false s2))))
        (br ((s2.1 : Int) == 14)
         (c93 s2.2.2.2.2.1 0 4095
          (fun z124 => j95s6
           (fun z125 => k1 z125)
           (fun z126 z127 => j95r8
            (fun z128 => k1 z128)
            z126 z127)
           s1 (!z124) s2))
         (j95s6
          (fun z129 => k1 z129)
          (fun z130 z131 => j95r8
           (fun z132 => k1 z132)
           z130 z131)
          s1 false s2))))))))
structure j95r6 (k1 : Int → Prop) (s1 : Int) (s2 : Int × Int × Int × Int × Int × (List Int) × Unit) : Prop where
  of : tj95r6 k1 s1 s2

def tc95 (x1 : Int × Int × Int × Int × Int × (List Int) × Unit) (x2 : Int) (k1 : Int → Prop) : Prop :=
  c170 x1.1
  (fun z3 z4 => br (!z4)
   (k1 1)
   (br (!z3.1)
    (br ((x1.2.1 : Int) != 0)
     (j95s4
      (fun z5 => k1 z5)
      (fun z6 z7 => j95r6
       (fun z8 => k1 z8)
       z6 z7)
      x2 true x1)
     (br (!z3.2.1)
      (br ((x1.2.2.1 : Int) != 0)
       (j95s4
        (fun z9 => k1 z9)
        (fun z10 z11 => j95r6
         (fun z12 => k1 z12)
         z10 z11)
        x2 true x1)
       (br (!z3.2.2.1)
        (br ((x1.2.2.2.1 : Int) != 0)
         (j95s4
          (fun z13 => k1 z13)
          (fun z14 z15 => j95r6
           (fun z16 => k1 z16)
           z14 z15)
          x2 true x1)
         (br (!z3.2.2.2.1)
          (br ((x1.2.2.2.2.1 : Int) != 0)
           (j95s4
            (fun z17 => k1 z17)
            (fun z18 z19 => j95r6
             (fun z20 => k1 z20)
             z18 z19)
            x2 true x1)
           (br (!z3.2.2.2.2.1)
            (j95s4
             (fun z21 => k1 z21)
             (fun z22 z23 => j95r6
              (fun z24 => k1 z24)
              z22 z23)
             x2 (decide (((((List.length x1.2.2.2.2.2.1) : Nat) : Int) : Int) > 0)) x1)
            (j95s4
             (fun z25 => k1 z25)
             (fun z26 z27 => j95r6
              (fun z28 => k1 z28)
              z26 z27)
             x2 false x1)))
          (br (!z3.2.2.2.2.1)
           (j95s4
            (fun z29 => k1 z29)
            (fun z30 z31 => j95r6
             (fun z32 => k1 z32)
             z30 z31)
            x2 (decide (((((List.length x1.2.2.2.2.2.1) : Nat) : Int) : Int) > 0)) x1)
           (j95s4
            (fun z33 => k1 z33)
            (fun z34 z35 => j95r6
             (fun z36 => k1 z36)
             z34 z35)
            x2 false x1))))
        (br (!z3.2.2.2.1)
         (br ((x1.2.2.2.2.1 : Int) != 0)
          (j95s4
           (fun z37 => k1 z37)
           (fun z38 z39 => j95r6
            (fun z40 => k1 z40)
            z38 z39)
           x2 true x1)
          (br (!z3.2.2.2.2.1)
           (j95s4
            (fun z41 => k1 z41)
            (fun z42 z43 => j95r6
             (fun z44 => k1 z44)
             z42 z43)
            x2 (decide (((((List.length x1.2.2.2.2.2.1) : Nat) : Int) : Int) > 0)) x1)
           (j95s4
            (fun z45 => k1 z45)
            (fun z46 z47 => j95r6
             (fun z48 => k1 z48)
             z46 z47)
            x2 false x1)))
         (br (!z3.2.2.2.2.1)
          (j95s4
           (fun z49 => k1 z49)
           (fun z50 z51 => j95r6
            (fun z52 => k1 z52)
            z50 z51)
           x2 (decide (((((List.length x1.2.2.2.2.2.1) : Nat) : Int) : Int) > 0)) x1)
          (j95s4
           (fun z53 => k1 z53)
           (fun z54 z55 => j95r6
            (fun z56 => k1 z56)
            z54 z55)
           x2 false x1)))))
      (br (!z3.2.2.1)
       (br ((x1.2.2.2.1 : Int) != 0)
        (j95s4
         (fun z57 => k1 z57)
         (fun z58 z59 => j95r6
          (fun z60 => k1 z60)
          z58 z59)
         x2 true x1)
        (br (!z3.2.2.2.1)
         (br ((x1.2.2.2.2.1 : Int) != 0)
          (j95s4
           (fun z61 => k1 z61)
           (fun z62 z63 => j95r6
            (fun z64 => k1 z64)
            z62 z63)
           x2 true x1)
          (br (!z3.2.2.2.2.1)
           (j95s4
            (fun z65 => k1 z65)
            (fun z66 z67 => j95r6
             (fun z68 => k1 z68)
             z66 z67)
            x2 (decide (((((List.length x1.2.2.2.2.2.1) : Nat) : Int) : Int) > 0)) x1)
           (j95s4
            (fun z69 => k1 z69)
            (fun z70 z71 => j95r6
             (fun z72 => k1 z72)
             z70 z71)
            x2 false x1)))
         (br (!z3.2.2.2.2.1)
          (j95s4
           (fun z73 => k1 z73)
           (fun z74 z75 => j95r6
            (fun z76 => k1 z76)
            z74 z75)
           x2 (decide (((((List.length x1.2.2.2.2.2.1) : Nat) : Int) : Int) > 0)) x1)
          (j95s4
           (fun z77 => k1 z77)
           (fun z78 z79 => j95r6
            (fun z80 => k1 z80)
            z78 z79)
           x2 false x1))))
       (br (!z3.2.2.2.1)
        (br ((x1.2.2.2.2.1 : Int) != 0)
         (j95s4
          (fun z81 => k1 z81)
          (fun z82 z83 => j95r6
           (fun z84 => k1 z84)
           z82 z83)
          x2 true x1)
         (br (!z3.2.2.2.2.1)
          (j95s4
           (fun z85 => k1 z85)
           (fun z86 z87 => j95r6
            (fun z88 => k1 z88)
            z86 z87)
           x2 (decide (((((List.length x1.2.2.2.2.2.1) : Nat) : Int) : Int) > 0)) x1)
          (j95s4
           (fun z89 => k1 z89)
           (fun z90 z91 => j95r6
            (fun z92 => k1 z92)
            z90 z91)
           x2 false x1)))
        (br (!z3.2.2.2.2.1)
         (j95s4
          (fun z93 => k1 z93)
          (fun z94 z95 => j95r6
           (fun z96 => k1 z96)
           z94 z95)
          x2 (decide (((((List.length x1.2.2.2.2.2.1) : Nat) : Int) : Int) > 0)) x1)
         (j95s4
          (fun z97 => k1 z97)
          (fun z98 z99 => j95r6
           (fun z100 => k1 z100)
           z98 z99)
          x2 false x1))))))
    (br (!z3.2.1)
     (br ((x1.2.2.1 : Int) != 0)
      (j95s4
       (fun z101 => k1 z101)
       (fun z102 z103 => j95r6
        (fun z104 => k1 z104)
        z102 z103)
       x2 true x1)
      (br (!z3.2.2.1)
       (br ((x1.2.2.2.1 : Int) != 0)
        (j95s4
         (fun z105 => k1 z105)
         (fun z106 z107 => j95r6
          (fun z108 => k1 z108)
          z106 z107)
         x2 true x1)
        (br (!z3.2.2.2.1)
         (br ((x1.2.2.2.2.1 : Int) != 0)
          (j95s4
           (fun z109 => k1 z109)
           (fun z110 z111 => j95r6
            (fun z112 => k1 z112)
            z110 z111)
           x2 true x1)
          (br (!z3.2.2.2.2.1)
           (j95s4
            (fun z113 => k1 z113)
            (fun z114 z115 => j95r6
             (fun z116 => k1 z116)
             z114 z115)
            x2 (decide (((((List.length x1.2.2.2.2.2.1) : Nat) : Int) : Int) > 0)) x1)
           (j95s4
            (fun z117 => k1 z117)
            (fun z118 z119 => j95r6
             (fun z120 => k1 z120)
             z118 z119)
            x2 false x1)))
         (br (!z3.2.2.2.2.1)
          (j95s4
           (fun z121 => k1 z121)
           (fun z122 z123 => j95r6
            (fun z124 => k1 z124)
            z122 z123)
           x2 (decide (((((List.length x1.2.2.2.2.2.1) : Nat) : Int) : Int) > 0)) x1)
          (j95s4
           (fun z125 => k1 z125)
           (fun z126 z127 => j95r6
            (fun z128 => k1 z128)
            z126 z127)
           x2 false x1))))
       (br (!z3.2.2.2.1)
        (br ((x1.2.2.2.2.1 : Int) != 0)
         (j95s4
          (fun z129 => k1 z129)
          (fun z130 z131 => j95r6
           (fun z132 => k1 z132)
           z130 z131)
          x2 true x1)
         (br (!z3.2.2.2.2.1)
          (j95s4
           (fun z133 => k1 z133)
           (fun z134 z135 => j95r6
            (fun z136 => k1 z136)
            z134 z135)
           x2 (decide (((((List.length x1.2.2.2.2.2.1) : Nat) : Int) : Int) > 0)) x1)
          (j95s4
           (fun z137 => k1 z137)
           (fun z138 z139 => j95r6
            (fun z140 => k1 z140)
            z138 z139)
           x2 false x1)))
        (br (!z3.2.2.2.2.1)
         (j95s4
          (fun z141 => k1 z141)
          (fun z142 z143 => j95r6
           (fun z144 => k1 z144)
           z142 z143)
          x2 (decide (((((List.length x1.2.2.2.2.2.1) : Nat) : Int) : Int) > 0)) x1)
         (j95s4
          (fun z145 => k1 z145)
          (fun z146 z147 => j95r6
           (fun z148 => k1 z148)
           z146 z147)
          x2 false x1)))))
     (br (!z3.2.2.1)
      (br ((x1.2.2.2.1 : Int) != 0)
       (j95s4
        (fun z149 => k1 z149)
        (fun z150 z151 => j95r6
         (fun z152 => k1 z152)
         z150 z151)
        x2 true x1)
       (br (!z3.2.2.2.1)
        (br ((x1.2.2.2.2.1 : Int) != 0)
         (j95s4
          (fun z153 => k1 z153)
          (fun z154 z155 => j95r6
           (fun z156 => k1 z156)
           z154 z155)
          x2 true x1)
         (br (!z3.2.2.2.2.1)
          (j95s4
           (fun z157 => k1 z157)
           (fun z158 z159 => j95r6
            (fun z160 => k1 z160)
            z158 z159)
           x2 (decide (((((List.length x1.2.2.2.2.2.1) : Nat) : Int) : Int) > 0)) x1)
          (j95s4
           (fun z161 => k1 z161)
           (fun z162 z163 => j95r6
            (fun z164 => k1 z164)
            z162 z163)
           x2 false x1)))
        (br (!z3.2.2.2.2.1)
         (j95s4
          (fun z165 => k1 z165)
          (fun z166 z167 => j95r6
           (fun z168 => k1 z168)
           z166 z167)
          x2 (decide (((((List.length x1.2.2.2.2.2.1) : Nat) : Int) : Int) > 0)) x1)
         (j95s4
          (fun z169 => k1 z169)
          (fun z170 z171 => j95r6
           (fun z172 => k1 z172)
           z170 z171)
          x2 false x1))))
      (br (!z3.2.2.2.1)
       (br ((x1.2.2.2.2.1 : Int) != 0)
        (j95s4
         (fun z173 => k1 z173)
         (fun z174 z175 => j95r6
          (fun z176 => k1 z176)
          z174 z175)
         x2 true x1)
        (br (!z3.2.2.2.2.1)
         (j95s4
          (fun z177 => k1 z177)
          (fun z178 z179 => j95r6
           (fun z180 => k1 z180)
           z178 z179)
          x2 (decide (((((List.length x1.2.2.2.2.2.1) : Nat) : Int) : Int) > 0)) x1)
         (j95s4
          (fun z181 => k1 z181)
          (fun z182 z183 => j95r6
           (fun z184 => k1 z184)
           z182 z183)
          x2 false x1)))
       (br (!z3.2.2.2.2.1)
        (j95s4
         (fun z185 => k1 z185)
         (fun z186 z187 => j95r6
          (fun z188 => k1 z188)
          z186 z187)
         x2 (decide (((((List.length x1.2.2.2.2.2.1) : Nat) : Int) : Int) > 0)) x1)
        (j95s4
         (fun z189 => k1 z189)
         (fun z190 z191 => j95r6
          (fun z192 => k1 z192)
          z190 z191)
         x2 false x1)))))))
structure c95 (x1 : Int × Int × Int × Int × Int × (List Int) × Unit) (x2 : Int) (k1 : Int → Prop) : Prop where
  of : tc95 x1 x2 k1

def tl30r21 (k1 : Int → Prop) (k2 : Int → (List ((List (Int × Int × Int × Int × Int × (List Int) × Unit)) × (Int × Int × Int × Int × Int × (List Int) × Unit) × Unit)) → Int → Int → (Int × (List Int) × Int × (List ((List (Int × Int × Int × Int × Int × (List Int) × Unit)) × (Int × Int × Int × Int × Int × (List Int) × Unit) × Unit)) × Unit) → ((List (Int × Int × Int × Int × Int × (List Int) × Unit)) × (Int × Int × Int × Int × Int × (List Int) × Unit) × Unit) → Prop) (s1 : Int) (s2 : List ((List (Int × Int × Int × Int × Int × (List Int) × Unit)) × (Int × Int × Int × Int × Int × (List Int) × Unit) × Unit)) (s3 : Int) (s4 : Int) (s5 : List (Int × Int × Int × Int × Int × (List Int) × Unit)) (s6 : Int) (s7 : Int) (s8 : Int × (List Int) × Int × (List ((List (Int × Int × Int × Int × Int × (List Int) × Unit)) × (Int × Int × Int × Int × Int × (List Int) × Unit) × Unit)) × Unit) (s9 : (List (Int × Int × Int × Int × Int × (List Int) × Unit)) × (Int × Int × Int × Int × Int × (List Int) × Unit) × Unit) : Prop :=
  ∀ (I1 : Int → (List ((List (Int × Int × Int × Int × Int × (List Int) × Unit)) × (Int × Int × Int × Int × Int × (List Int) × Unit) × Unit)) → Int → Int → (List (Int × Int × Int × Int × Int × (List Int) × Unit)) → Int → Int → (Int × (List Int) × Int × (List ((List (Int × Int × Int × Int × Int × (List Int) × Unit)) × (Int × Int × Int × Int × Int × (List Int) × Unit) × Unit)) × Unit) → ((List (Int × Int × Int × Int × Int × (List Int) × Unit)) × (Int × Int × Int × Int × Int × (List Int) × Unit) × Unit) → Prop),
    (∀ (s1 : Int) (s2 : List ((List (Int × Int × Int × Int × Int × (List Int) × Unit)) × (Int × Int × Int × Int × Int × (List Int) × Unit) × Unit)) (s3 : Int) (s4 : Int) (s5 : List (Int × Int × Int × Int × Int × (List Int) × Unit)) (s6 : Int) (s7 : Int) (s8 : Int × (List Int) × Int × (List ((List (Int × Int × Int × Int × Int × (List Int) × Unit)) × (Int × Int × Int × Int × Int × (List Int) × Unit) × Unit)) × Unit) (s9 : (List (Int × Int × Int × Int × Int × (List Int) × Unit)) × (Int × Int × Int × Int × Int × (List Int) × Unit) × Unit), (br (decide ((s7 : Int) < s6))
    (need False (at? s5 s7) fun y10 =>
     c95 y10 s8.2.2.1
      (fun z11 => br ((z11 : Int) != 0)
       (k1 z11)
       (I1 s1 s2 s3 s4 s5 s6 (IntKind.wrap .i64 (s7 + 1)) s8 s9)))
    (k2 s1 s2 s3 s4 s8 s9)) → I1 s1 s2 s3 s4 s5 s6 s7 s8 s9) →
    I1 s1 s2 s3 s4 s5 s6 s7 s8 s9
structure l30r21 (k1 : Int → Prop) (k2 : Int → (List ((List (Int × Int × Int × Int × Int × (List Int) × Unit)) × (Int × Int × Int × Int × Int × (List Int) × Unit) × Unit)) → Int → Int → (Int × (List Int) × Int × (List ((List (Int × Int × Int × Int × Int × (List Int) × Unit)) × (Int × Int × Int × Int × Int × (List Int) × Unit) × Unit)) × Unit) → ((List (Int × Int × Int × Int × Int × (List Int) × Unit)) × (Int × Int × Int × Int × Int × (List Int) × Unit) × Unit) → Prop) (s1 : Int) (s2 : List ((List (Int × Int × Int × Int × Int × (List Int) × Unit)) × (Int × Int × Int × Int × Int × (List Int) × Unit) × Unit)) (s3 : Int) (s4 : Int) (s5 : List (Int × Int × Int × Int × Int × (List Int) × Unit)) (s6 : Int) (s7 : Int) (s8 : Int × (List Int) × Int × (List ((List (Int × Int × Int × Int × Int × (List Int) × Unit)) × (Int × Int × Int × Int × Int × (List Int) × Unit) × Unit)) × Unit) (s9 : (List (Int × Int × Int × Int × Int × (List Int) × Unit)) × (Int × Int × Int × Int × Int × (List Int) × Unit) × Unit) : Prop where
  of : tl30r21 k1 k2 s1 s2 s3 s4 s5 s6 s7 s8 s9

def tl96r17 (k1 : Int → Prop) (k2 : Prop) (s1 : Int) (s2 : List Int) (s3 : Int) (s4 : Int) : Prop :=
  ∀ (I1 : Int → (List Int) → Int → Int → Prop),
    (∀ (s1 : Int) (s2 : List Int) (s3 : Int) (s4 : Int), (br (decide ((s4 : Int) < s3))
    (need False (at? s2 s4) fun y5 =>
     c93 y5 1 (IntKind.wrap .i64 (s1 - 1))
      (fun z6 => br (!z6)
       (k1 4)
       (I1 s1 s2 s3 (IntKind.wrap .i64 (s4 + 1)))))
    (k2)) → I1 s1 s2 s3 s4) →
    I1 s1 s2 s3 s4
structure l96r17 (k1 : Int → Prop) (k2 : Prop) (s1 : Int) (s2 : List Int) (s3 : Int) (s4 : Int) : Prop where
  of : tl96r17 k1 k2 s1 s2 s3 s4

def tj96r12 (k1 : Int → Prop) (s1 : Int) (s2 : Int) (s3 : Int) (s4 : Bool) (s5 : Int × Int × Int × Int × Int × (List Int) × Unit) : Prop :=
  br (!s4)
  (k1 3)
  (br (((((List.length s5.2.2.2.2.2.1) : Nat) : Int) : Int) != s3)
   (k1 3)
   (c93 s5.2.2.1 0 (IntKind.wrap .i64 (s1 - 1))
    (fun z6 => br (!z6)
     (k1 6)
     (c93 s5.2.2.2.1 0 (IntKind.wrap .i64 (s1 - 1))
      (fun z7 => br (!z7)
       (k1 6)
       (l96r17
        (fun z8 => k1 z8)
        (k1 0)
        s2 s5.2.2.2.2.2.1 (((List.length s5.2.2.2.2.2.1) : Nat) : Int) 0))))))
structure j96r12 (k1 : Int → Prop) (s1 : Int) (s2 : Int) (s3 : Int) (s4 : Bool) (s5 : Int × Int × Int × Int × Int × (List Int) × Unit) : Prop where
  of : tj96r12 k1 s1 s2 s3 s4 s5

def tc96 (x1 : Int × Int × Int × Int × Int × (List Int) × Unit) (x2 : Int) (x3 : Int) (k1 : Int → Prop) : Prop :=
  br ((x1.1 : Int) == 0)
  (br ((x1.2.1 : Int) == 0)
   (br ((x1.2.2.2.1 : Int) == 0)
    (j96r12
     (fun z4 => k1 z4)
     x2 x3 0 ((x1.2.2.2.2.1 : Int) == 0) x1)
    (j96r12
     (fun z5 => k1 z5)
     x2 x3 0 false x1))
   (j96r12
    (fun z6 => k1 z6)
    x2 x3 0 false x1))
  (br ((x1.1 : Int) == 1)
   (br ((x1.2.1 : Int) == 0)
    (br ((x1.2.2.1 : Int) == 0)
     (br ((x1.2.2.2.1 : Int) == 0)
      (j96r12
       (fun z7 => k1 z7)
       x2 x3 1 ((x1.2.2.2.2.1 : Int) == 0) x1)
      (j96r12
       (fun z8 => k1 z8)
       x2 x3 1 false x1))
     (j96r12
      (fun z9 => k1 z9)
      x2 x3 1 false x1))
    (j96r12
     (fun z10 => k1 z10)
     x2 x3 1 false x1))
   (br ((x1.1 : Int) == 2)
    (br ((x1.2.1 : Int) == 16)
     (j96r12
      (fun z11 => k1 z11)
      x2 x3 2 ((x1.2.2.2.2.1 : Int) == 0) x1)
     (br ((x1.2.1 : Int) == 17)
      (j96r12
       (fun z12 => k1 z12)
       x2 x3 2 ((x1.2.2.2.2.1 : Int) == 0) x1)
      (br ((x1.2.1 : Int) == 18)
       (j96r12
        (fun z13 => k1 z13)
        x2 x3 2 ((x1.2.2.2.2.1 : Int) == 0) x1)
       (j96r12
        (fun z14 => k1 z14)
        x2 x3 2 false x1))))
    (br ((x1.1 : Int) == 3)
     (br ((x1.2.1 : Int) == 0)
      (br ((x1.2.2.1 : Int) == 0)
       (br ((x1.2.2.2.1 : Int) == 0)
        (c93 x1.2.2.2.2.1 1 6
         (fun z15 => j96r12
          (fun z16 => k1 z16)
          x2 x3 0 z15 x1))
        (j96r12
         (fun z17 => k1 z17)
         x2 x3 0 false x1))
       (j96r12
        (fun z18 => k1 z18)
        x2 x3 0 false x1))
      (j96r12
       (fun z19 => k1 z19)
       x2 x3 0 false x1))
     (k1 1))))
structure c96 (x1 : Int × Int × Int × Int × Int × (List Int) × Unit) (x2 : Int) (x3 : Int) (k1 : Int → Prop) : Prop where
  of : tc96 x1 x2 x3 k1

def tl30r15 (k1 : Int → Prop) (k2 : (Int × (List Int) × Int × (List ((List (Int × Int × Int × Int × Int × (List Int) × Unit)) × (Int × Int × Int × Int × Int × (List Int) × Unit) × Unit)) × Unit) → Prop) (s1 : Int) (s2 : List ((List (Int × Int × Int × Int × Int × (List Int) × Unit)) × (Int × Int × Int × Int × Int × (List Int) × Unit) × Unit)) (s3 : Int) (s4 : Int) (s5 : Int × (List Int) × Int × (List ((List (Int × Int × Int × Int × Int × (List Int) × Unit)) × (Int × Int × Int × Int × Int × (List Int) × Unit) × Unit)) × Unit) : Prop :=
  ∀ (I1 : Int → (List ((List (Int × Int × Int × Int × Int × (List Int) × Unit)) × (Int × Int × Int × Int × Int × (List Int) × Unit) × Unit)) → Int → Int → (Int × (List Int) × Int × (List ((List (Int × Int × Int × Int × Int × (List Int) × Unit)) × (Int × Int × Int × Int × Int × (List Int) × Unit) × Unit)) × Unit) → Prop),
    (∀ (s1 : Int) (s2 : List ((List (Int × Int × Int × Int × Int × (List Int) × Unit)) × (Int × Int × Int × Int × Int × (List Int) × Unit) × Unit)) (s3 : Int) (s4 : Int) (s5 : Int × (List Int) × Int × (List ((List (Int × Int × Int × Int × Int × (List Int) × Unit)) × (Int × Int × Int × Int × Int × (List Int) × Unit) × Unit)) × Unit), (br (decide ((s4 : Int) < s3))
    (need False (at? s2 s4) fun y6 =>
     br (decide (((IntKind.wrap .i64 (s1 + (((List.length y6.1) : Nat) : Int))) : Int) > 4096))
      (k1 2)
      (l30r21
       (fun z7 => k1 z7)
       (fun z8 z9 z10 z11 z12 z13 => c96 z13.2.1 z12.2.2.1 (((List.length z12.2.2.2.1) : Nat) : Int)
        (fun z14 => br ((z14 : Int) != 0)
         (k1 z14)
         (I1 z8 z9 z10 (IntKind.wrap .i64 (z11 + 1)) z12)))
       (IntKind.wrap .i64 (s1 + (((List.length y6.1) : Nat) : Int))) s2 s3 s4 y6.1 (((List.length y6.1) : Nat) : Int) 0 s5 y6))
    (k2 s5)) → I1 s1 s2 s3 s4 s5) →
    I1 s1 s2 s3 s4 s5
structure l30r15 (k1 : Int → Prop) (k2 : (Int × (List Int) × Int × (List ((List (Int × Int × Int × Int × Int × (List Int) × Unit)) × (Int × Int × Int × Int × Int × (List Int) × Unit) × Unit)) × Unit) → Prop) (s1 : Int) (s2 : List ((List (Int × Int × Int × Int × Int × (List Int) × Unit)) × (Int × Int × Int × Int × Int × (List Int) × Unit) × Unit)) (s3 : Int) (s4 : Int) (s5 : Int × (List Int) × Int × (List ((List (Int × Int × Int × Int × Int × (List Int) × Unit)) × (Int × Int × Int × Int × Int × (List Int) × Unit) × Unit)) × Unit) : Prop where
  of : tl30r15 k1 k2 s1 s2 s3 s4 s5

def tl97r3 (k1 : (Int × (List Int) × Int × (List ((List (Int × Int × Int × Int × Int × (List Int) × Unit)) × (Int × Int × Int × Int × Int × (List Int) × Unit) × Unit)) × Unit) → (List (List Bool)) → Prop) (s1 : Int) (s2 : Int) (s3 : Int × (List Int) × Int × (List ((List (Int × Int × Int × Int × Int × (List Int) × Unit)) × (Int × Int × Int × Int × Int × (List Int) × Unit) × Unit)) × Unit) (s4 : List (List Bool)) : Prop :=
  ∀ (I1 : Int → Int → (Int × (List Int) × Int × (List ((List (Int × Int × Int × Int × Int × (List Int) × Unit)) × (Int × Int × Int × Int × Int × (List Int) × Unit) × Unit)) × Unit) → (List (List Bool)) → Prop),
    (∀ (s1 : Int) (s2 : Int) (s3 : Int × (List Int) × Int × (List ((List (Int × Int × Int × Int × Int × (List Int) × Unit)) × (Int × Int × Int × Int × Int × (List Int) × Unit) × Unit)) × Unit) (s4 : List (List Bool)), (br (decide ((s2 : Int) < s1))
    (br (decide ((0 : Int) ≤ s3.2.2.1 ∧ (s3.2.2.1 : Int) ≤ s3.2.2.1 ∧ ((s3.2.2.1 * 1) : Int) ≤ 140737488355328))
     (br (decide ((0 : Int) ≤ s2 ∧ (s2 : Int) < (((List.length s4) : Nat) : Int)))
      (need False (s4)[(Int.toNat s2)]? fun y5 =>
       I1 s1 (IntKind.wrap .i64 (s2 + 1)) s3 (List.set s4 (Int.toNat s2) (List.replicate (Int.toNat s3.2.2.1) (false : Bool))))
      (False /- 39 -/))
     (False /- 111 -/))
    (k1 s3 s4)) → I1 s1 s2 s3 s4) →
    I1 s1 s2 s3 s4
structure l97r3 (k1 : (Int × (List Int) × Int × (List ((List (Int × Int × Int × Int × Int × (List Int) × Unit)) × (Int × Int × Int × Int × Int × (List Int) × Unit) × Unit)) × Unit) → (List (List Bool)) → Prop) (s1 : Int) (s2 : Int) (s3 : Int × (List Int) × Int × (List ((List (Int × Int × Int × Int × Int × (List Int) × Unit)) × (Int × Int × Int × Int × Int × (List Int) × Unit) × Unit)) × Unit) (s4 : List (List Bool)) : Prop where
  of : tl97r3 k1 s1 s2 s3 s4

def tl101r6 (k1 : (List (List Bool)) → (List Int) → Int → Int → (List Bool) → Prop) (s1 : List (List Bool)) (s2 : List Int) (s3 : Int) (s4 : Int) (s5 : List Bool) (s6 : Int) (s7 : Int) (s8 : List Bool) : Prop :=
  ∀ (I1 : (List (List Bool)) → (List Int) → Int → Int → (List Bool) → Int → Int → (List Bool) → Prop),
    (∀ (s1 : List (List Bool)) (s2 : List Int) (s3 : Int) (s4 : Int) (s5 : List Bool) (s6 : Int) (s7 : Int) (s8 : List Bool), (br (decide ((s7 : Int) < s6))
    (need False (at? s5 s7) fun y9 =>
     br (decide ((0 : Int) ≤ s7 ∧ (s7 : Int) < (((List.length s8) : Nat) : Int)))
      (need False (s8)[(Int.toNat s7)]? fun y10 =>
       br (y10)
        (br (decide ((0 : Int) ≤ s7 ∧ (s7 : Int) < (((List.length s8) : Nat) : Int)))
         (need False (s8)[(Int.toNat s7)]? fun y11 =>
          I1 s1 s2 s3 s4 s5 s6 (IntKind.wrap .i64 (s7 + 1)) (List.set s8 (Int.toNat s7) true))
         (False /- 39 -/))
        (br (decide ((0 : Int) ≤ s7 ∧ (s7 : Int) < (((List.length s8) : Nat) : Int)))
         (need False (s8)[(Int.toNat s7)]? fun y12 =>
          I1 s1 s2 s3 s4 s5 s6 (IntKind.wrap .i64 (s7 + 1)) (List.set s8 (Int.toNat s7) y9))
         (False /- 39 -/)))
      (False /- 39 -/))
    (k1 s1 s2 s3 s4 s8)) → I1 s1 s2 s3 s4 s5 s6 s7 s8) →
    I1 s1 s2 s3 s4 s5 s6 s7 s8
structure l101r6 (k1 : (List (List Bool)) → (List Int) → Int → Int → (List Bool) → Prop) (s1 : List (List Bool)) (s2 : List Int) (s3 : Int) (s4 : Int) (s5 : List Bool) (s6 : Int) (s7 : Int) (s8 : List Bool) : Prop where
  of : tl101r6 k1 s1 s2 s3 s4 s5 s6 s7 s8

def tl101r3 (k1 : (List Bool) → Prop) (s1 : List (List Bool)) (s2 : List Int) (s3 : Int) (s4 : Int) (s5 : List Bool) : Prop :=
  ∀ (I1 : (List (List Bool)) → (List Int) → Int → Int → (List Bool) → Prop),
    (∀ (s1 : List (List Bool)) (s2 : List Int) (s3 : Int) (s4 : Int) (s5 : List Bool), (br (decide ((s4 : Int) < s3))
    (need False (at? s2 s4) fun y6 =>
     need False (at? s1 y6) fun y7 =>
      l101r6
       (fun z8 z9 z10 z11 z12 => I1 z8 z9 z10 (IntKind.wrap .i64 (z11 + 1)) z12)
       s1 s2 s3 s4 y7 (((List.length y7) : Nat) : Int) 0 s5)
    (k1 s5)) → I1 s1 s2 s3 s4 s5) →
    I1 s1 s2 s3 s4 s5
structure l101r3 (k1 : (List Bool) → Prop) (s1 : List (List Bool)) (s2 : List Int) (s3 : Int) (s4 : Int) (s5 : List Bool) : Prop where
  of : tl101r3 k1 s1 s2 s3 s4 s5

def tc101 (x1 : Int × (List Int) × Int × (List ((List (Int × Int × Int × Int × Int × (List Int) × Unit)) × (Int × Int × Int × Int × Int × (List Int) × Unit) × Unit)) × Unit) (x2 : List (List Bool)) (x3 : Int) (k1 : (List Bool) → Prop) : Prop :=
  br (decide ((0 : Int) ≤ x1.2.2.1 ∧ (x1.2.2.1 : Int) ≤ x1.2.2.1 ∧ ((x1.2.2.1 * 1) : Int) ≤ 140737488355328))
  (need False (at? x1.2.2.2.1 x3) fun y4 =>
   l101r3
    (fun z5 => k1 z5)
    x2 y4.2.1.2.2.2.2.2.1 (((List.length y4.2.1.2.2.2.2.2.1) : Nat) : Int) 0 (List.replicate (Int.toNat x1.2.2.1) (false : Bool)))
  (False /- 111 -/)
structure c101 (x1 : Int × (List Int) × Int × (List ((List (Int × Int × Int × Int × Int × (List Int) × Unit)) × (Int × Int × Int × Int × Int × (List Int) × Unit) × Unit)) × Unit) (x2 : List (List Bool)) (x3 : Int) (k1 : (List Bool) → Prop) : Prop where
  of : tc101 x1 x2 x3 k1

def tc92 (x1 : Int) (k1 : Bool → Prop) : Prop :=
  k1 ((x1 : Int) == 0)
structure c92 (x1 : Int) (k1 : Bool → Prop) : Prop where
  of : tc92 x1 k1

def tl169r2 (k1 : Int → Prop) (k2 : Prop) (s1 : List Int) (s2 : Int) (s3 : Int) : Prop :=
  ∀ (I1 : (List Int) → Int → Int → Prop),
    (∀ (s1 : List Int) (s2 : Int) (s3 : Int), (br (decide ((s3 : Int) < s2))
    (need False (at? s1 s3) fun y4 =>
     c92 y4
      (fun z5 => br (z5)
       (k1 s3)
       (I1 s1 s2 (IntKind.wrap .i64 (s3 + 1)))))
    (k2)) → I1 s1 s2 s3) →
    I1 s1 s2 s3
structure l169r2 (k1 : Int → Prop) (k2 : Prop) (s1 : List Int) (s2 : Int) (s3 : Int) : Prop where
  of : tl169r2 k1 k2 s1 s2 s3

def tc169 (x1 : List Int) (k1 : Int → Prop) : Prop :=
  l169r2
  (fun z2 => k1 z2)
  (k1 (-1))
  x1 (((List.length x1) : Nat) : Int) 0
structure c169 (x1 : List Int) (k1 : Int → Prop) : Prop where
  of : tc169 x1 k1

def tl90r5 (k1 : Int → (List Int) → Prop) (s1 : Int) (s2 : Int) (s3 : List Int) : Prop :=
  ∀ (I1 : Int → Int → (List Int) → Prop),
    (∀ (s1 : Int) (s2 : Int) (s3 : List Int), (br (decide ((s2 : Int) < (((List.length s3) : Nat) : Int)))
    (br (decide ((0 : Int) ≤ s2 ∧ (s2 : Int) < (((List.length s3) : Nat) : Int)))
     (need False (s3)[(Int.toNat s2)]? fun y4 =>
      c92 y4
       (fun z5 => br (!z5)
        (br (decide ((0 : Int) ≤ s1 ∧ (s1 : Int) < (((List.length s3) : Nat) : Int)))
         (need False (s3)[(Int.toNat s1)]? fun y6 =>
          I1 (IntKind.wrap .i64 (s1 + 1)) (IntKind.wrap .i64 (s2 + 1)) (List.set s3 (Int.toNat s1) y4))
         (False /- 39 -/))
        (I1 s1 (IntKind.wrap .i64 (s2 + 1)) s3)))
     (False /- 39 -/))
    (k1 s1 s3)) → I1 s1 s2 s3) →
    I1 s1 s2 s3
structure l90r5 (k1 : Int → (List Int) → Prop) (s1 : Int) (s2 : Int) (s3 : List Int) : Prop where
  of : tl90r5 k1 s1 s2 s3

def tc90 (x1 : List Int) (k1 : (List Int) → Prop) (k2 : Nat → Nat → Nat → (List Int) → Prop) : Prop :=
  c169 x1
  (fun z2 => br ((z2 : Int) == (-1))
   (k1 x1)
   (l90r5
    (fun z3 z4 => br (decide ((0 : Int) ≤ z3 ∧ (z3 : Int) ≤ (((List.length z4) : Nat) : Int) ∧ ((((List.length z4) : Nat) : Int) : Int) ≤ (((List.length z4) : Nat) : Int) ∧ ((((List.length z4) : Nat) : Int) : Int) ≤ (((List.length z4) : Nat) : Int)))
     (br (decide ((0 : Int) ≤ 0 ∧ (0 : Int) ≤ z3 ∧ (z3 : Int) ≤ (((List.length (((List.take (Int.toNat z3) z4) ++ (List.replicate (Int.toNat ((((List.length z4) : Nat) : Int) - z3)) (0 : Int))) ++ (List.drop ((Int.toNat z3) + (List.length (List.replicate (Int.toNat ((((List.length z4) : Nat) : Int) - z3)) (0 : Int)))) z4))) : Nat) : Int) ∧ ((((List.length (((List.take (Int.toNat z3) z4) ++ (List.replicate (Int.toNat ((((List.length z4) : Nat) : Int) - z3)) (0 : Int))) ++ (List.drop ((Int.toNat z3) + (List.length (List.replicate (Int.toNat ((((List.length z4) : Nat) : Int) - z3)) (0 : Int)))) z4))) : Nat) : Int) : Int) ≤ (((List.length (((List.take (Int.toNat z3) z4) ++ (List.replicate (Int.toNat ((((List.length z4) : Nat) : Int) - z3)) (0 : Int))) ++ (List.drop ((Int.toNat z3) + (List.length (List.replicate (Int.toNat ((((List.length z4) : Nat) : Int) - z3)) (0 : Int)))) z4))) : Nat) : Int)))
      (k2 0 (Int.toNat (z3 - 0)) (Int.toNat ((((List.length (((List.take (Int.toNat z3) z4) ++ (List.replicate (Int.toNat ((((List.length z4) : Nat) : Int) - z3)) (0 : Int))) ++ (List.drop ((Int.toNat z3) + (List.length (List.replicate (Int.toNat ((((List.length z4) : Nat) : Int) - z3)) (0 : Int)))) z4))) : Nat) : Int) - 0)) (((List.take (Int.toNat z3) z4) ++ (List.replicate (Int.toNat ((((List.length z4) : Nat) : Int) - z3)) (0 : Int))) ++ (List.drop ((Int.toNat z3) + (List.length (List.replicate (Int.toNat ((((List.length z4) : Nat) : Int) - z3)) (0 : Int)))) z4)))
      (False /- 82 -/))
     (False /- 82 -/))
    z2 (IntKind.wrap .i64 (z2 + 1)) x1))
structure c90 (x1 : List Int) (k1 : (List Int) → Prop) (k2 : Nat → Nat → Nat → (List Int) → Prop) : Prop where
  of : tc90 x1 k1 k2

def tc29 (x1 : Int × Int × Int × Int × Int × (List Int) × Unit) (k1 : (List Int) → Prop) (k2 : Nat → Nat → Nat → (List Int) → Prop) : Prop :=
  c90 [x1.2.2.1, x1.2.2.2.1]
  (fun z2 => k1 z2)
  (fun z3 z4 z5 z6 => k2 z3 z4 z5 z6)
structure c29 (x1 : Int × Int × Int × Int × Int × (List Int) × Unit) (k1 : (List Int) → Prop) (k2 : Nat → Nat → Nat → (List Int) → Prop) : Prop where
  of : tc29 x1 k1 k2

def tl171r2 (k1 : (List Bool) → ((List (Int × Int × Int × Int × Int × (List Int) × Unit)) × (Int × Int × Int × Int × Int × (List Int) × Unit) × Unit) → Prop) (s1 : Int) (s2 : Int) (s3 : List Bool) (s4 : (List (Int × Int × Int × Int × Int × (List Int) × Unit)) × (Int × Int × Int × Int × Int × (List Int) × Unit) × Unit) (s5 : List Int) : Prop :=
  ∀ (I1 : Int → Int → (List Bool) → ((List (Int × Int × Int × Int × Int × (List Int) × Unit)) × (Int × Int × Int × Int × Int × (List Int) × Unit) × Unit) → (List Int) → Prop),
    (∀ (s1 : Int) (s2 : Int) (s3 : List Bool) (s4 : (List (Int × Int × Int × Int × Int × (List Int) × Unit)) × (Int × Int × Int × Int × Int × (List Int) × Unit) × Unit) (s5 : List Int), (br (decide ((s2 : Int) < s1))
    (br (decide ((0 : Int) ≤ s2 ∧ (s2 : Int) < (((List.length s5) : Nat) : Int)))
     (need False (s5)[(Int.toNat s2)]? fun y6 =>
      br (decide ((0 : Int) ≤ y6 ∧ (y6 : Int) < (((List.length s3) : Nat) : Int)))
       (need False (s3)[(Int.toNat y6)]? fun y7 =>
        I1 s1 (IntKind.wrap .i64 (s2 + 1)) (List.set s3 (Int.toNat y6) true) s4 s5)
       (False /- 39 -/))
     (False /- 39 -/))
    (k1 s3 s4)) → I1 s1 s2 s3 s4 s5) →
    I1 s1 s2 s3 s4 s5
structure l171r2 (k1 : (List Bool) → ((List (Int × Int × Int × Int × Int × (List Int) × Unit)) × (Int × Int × Int × Int × Int × (List Int) × Unit) × Unit) → Prop) (s1 : Int) (s2 : Int) (s3 : List Bool) (s4 : (List (Int × Int × Int × Int × Int × (List Int) × Unit)) × (Int × Int × Int × Int × Int × (List Int) × Unit) × Unit) (s5 : List Int) : Prop where
  of : tl171r2 k1 s1 s2 s3 s4 s5

def tc24 (x1 : Int × Int × Int × Int × Int × (List Int) × Unit) (k1 : Int → Prop) : Prop :=
  br ((x1.1 : Int) == 13)
  (k1 0)
  (br ((x1.1 : Int) == 23)
   (k1 0)
   (k1 x1.2.1))
structure c24 (x1 : Int × Int × Int × Int × Int × (List Int) × Unit) (k1 : Int → Prop) : Prop where
  of : tc24 x1 k1

def tc91 (x1 : Int) (k1 : Bool → Prop) : Prop :=
  k1 ((x1 : Int) == 0)
structure c91 (x1 : Int) (k1 : Bool → Prop) : Prop where
  of : tc91 x1 k1

def tl169r2v2 (k1 : Int → Prop) (k2 : Prop) (s1 : List Int) (s2 : Int) (s3 : Int) : Prop :=
  ∀ (I1 : (List Int) → Int → Int → Prop),
    (∀ (s1 : List Int) (s2 : Int) (s3 : Int), (br (decide ((s3 : Int) < s2))
    (need False (at? s1 s3) fun y4 =>
     c91 y4
      (fun z5 => br (z5)
       (k1 s3)
       (I1 s1 s2 (IntKind.wrap .i64 (s3 + 1)))))
    (k2)) → I1 s1 s2 s3) →
    I1 s1 s2 s3
structure l169r2v2 (k1 : Int → Prop) (k2 : Prop) (s1 : List Int) (s2 : Int) (s3 : Int) : Prop where
  of : tl169r2v2 k1 k2 s1 s2 s3

def tc169v2 (x1 : List Int) (k1 : Int → Prop) : Prop :=
  l169r2v2
  (fun z2 => k1 z2)
  (k1 (-1))
  x1 (((List.length x1) : Nat) : Int) 0
structure c169v2 (x1 : List Int) (k1 : Int → Prop) : Prop where
  of : tc169v2 x1 k1

def tl90r5v2 (k1 : Int → (List Int) → Prop) (s1 : Int) (s2 : Int) (s3 : List Int) : Prop :=
  ∀ (I1 : Int → Int → (List Int) → Prop),
    (∀ (s1 : Int) (s2 : Int) (s3 : List Int), (br (decide ((s2 : Int) < (((List.length s3) : Nat) : Int)))
    (br (decide ((0 : Int) ≤ s2 ∧ (s2 : Int) < (((List.length s3) : Nat) : Int)))
     (need False (s3)[(Int.toNat s2)]? fun y4 =>
      c91 y4
       (fun z5 => br (!z5)
        (br (decide ((0 : Int) ≤ s1 ∧ (s1 : Int) < (((List.length s3) : Nat) : Int)))
         (need False (s3)[(Int.toNat s1)]? fun y6 =>
          I1 (IntKind.wrap .i64 (s1 + 1)) (IntKind.wrap .i64 (s2 + 1)) (List.set s3 (Int.toNat s1) y4))
         (False /- 39 -/))
        (I1 s1 (IntKind.wrap .i64 (s2 + 1)) s3)))
     (False /- 39 -/))
    (k1 s1 s3)) → I1 s1 s2 s3) →
    I1 s1 s2 s3
structure l90r5v2 (k1 : Int → (List Int) → Prop) (s1 : Int) (s2 : Int) (s3 : List Int) : Prop where
  of : tl90r5v2 k1 s1 s2 s3

def tc90v2 (x1 : List Int) (k1 : (List Int) → Prop) (k2 : Nat → Nat → Nat → (List Int) → Prop) : Prop :=
  c169v2 x1
  (fun z2 => br ((z2 : Int) == (-1))
   (k1 x1)
   (l90r5v2
    (fun z3 z4 => br (decide ((0 : Int) ≤ z3 ∧ (z3 : Int) ≤ (((List.length z4) : Nat) : Int) ∧ ((((List.length z4) : Nat) : Int) : Int) ≤ (((List.length z4) : Nat) : Int) ∧ ((((List.length z4) : Nat) : Int) : Int) ≤ (((List.length z4) : Nat) : Int)))
     (br (decide ((0 : Int) ≤ 0 ∧ (0 : Int) ≤ z3 ∧ (z3 : Int) ≤ (((List.length (((List.take (Int.toNat z3) z4) ++ (List.replicate (Int.toNat ((((List.length z4) : Nat) : Int) - z3)) (0 : Int))) ++ (List.drop ((Int.toNat z3) + (List.length (List.replicate (Int.toNat ((((List.length z4) : Nat) : Int) - z3)) (0 : Int)))) z4))) : Nat) : Int) ∧ ((((List.length (((List.take (Int.toNat z3) z4) ++ (List.replicate (Int.toNat ((((List.length z4) : Nat) : Int) - z3)) (0 : Int))) ++ (List.drop ((Int.toNat z3) + (List.length (List.replicate (Int.toNat ((((List.length z4) : Nat) : Int) - z3)) (0 : Int)))) z4))) : Nat) : Int) : Int) ≤ (((List.length (((List.take (Int.toNat z3) z4) ++ (List.replicate (Int.toNat ((((List.length z4) : Nat) : Int) - z3)) (0 : Int))) ++ (List.drop ((Int.toNat z3) + (List.length (List.replicate (Int.toNat ((((List.length z4) : Nat) : Int) - z3)) (0 : Int)))) z4))) : Nat) : Int)))
      (k2 0 (Int.toNat (z3 - 0)) (Int.toNat ((((List.length (((List.take (Int.toNat z3) z4) ++ (List.replicate (Int.toNat ((((List.length z4) : Nat) : Int) - z3)) (0 : Int))) ++ (List.drop ((Int.toNat z3) + (List.length (List.replicate (Int.toNat ((((List.length z4) : Nat) : Int) - z3)) (0 : Int)))) z4))) : Nat) : Int) - 0)) (((List.take (Int.toNat z3) z4) ++ (List.replicate (Int.toNat ((((List.length z4) : Nat) : Int) - z3)) (0 : Int))) ++ (List.drop ((Int.toNat z3) + (List.length (List.replicate (Int.toNat ((((List.length z4) : Nat) : Int) - z3)) (0 : Int)))) z4)))
      (False /- 82 -/))
     (False /- 82 -/))
    z2 (IntKind.wrap .i64 (z2 + 1)) x1))
structure c90v2 (x1 : List Int) (k1 : (List Int) → Prop) (k2 : Nat → Nat → Nat → (List Int) → Prop) : Prop where
  of : tc90v2 x1 k1 k2

def tc90v3 (x1 : List Int) (k1 : (List Int) → Prop) (k2 : Nat → Nat → Nat → (List Int) → Prop) : Prop :=
  c169v2 x1
  (fun z2 => br ((z2 : Int) == (-1))
   (k1 x1)
   (l90r5v2
    (fun z3 z4 => br (decide ((0 : Int) ≤ z3 ∧ (z3 : Int) ≤ (((List.length z4) : Nat) : Int) ∧ ((((List.length z4) : Nat) : Int) : Int) ≤ (((List.length z4) : Nat) : Int) ∧ ((((List.length z4) : Nat) : Int) : Int) ≤ (((List.length z4) : Nat) : Int)))
     (br (decide ((0 : Int) ≤ 0 ∧ (0 : Int) ≤ z3 ∧ (z3 : Int) ≤ (((List.length (((List.take (Int.toNat z3) z4) ++ (List.replicate (Int.toNat ((((List.length z4) : Nat) : Int) - z3)) (0 : Int))) ++ (List.drop ((Int.toNat z3) + (List.length (List.replicate (Int.toNat ((((List.length z4) : Nat) : Int) - z3)) (0 : Int)))) z4))) : Nat) : Int) ∧ ((((List.length (((List.take (Int.toNat z3) z4) ++ (List.replicate (Int.toNat ((((List.length z4) : Nat) : Int) - z3)) (0 : Int))) ++ (List.drop ((Int.toNat z3) + (List.length (List.replicate (Int.toNat ((((List.length z4) : Nat) : Int) - z3)) (0 : Int)))) z4))) : Nat) : Int) : Int) ≤ (((List.length (((List.take (Int.toNat z3) z4) ++ (List.replicate (Int.toNat ((((List.length z4) : Nat) : Int) - z3)) (0 : Int))) ++ (List.drop ((Int.toNat z3) + (List.length (List.replicate (Int.toNat ((((List.length z4) : Nat) : Int) - z3)) (0 : Int)))) z4))) : Nat) : Int)))
      (k2 0 (Int.toNat (z3 - 0)) (Int.toNat ((((List.length (((List.take (Int.toNat z3) z4) ++ (List.replicate (Int.toNat ((((List.length z4) : Nat) : Int) - z3)) (0 : Int))) ++ (List.drop ((Int.toNat z3) + (List.length (List.replicate (Int.toNat ((((List.length z4) : Nat) : Int) - z3)) (0 : Int)))) z4))) : Nat) : Int) - 0)) (((List.take (Int.toNat z3) z4) ++ (List.replicate (Int.toNat ((((List.length z4) : Nat) : Int) - z3)) (0 : Int))) ++ (List.drop ((Int.toNat z3) + (List.length (List.replicate (Int.toNat ((((List.length z4) : Nat) : Int) - z3)) (0 : Int)))) z4)))
      (False /- 82 -/))
     (False /- 82 -/))
    z2 (IntKind.wrap .i64 (z2 + 1)) x1))
structure c90v3 (x1 : List Int) (k1 : (List Int) → Prop) (k2 : Nat → Nat → Nat → (List Int) → Prop) : Prop where
  of : tc90v3 x1 k1 k2

def tc27 (x1 : Int × Int × Int × Int × Int × (List Int) × Unit) (k1 : (List Int) → Prop) (k2 : Nat → Nat → Nat → (List Int) → Prop) : Prop :=
  br (List.isEmpty x1.2.2.2.2.2.1)
  (c90v2 [x1.2.2.1, x1.2.2.2.1]
   (fun z2 => k1 z2)
   (fun z3 z4 z5 z6 => k2 z3 z4 z5 z6))
  (br (roomB (2 + (List.length x1.2.2.2.2.2.1)) 8)
   (c90v3 ([x1.2.2.1, x1.2.2.2.1] ++ x1.2.2.2.2.2.1)
    (fun z7 => k1 z7)
    (fun z8 z9 z10 z11 => k2 z8 z9 z10 z11))
   (False /- 61 -/))
structure c27 (x1 : Int × Int × Int × Int × Int × (List Int) × Unit) (k1 : (List Int) → Prop) (k2 : Nat → Nat → Nat → (List Int) → Prop) : Prop where
  of : tc27 x1 k1 k2

def tl171r11 (k1 : Int → (List Bool) → ((List (Int × Int × Int × Int × Int × (List Int) × Unit)) × (Int × Int × Int × Int × Int × (List Int) × Unit) × Unit) → Prop) (s1 : Int) (s2 : Int) (s3 : Int) (s4 : List Bool) (s5 : (List (Int × Int × Int × Int × Int × (List Int) × Unit)) × (Int × Int × Int × Int × Int × (List Int) × Unit) × Unit) (s6 : List Int) : Prop :=
  ∀ (I1 : Int → Int → Int → (List Bool) → ((List (Int × Int × Int × Int × Int × (List Int) × Unit)) × (Int × Int × Int × Int × Int × (List Int) × Unit) × Unit) → (List Int) → Prop),
    (∀ (s1 : Int) (s2 : Int) (s3 : Int) (s4 : List Bool) (s5 : (List (Int × Int × Int × Int × Int × (List Int) × Unit)) × (Int × Int × Int × Int × Int × (List Int) × Unit) × Unit) (s6 : List Int), (br (decide ((s3 : Int) < s2))
    (br (decide ((0 : Int) ≤ s3 ∧ (s3 : Int) < (((List.length s6) : Nat) : Int)))
     (need False (s6)[(Int.toNat s3)]? fun y7 =>
      br (decide ((0 : Int) ≤ y7 ∧ (y7 : Int) < (((List.length s4) : Nat) : Int)))
       (need False (s4)[(Int.toNat y7)]? fun y8 =>
        I1 s1 s2 (IntKind.wrap .i64 (s3 + 1)) (List.set s4 (Int.toNat y7) true) s5 s6)
       (False /- 39 -/))
     (False /- 39 -/))
    (k1 s1 s4 s5)) → I1 s1 s2 s3 s4 s5 s6) →
    I1 s1 s2 s3 s4 s5 s6
structure l171r11 (k1 : Int → (List Bool) → ((List (Int × Int × Int × Int × Int × (List Int) × Unit)) × (Int × Int × Int × Int × Int × (List Int) × Unit) × Unit) → Prop) (s1 : Int) (s2 : Int) (s3 : Int) (s4 : List Bool) (s5 : (List (Int × Int × Int × Int × Int × (List Int) × Unit)) × (Int × Int × Int × Int × Int × (List Int) × Unit) × Unit) (s6 : List Int) : Prop where
  of : tl171r11 k1 s1 s2 s3 s4 s5 s6

def tl171r11v2 (k1 : Int → (List Bool) → ((List (Int × Int × Int × Int × Int × (List Int) × Unit)) × (Int × Int × Int × Int × Int × (List Int) × Unit) × Unit) → Prop) (s1 : Int) (s2 : Nat) (s3 : Nat) (s4 : Nat) (s5 : Int) (s6 : Int) (s7 : List Bool) (s8 : (List (Int × Int × Int × Int × Int × (List Int) × Unit)) × (Int × Int × Int × Int × Int × (List Int) × Unit) × Unit) (s9 : List Int) : Prop :=
  ∀ (I1 : Int → Nat → Nat → Nat → Int → Int → (List Bool) → ((List (Int × Int × Int × Int × Int × (List Int) × Unit)) × (Int × Int × Int × Int × Int × (List Int) × Unit) × Unit) → (List Int) → Prop),
    (∀ (s1 : Int) (s2 : Nat) (s3 : Nat) (s4 : Nat) (s5 : Int) (s6 : Int) (s7 : List Bool) (s8 : (List (Int × Int × Int × Int × Int × (List Int) × Unit)) × (Int × Int × Int × Int × Int × (List Int) × Unit) × Unit) (s9 : List Int), (br (decide ((s6 : Int) < s5))
    (br (decide ((0 : Int) ≤ s6 ∧ (s6 : Int) < ((s3 : Nat) : Int)))
     (need False (s9)[(s2 + (Int.toNat s6))]? fun y10 =>
      br (decide ((0 : Int) ≤ y10 ∧ (y10 : Int) < (((List.length s7) : Nat) : Int)))
       (need False (s7)[(Int.toNat y10)]? fun y11 =>
        I1 s1 s2 s3 s4 s5 (IntKind.wrap .i64 (s6 + 1)) (List.set s7 (Int.toNat y10) true) s8 s9)
       (False /- 39 -/))
     (False /- 41 -/))
    (k1 s1 s7 s8)) → I1 s1 s2 s3 s4 s5 s6 s7 s8 s9) →
    I1 s1 s2 s3 s4 s5 s6 s7 s8 s9
structure l171r11v2 (k1 : Int → (List Bool) → ((List (Int × Int × Int × Int × Int × (List Int) × Unit)) × (Int × Int × Int × Int × Int × (List Int) × Unit) × Unit) → Prop) (s1 : Int) (s2 : Nat) (s3 : Nat) (s4 : Nat) (s5 : Int) (s6 : Int) (s7 : List Bool) (s8 : (List (Int × Int × Int × Int × Int × (List Int) × Unit)) × (Int × Int × Int × Int × Int × (List Int) × Unit) × Unit) (s9 : List Int) : Prop where
  of : tl171r11v2 k1 s1 s2 s3 s4 s5 s6 s7 s8 s9

def tl171r7 (k1 : (List Bool) → Prop) (s1 : Int) (s2 : List Bool) (s3 : (List (Int × Int × Int × Int × Int × (List Int) × Unit)) × (Int × Int × Int × Int × Int × (List Int) × Unit) × Unit) : Prop :=
  ∀ (I1 : Int → (List Bool) → ((List (Int × Int × Int × Int × Int × (List Int) × Unit)) × (Int × Int × Int × Int × Int × (List Int) × Unit) × Unit) → Prop),
    (∀ (s1 : Int) (s2 : List Bool) (s3 : (List (Int × Int × Int × Int × Int × (List Int) × Unit)) × (Int × Int × Int × Int × Int × (List Int) × Unit) × Unit), (br (decide ((s1 : Int) ≥ 0))
    (need False (at? s3.1 s1) fun y4 =>
     c24 y4
      (fun z5 => br (decide ((0 : Int) ≤ z5 ∧ (z5 : Int) < (((List.length s2) : Nat) : Int)))
       (need False (s2)[(Int.toNat z5)]? fun y6 =>
        need False (at? s3.1 s1) fun y7 =>
         c27 y7
          (fun z8 => l171r11
           (fun z9 z10 z11 => I1 (IntKind.wrap .i64 (z9 - 1)) z10 z11)
           s1 (((List.length z8) : Nat) : Int) 0 (List.set s2 (Int.toNat z5) false) s3 z8)
          (fun z12 z13 z14 z15 => l171r11v2
           (fun z16 z17 z18 => I1 (IntKind.wrap .i64 (z16 - 1)) z17 z18)
           s1 z12 z13 z14 ((z13 : Nat) : Int) 0 (List.set s2 (Int.toNat z5) false) s3 z15))
       (False /- 39 -/)))
    (k1 s2)) → I1 s1 s2 s3) →
    I1 s1 s2 s3
structure l171r7 (k1 : (List Bool) → Prop) (s1 : Int) (s2 : List Bool) (s3 : (List (Int × Int × Int × Int × Int × (List Int) × Unit)) × (Int × Int × Int × Int × Int × (List Int) × Unit) × Unit) : Prop where
  of : tl171r7 k1 s1 s2 s3

def tl171r2v2 (k1 : (List Bool) → ((List (Int × Int × Int × Int × Int × (List Int) × Unit)) × (Int × Int × Int × Int × Int × (List Int) × Unit) × Unit) → Prop) (s1 : Nat) (s2 : Nat) (s3 : Nat) (s4 : Int) (s5 : Int) (s6 : List Bool) (s7 : (List (Int × Int × Int × Int × Int × (List Int) × Unit)) × (Int × Int × Int × Int × Int × (List Int) × Unit) × Unit) (s8 : List Int) : Prop :=
  ∀ (I1 : Nat → Nat → Nat → Int → Int → (List Bool) → ((List (Int × Int × Int × Int × Int × (List Int) × Unit)) × (Int × Int × Int × Int × Int × (List Int) × Unit) × Unit) → (List Int) → Prop),
    (∀ (s1 : Nat) (s2 : Nat) (s3 : Nat) (s4 : Int) (s5 : Int) (s6 : List Bool) (s7 : (List (Int × Int × Int × Int × Int × (List Int) × Unit)) × (Int × Int × Int × Int × Int × (List Int) × Unit) × Unit) (s8 : List Int), (br (decide ((s5 : Int) < s4))
    (br (decide ((0 : Int) ≤ s5 ∧ (s5 : Int) < ((s2 : Nat) : Int)))
     (need False (s8)[(s1 + (Int.toNat s5))]? fun y9 =>
      br (decide ((0 : Int) ≤ y9 ∧ (y9 : Int) < (((List.length s6) : Nat) : Int)))
       (need False (s6)[(Int.toNat y9)]? fun y10 =>
        I1 s1 s2 s3 s4 (IntKind.wrap .i64 (s5 + 1)) (List.set s6 (Int.toNat y9) true) s7 s8)
       (False /- 39 -/))
     (False /- 41 -/))
    (k1 s6 s7)) → I1 s1 s2 s3 s4 s5 s6 s7 s8) →
    I1 s1 s2 s3 s4 s5 s6 s7 s8
structure l171r2v2 (k1 : (List Bool) → ((List (Int × Int × Int × Int × Int × (List Int) × Unit)) × (Int × Int × Int × Int × Int × (List Int) × Unit) × Unit) → Prop) (s1 : Nat) (s2 : Nat) (s3 : Nat) (s4 : Int) (s5 : Int) (s6 : List Bool) (s7 : (List (Int × Int × Int × Int × Int × (List Int) × Unit)) × (Int × Int × Int × Int × Int × (List Int) × Unit) × Unit) (s8 : List Int) : Prop where
  of : tl171r2v2 k1 s1 s2 s3 s4 s5 s6 s7 s8

def tc171 (x1 : (List (Int × Int × Int × Int × Int × (List Int) × Unit)) × (Int × Int × Int × Int × Int × (List Int) × Unit) × Unit) (x2 : List Bool) (k1 : (List Bool) → Prop) : Prop :=
  c29 x1.2.1
  (fun z3 => l171r2
   (fun z4 z5 => l171r7
    (fun z6 => br (decide ((0 : Int) ≤ 0 ∧ (0 : Int) < (((List.length z6) : Nat) : Int)))
     (need False (z6)[0]? fun y7 =>
      k1 (List.set z6 0 false))
     (False /- 39 -/))
    (IntKind.wrap .i64 ((((List.length z5.1) : Nat) : Int) - 1)) z4 z5)
   (((List.length z3) : Nat) : Int) 0 x2 x1 z3)
  (fun z8 z9 z10 z11 => l171r2v2
   (fun z12 z13 => l171r7
    (fun z14 => br (decide ((0 : Int) ≤ 0 ∧ (0 : Int) < (((List.length z14) : Nat) : Int)))
     (need False (z14)[0]? fun y15 =>
      k1 (List.set z14 0 false))
     (False /- 39 -/))
    (IntKind.wrap .i64 ((((List.length z13.1) : Nat) : Int) - 1)) z12 z13)
   z8 z9 z10 ((z9 : Nat) : Int) 0 x2 x1 z11)
structure c171 (x1 : (List (Int × Int × Int × Int × Int × (List Int) × Unit)) × (Int × Int × Int × Int × Int × (List Int) × Unit) × Unit) (x2 : List Bool) (k1 : (List Bool) → Prop) : Prop where
  of : tc171 x1 x2 k1

def tl172r4 (k1 : Bool → Prop) (k2 : Prop) (s1 : List Bool) (s2 : List Bool) (s3 : Int) (s4 : Int) : Prop :=
  ∀ (I1 : (List Bool) → (List Bool) → Int → Int → Prop),
    (∀ (s1 : List Bool) (s2 : List Bool) (s3 : Int) (s4 : Int), (br (decide ((s4 : Int) < s3))
    (need False (at? s1 s4) fun y5 =>
     need False (at? s2 s4) fun y6 =>
      br (!((y5 : Bool) == y6))
       (k1 false)
       (I1 s1 s2 s3 (IntKind.wrap .i64 (s4 + 1))))
    (k2)) → I1 s1 s2 s3 s4) →
    I1 s1 s2 s3 s4
structure l172r4 (k1 : Bool → Prop) (k2 : Prop) (s1 : List Bool) (s2 : List Bool) (s3 : Int) (s4 : Int) : Prop where
  of : tl172r4 k1 k2 s1 s2 s3 s4

def tc172 (x1 : List Bool) (x2 : List Bool) (k1 : Bool → Prop) : Prop :=
  br (((((List.length x1) : Nat) : Int) : Int) != (((List.length x2) : Nat) : Int))
  (k1 false)
  (l172r4
   (fun z3 => k1 z3)
   (k1 true)
   x1 x2 (((List.length x1) : Nat) : Int) 0)
structure c172 (x1 : List Bool) (x2 : List Bool) (k1 : Bool → Prop) : Prop where
  of : tc172 x1 x2 k1

def tl97r11 (k1 : Bool → (Int × (List Int) × Int × (List ((List (Int × Int × Int × Int × Int × (List Int) × Unit)) × (Int × Int × Int × Int × Int × (List Int) × Unit) × Unit)) × Unit) → (List (List Bool)) → Prop) (s1 : Bool) (s2 : Int) (s3 : Int × (List Int) × Int × (List ((List (Int × Int × Int × Int × Int × (List Int) × Unit)) × (Int × Int × Int × Int × Int × (List Int) × Unit) × Unit)) × Unit) (s4 : List (List Bool)) : Prop :=
  ∀ (I1 : Bool → Int → (Int × (List Int) × Int × (List ((List (Int × Int × Int × Int × Int × (List Int) × Unit)) × (Int × Int × Int × Int × Int × (List Int) × Unit) × Unit)) × Unit) → (List (List Bool)) → Prop),
    (∀ (s1 : Bool) (s2 : Int) (s3 : Int × (List Int) × Int × (List ((List (Int × Int × Int × Int × Int × (List Int) × Unit)) × (Int × Int × Int × Int × Int × (List Int) × Unit) × Unit)) × Unit) (s4 : List (List Bool)), (br (decide ((s2 : Int) ≥ 0))
    (c101 s3 s4 s2
     (fun z5 => need False (at? s3.2.2.2.1 s2) fun y6 =>
      c171 y6 z5
       (fun z7 => br (decide ((0 : Int) ≤ s2 ∧ (s2 : Int) < (((List.length s4) : Nat) : Int)))
        (need False (s4)[(Int.toNat s2)]? fun y8 =>
         c172 z7 y8
          (fun z9 => br (!z9)
           (br (decide ((0 : Int) ≤ s2 ∧ (s2 : Int) < (((List.length s4) : Nat) : Int)))
            (need False (s4)[(Int.toNat s2)]? fun y10 =>
             I1 true (IntKind.wrap .i64 (s2 - 1)) s3 (List.set s4 (Int.toNat s2) z7))
            (False /- 39 -/))
           (I1 s1 (IntKind.wrap .i64 (s2 - 1)) s3 s4)))
        (False /- 39 -/))))
    (k1 s1 s3 s4)) → I1 s1 s2 s3 s4) →
    I1 s1 s2 s3 s4
structure l97r11 (k1 : Bool → (Int × (List Int) × Int × (List ((List (Int × Int × Int × Int × Int × (List Int) × Unit)) × (Int × Int × Int × Int × Int × (List Int) × Unit) × Unit)) × Unit) → (List (List Bool)) → Prop) (s1 : Bool) (s2 : Int) (s3 : Int × (List Int) × Int × (List ((List (Int × Int × Int × Int × Int × (List Int) × Unit)) × (Int × Int × Int × Int × Int × (List Int) × Unit) × Unit)) × Unit) (s4 : List (List Bool)) : Prop where
  of : tl97r11 k1 s1 s2 s3 s4

def tl97r8 (k1 : (List (List Bool)) → Prop) (s1 : Bool) (s2 : Int × (List Int) × Int × (List ((List (Int × Int × Int × Int × Int × (List Int) × Unit)) × (Int × Int × Int × Int × Int × (List Int) × Unit) × Unit)) × Unit) (s3 : List (List Bool)) : Prop :=
  ∀ (I1 : Bool → (Int × (List Int) × Int × (List ((List (Int × Int × Int × Int × Int × (List Int) × Unit)) × (Int × Int × Int × Int × Int × (List Int) × Unit) × Unit)) × Unit) → (List (List Bool)) → Prop),
    (∀ (s1 : Bool) (s2 : Int × (List Int) × Int × (List ((List (Int × Int × Int × Int × Int × (List Int) × Unit)) × (Int × Int × Int × Int × Int × (List Int) × Unit) × Unit)) × Unit) (s3 : List (List Bool)), (br (s1)
    (l97r11
     (fun z4 z5 z6 => I1 z4 z5 z6)
     false (IntKind.wrap .i64 ((((List.length s2.2.2.2.1) : Nat) : Int) - 1)) s2 s3)
    (k1 s3)) → I1 s1 s2 s3) →
    I1 s1 s2 s3
structure l97r8 (k1 : (List (List Bool)) → Prop) (s1 : Bool) (s2 : Int × (List Int) × Int × (List ((List (Int × Int × Int × Int × Int × (List Int) × Unit)) × (Int × Int × Int × Int × Int × (List Int) × Unit) × Unit)) × Unit) (s3 : List (List Bool)) : Prop where
  of : tl97r8 k1 s1 s2 s3

def tc97 (x1 : Int × (List Int) × Int × (List ((List (Int × Int × Int × Int × Int × (List Int) × Unit)) × (Int × Int × Int × Int × Int × (List Int) × Unit) × Unit)) × Unit) (k1 : (List (List Bool)) → Prop) : Prop :=
  br (decide ((0 : Int) ≤ (((List.length x1.2.2.2.1) : Nat) : Int) ∧ ((((List.length x1.2.2.2.1) : Nat) : Int) : Int) ≤ (((List.length x1.2.2.2.1) : Nat) : Int) ∧ (((((List.length x1.2.2.2.1) : Nat) : Int) * 24) : Int) ≤ 140737488355328))
  (l97r3
   (fun z2 z3 => l97r8
    (fun z4 => k1 z4)
    true z2 z3)
   (((List.length (List.replicate (Int.toNat (((List.length x1.2.2.2.1) : Nat) : Int)) ([] : List (Bool)))) : Nat) : Int) 0 x1 (List.replicate (Int.toNat (((List.length x1.2.2.2.1) : Nat) : Int)) ([] : List (Bool))))
  (False /- 111 -/)
structure c97 (x1 : Int × (List Int) × Int × (List ((List (Int × Int × Int × Int × Int × (List Int) × Unit)) × (Int × Int × Int × Int × Int × (List Int) × Unit) × Unit)) × Unit) (k1 : (List (List Bool)) → Prop) : Prop where
  of : tc97 x1 k1

def tl30r33 (k1 : Int → Prop) (k2 : Prop) (s1 : Int) (s2 : Int × (List Int) × Int × (List ((List (Int × Int × Int × Int × Int × (List Int) × Unit)) × (Int × Int × Int × Int × Int × (List Int) × Unit) × Unit)) × Unit) (s3 : List (List Bool)) : Prop :=
  ∀ (I1 : Int → (Int × (List Int) × Int × (List ((List (Int × Int × Int × Int × Int × (List Int) × Unit)) × (Int × Int × Int × Int × Int × (List Int) × Unit) × Unit)) × Unit) → (List (List Bool)) → Prop),
    (∀ (s1 : Int) (s2 : Int × (List Int) × Int × (List ((List (Int × Int × Int × Int × Int × (List Int) × Unit)) × (Int × Int × Int × Int × Int × (List Int) × Unit) × Unit)) × Unit) (s3 : List (List Bool)), (br (decide ((s1 : Int) < s2.2.2.1))
    (br (decide ((0 : Int) ≤ 0 ∧ (0 : Int) < (((List.length s3) : Nat) : Int)))
     (need False (s3)[0]? fun y4 =>
      need False (at? y4 s1) fun y5 =>
       br (y5)
        (c94 s2.2.1 s1
         (fun z6 => br (!z6)
          (k1 12)
          (I1 (IntKind.wrap .i64 (s1 + 1)) s2 s3)))
        (I1 (IntKind.wrap .i64 (s1 + 1)) s2 s3))
     (False /- 39 -/))
    (k2)) → I1 s1 s2 s3) →
    I1 s1 s2 s3
structure l30r33 (k1 : Int → Prop) (k2 : Prop) (s1 : Int) (s2 : Int × (List Int) × Int × (List ((List (Int × Int × Int × Int × Int × (List Int) × Unit)) × (Int × Int × Int × Int × Int × (List Int) × Unit) × Unit)) × Unit) (s3 : List (List Bool)) : Prop where
  of : tl30r33 k1 k2 s1 s2 s3

def tc30 (x1 : Int × (List Int) × Int × (List ((List (Int × Int × Int × Int × Int × (List Int) × Unit)) × (Int × Int × Int × Int × Int × (List Int) × Unit) × Unit)) × Unit) (k1 : Int → Prop) : Prop :=
  br (decide (((((List.length x1.2.1) : Nat) : Int) : Int) > 6))
  (k1 2)
  (br (decide (((((List.length x1.2.2.2.1) : Nat) : Int) : Int) > 4096))
   (k1 2)
   (c93 x1.2.2.1 1 8192
    (fun z2 => br (!z2)
     (k1 2)
     (br (((((List.length x1.2.2.2.1) : Nat) : Int) : Int) == 0)
      (k1 3)
      (l30r6
       (fun z3 => k1 z3)
       (fun z4 => l30r15
        (fun z5 => k1 z5)
        (fun z6 => c97 z6
         (fun z7 => l30r33
          (fun z8 => k1 z8)
          (k1 0)
          1 z6 z7))
        0 z4.2.2.2.1 (((List.length z4.2.2.2.1) : Nat) : Int) 0 z4)
       x1.2.1 (((List.length x1.2.1) : Nat) : Int) 0 x1)))))
structure c30 (x1 : Int × (List Int) × Int × (List ((List (Int × Int × Int × Int × Int × (List Int) × Unit)) × (Int × Int × Int × Int × Int × (List Int) × Unit) × Unit)) × Unit) (k1 : Int → Prop) : Prop where
  of : tc30 x1 k1

def tl32r6 (k1 : (List (List Bool)) → (List (List Bool)) → Prop) (s1 : Int) (s2 : Int) (s3 : Int × (List Int) × Int × (List ((List (Int × Int × Int × Int × Int × (List Int) × Unit)) × (Int × Int × Int × Int × Int × (List Int) × Unit) × Unit)) × Unit) (s4 : List (List Bool)) (s5 : List (List Bool)) : Prop :=
  ∀ (I1 : Int → Int → (Int × (List Int) × Int × (List ((List (Int × Int × Int × Int × Int × (List Int) × Unit)) × (Int × Int × Int × Int × Int × (List Int) × Unit) × Unit)) × Unit) → (List (List Bool)) → (List (List Bool)) → Prop),
    (∀ (s1 : Int) (s2 : Int) (s3 : Int × (List Int) × Int × (List ((List (Int × Int × Int × Int × Int × (List Int) × Unit)) × (Int × Int × Int × Int × Int × (List Int) × Unit) × Unit)) × Unit) (s4 : List (List Bool)) (s5 : List (List Bool)), (br (decide ((s2 : Int) < s1))
    (c101 s3 s4 s2
     (fun z6 => br (roomB ((List.length s5) + 1) 24)
      (I1 s1 (IntKind.wrap .i64 (s2 + 1)) s3 s4 (s5 ++ [z6]))
      (False /- 61 -/)))
    (k1 s4 s5)) → I1 s1 s2 s3 s4 s5) →
    I1 s1 s2 s3 s4 s5
structure l32r6 (k1 : (List (List Bool)) → (List (List Bool)) → Prop) (s1 : Int) (s2 : Int) (s3 : Int × (List Int) × Int × (List ((List (Int × Int × Int × Int × Int × (List Int) × Unit)) × (Int × Int × Int × Int × Int × (List Int) × Unit) × Unit)) × Unit) (s4 : List (List Bool)) (s5 : List (List Bool)) : Prop where
  of : tl32r6 k1 s1 s2 s3 s4 s5

def tc32 (x1 : Int × (List Int) × Int × (List ((List (Int × Int × Int × Int × Int × (List Int) × Unit)) × (Int × Int × Int × Int × Int × (List Int) × Unit) × Unit)) × Unit) (k1 : Int → (List (List Bool)) → (List (List Bool)) → Prop) : Prop :=
  c30 x1
  (fun z2 => br ((z2 : Int) != 0)
   (k1 z2 [] [])
   (c97 x1
    (fun z3 => l32r6
     (fun z4 z5 => k1 0 z4 z5)
     (((List.length x1.2.2.2.1) : Nat) : Int) 0 x1 z3 [])))
structure c32 (x1 : Int × (List Int) × Int × (List ((List (Int × Int × Int × Int × Int × (List Int) × Unit)) × (Int × Int × Int × Int × Int × (List Int) × Unit) × Unit)) × Unit) (k1 : Int → (List (List Bool)) → (List (List Bool)) → Prop) : Prop where
  of : tc32 x1 k1

def tc22 (k1 : Bool → Prop) : Prop :=
  c69 
  (fun z1 z2 z3 z4 => c32 (z1, z3, z2, z4, ())
   (fun z5 z6 z7 => br ((z5 : Int) == 0)
    (br (((((List.length z6) : Nat) : Int) : Int) == 1)
     (br (((((List.length z7) : Nat) : Int) : Int) == 1)
      (br (decide ((0 : Int) ≤ 0 ∧ (0 : Int) < (((List.length z6) : Nat) : Int)))
       (need False (z6)[0]? fun y8 =>
        br (((((List.length y8) : Nat) : Int) : Int) == 2)
         (br (decide ((0 : Int) ≤ 0 ∧ (0 : Int) < (((List.length z6) : Nat) : Int)))
          (need False (z6)[0]? fun y9 =>
           need False (at? y9 1) fun y10 =>
            br (y10)
             (br (decide ((0 : Int) ≤ 0 ∧ (0 : Int) < (((List.length z7) : Nat) : Int)))
              (need False (z7)[0]? fun y11 =>
               br (((((List.length y11) : Nat) : Int) : Int) == 2)
                (br (decide ((0 : Int) ≤ 0 ∧ (0 : Int) < (((List.length z7) : Nat) : Int)))
                 (need False (z7)[0]? fun y12 =>
                  need False (at? y12 1) fun y13 =>
                   k1 (!y13))
                 (False /- 39 -/))
                (k1 false))
              (False /- 39 -/))
             (k1 false))
          (False /- 39 -/))
         (k1 false))
       (False /- 39 -/))
      (k1 false))
     (k1 false))
    (k1 false)))
structure c22 (k1 : Bool → Prop) : Prop where
  of : tc22 k1

def tl23r3 (k1 : Int → (Int × (List Int) × Int × (List ((List (Int × Int × Int × Int × Int × (List Int) × Unit)) × (Int × Int × Int × Int × Int × (List Int) × Unit) × Unit)) × Unit) → Prop) (s1 : Int) (s2 : List ((List (Int × Int × Int × Int × Int × (List Int) × Unit)) × (Int × Int × Int × Int × Int × (List Int) × Unit) × Unit)) (s3 : Int) (s4 : Int) (s5 : Int × (List Int) × Int × (List ((List (Int × Int × Int × Int × Int × (List Int) × Unit)) × (Int × Int × Int × Int × Int × (List Int) × Unit) × Unit)) × Unit) : Prop :=
  ∀ (I1 : Int → (List ((List (Int × Int × Int × Int × Int × (List Int) × Unit)) × (Int × Int × Int × Int × Int × (List Int) × Unit) × Unit)) → Int → Int → (Int × (List Int) × Int × (List ((List (Int × Int × Int × Int × Int × (List Int) × Unit)) × (Int × Int × Int × Int × Int × (List Int) × Unit) × Unit)) × Unit) → Prop),
    (∀ (s1 : Int) (s2 : List ((List (Int × Int × Int × Int × Int × (List Int) × Unit)) × (Int × Int × Int × Int × Int × (List Int) × Unit) × Unit)) (s3 : Int) (s4 : Int) (s5 : Int × (List Int) × Int × (List ((List (Int × Int × Int × Int × Int × (List Int) × Unit)) × (Int × Int × Int × Int × Int × (List Int) × Unit) × Unit)) × Unit), (br (decide ((s4 : Int) < s3))
    (need False (at? s2 s4) fun y6 =>
     I1 (IntKind.wrap .i64 (s1 + (((List.length y6.1) : Nat) : Int))) s2 s3 (IntKind.wrap .i64 (s4 + 1)) s5)
    (k1 s1 s5)) → I1 s1 s2 s3 s4 s5) →
    I1 s1 s2 s3 s4 s5
structure l23r3 (k1 : Int → (Int × (List Int) × Int × (List ((List (Int × Int × Int × Int × Int × (List Int) × Unit)) × (Int × Int × Int × Int × Int × (List Int) × Unit) × Unit)) × Unit) → Prop) (s1 : Int) (s2 : List ((List (Int × Int × Int × Int × Int × (List Int) × Unit)) × (Int × Int × Int × Int × Int × (List Int) × Unit) × Unit)) (s3 : Int) (s4 : Int) (s5 : Int × (List Int) × Int × (List ((List (Int × Int × Int × Int × Int × (List Int) × Unit)) × (Int × Int × Int × Int × Int × (List Int) × Unit) × Unit)) × Unit) : Prop where
  of : tl23r3 k1 s1 s2 s3 s4 s5

def tc23 (x1 : Int × (List Int) × Int × (List ((List (Int × Int × Int × Int × Int × (List Int) × Unit)) × (Int × Int × Int × Int × Int × (List Int) × Unit) × Unit)) × Unit) (k1 : Bool → Prop) : Prop :=
  l23r3
  (fun z2 z3 => br (decide ((z3.2.2.1 : Int) ≤ 40))
   (br (decide (((((List.length z3.2.2.2.1) : Nat) : Int) : Int) ≤ 12))
    (k1 (decide ((z2 : Int) ≤ 60)))
    (k1 false))
   (k1 false))
  0 x1.2.2.2.1 (((List.length x1.2.2.2.1) : Nat) : Int) 0 x1
structure c23 (x1 : Int × (List Int) × Int × (List ((List (Int × Int × Int × Int × Int × (List Int) × Unit)) × (Int × Int × Int × Int × Int × (List Int) × Unit) × Unit)) × Unit) (k1 : Bool → Prop) : Prop where
  of : tc23 x1 k1

def tc25 (x1 : Int × Int × Int × Int × Int × (List Int) × Unit) (k1 : Int → Prop) : Prop :=
  br ((x1.1 : Int) == 13)
  (k1 0)
  (br ((x1.1 : Int) == 23)
   (k1 0)
   (k1 x1.2.1))
structure c25 (x1 : Int × Int × Int × Int × Int × (List Int) × Unit) (k1 : Int → Prop) : Prop where
  of : tc25 x1 k1

def tl28r3 (k1 : (List Int) → Prop) (s1 : Int) (s2 : Int) (s3 : List Int) (s4 : List Int) : Prop :=
  ∀ (I1 : Int → Int → (List Int) → (List Int) → Prop),
    (∀ (s1 : Int) (s2 : Int) (s3 : List Int) (s4 : List Int), (br (decide ((s2 : Int) < s1))
    (br (decide ((0 : Int) ≤ s2 ∧ (s2 : Int) < (((List.length s4) : Nat) : Int)))
     (need False (s4)[(Int.toNat s2)]? fun y5 =>
      br ((y5 : Int) != 0)
       (br (roomB ((List.length s3) + 1) 8)
        (I1 s1 (IntKind.wrap .i64 (s2 + 1)) (s3 ++ [y5]) s4)
        (False /- 61 -/))
       (I1 s1 (IntKind.wrap .i64 (s2 + 1)) s3 s4))
     (False /- 39 -/))
    (k1 s3)) → I1 s1 s2 s3 s4) →
    I1 s1 s2 s3 s4
structure l28r3 (k1 : (List Int) → Prop) (s1 : Int) (s2 : Int) (s3 : List Int) (s4 : List Int) : Prop where
  of : tl28r3 k1 s1 s2 s3 s4

def tc28 (x1 : Int × Int × Int × Int × Int × (List Int) × Unit) (k1 : (List Int) → Prop) : Prop :=
  br (List.isEmpty x1.2.2.2.2.2.1)
  (l28r3
   (fun z2 => k1 z2)
   ((2 : Nat) : Int) 0 [] [x1.2.2.1, x1.2.2.2.1])
  (br (roomB (2 + (List.length x1.2.2.2.2.2.1)) 8)
   (l28r3
    (fun z3 => k1 z3)
    (((List.length ([x1.2.2.1, x1.2.2.2.1] ++ x1.2.2.2.2.2.1)) : Nat) : Int) 0 [] ([x1.2.2.1, x1.2.2.2.1] ++ x1.2.2.2.2.2.1))
   (False /- 61 -/))
structure c28 (x1 : Int × Int × Int × Int × Int × (List Int) × Unit) (k1 : (List Int) → Prop) : Prop where
  of : tc28 x1 k1

def tl26r4 (k1 : Bool → Prop) (k2 : Prop) (s1 : List Int) (s2 : List Int) (s3 : Int) (s4 : Int) : Prop :=
  ∀ (I1 : (List Int) → (List Int) → Int → Int → Prop),
    (∀ (s1 : List Int) (s2 : List Int) (s3 : Int) (s4 : Int), (br (decide ((s4 : Int) < s3))
    (need False (at? s1 s4) fun y5 =>
     need False (at? s2 s4) fun y6 =>
      br ((y5 : Int) != y6)
       (k1 false)
       (I1 s1 s2 s3 (IntKind.wrap .i64 (s4 + 1))))
    (k2)) → I1 s1 s2 s3 s4) →
    I1 s1 s2 s3 s4
structure l26r4 (k1 : Bool → Prop) (k2 : Prop) (s1 : List Int) (s2 : List Int) (s3 : Int) (s4 : Int) : Prop where
  of : tl26r4 k1 k2 s1 s2 s3 s4

def tc26 (x1 : List Int) (x2 : List Int) (k1 : Bool → Prop) : Prop :=
  br (((((List.length x1) : Nat) : Int) : Int) != (((List.length x2) : Nat) : Int))
  (k1 false)
  (l26r4
   (fun z3 => k1 z3)
   (k1 true)
   x1 x2 (((List.length x1) : Nat) : Int) 0)
structure c26 (x1 : List Int) (x2 : List Int) (k1 : Bool → Prop) : Prop where
  of : tc26 x1 x2 k1

def tl4r9 (k1 : Bool → Prop) (k2 : (List ((List (Int × Int × Int × Int × Int × (List Int) × Unit)) × (Int × Int × Int × Int × Int × (List Int) × Unit) × Unit)) → Int → Int → (Int × (List Int) × Int × (List ((List (Int × Int × Int × Int × Int × (List Int) × Unit)) × (Int × Int × Int × Int × Int × (List Int) × Unit) × Unit)) × Unit) → ((List (Int × Int × Int × Int × Int × (List Int) × Unit)) × (Int × Int × Int × Int × Int × (List Int) × Unit) × Unit) → Prop) (s1 : List ((List (Int × Int × Int × Int × Int × (List Int) × Unit)) × (Int × Int × Int × Int × Int × (List Int) × Unit) × Unit)) (s2 : Int) (s3 : Int) (s4 : List (Int × Int × Int × Int × Int × (List Int) × Unit)) (s5 : Int) (s6 : Int) (s7 : Int × (List Int) × Int × (List ((List (Int × Int × Int × Int × Int × (List Int) × Unit)) × (Int × Int × Int × Int × Int × (List Int) × Unit) × Unit)) × Unit) (s8 : (List (Int × Int × Int × Int × Int × (List Int) × Unit)) × (Int × Int × Int × Int × Int × (List Int) × Unit) × Unit) : Prop :=
  ∀ (I1 : (List ((List (Int × Int × Int × Int × Int × (List Int) × Unit)) × (Int × Int × Int × Int × Int × (List Int) × Unit) × Unit)) → Int → Int → (List (Int × Int × Int × Int × Int × (List Int) × Unit)) → Int → Int → (Int × (List Int) × Int × (List ((List (Int × Int × Int × Int × Int × (List Int) × Unit)) × (Int × Int × Int × Int × Int × (List Int) × Unit) × Unit)) × Unit) → ((List (Int × Int × Int × Int × Int × (List Int) × Unit)) × (Int × Int × Int × Int × Int × (List Int) × Unit) × Unit) → Prop),
    (∀ (s1 : List ((List (Int × Int × Int × Int × Int × (List Int) × Unit)) × (Int × Int × Int × Int × Int × (List Int) × Unit) × Unit)) (s2 : Int) (s3 : Int) (s4 : List (Int × Int × Int × Int × Int × (List Int) × Unit)) (s5 : Int) (s6 : Int) (s7 : Int × (List Int) × Int × (List ((List (Int × Int × Int × Int × Int × (List Int) × Unit)) × (Int × Int × Int × Int × Int × (List Int) × Unit) × Unit)) × Unit) (s8 : (List (Int × Int × Int × Int × Int × (List Int) × Unit)) × (Int × Int × Int × Int × Int × (List Int) × Unit) × Unit), (br (decide ((s6 : Int) < s5))
    (need False (at? s4 s6) fun y9 =>
     c24 y9
      (fun z10 => br (eqT (.pair (.int .i64) (.pair (.int .i64) (.pair (.int .i64) (.pair (.int .i64) (.pair (.int .i64) (.pair (.sl (.int .i64)) .unit)))))) y9 y9)
       (c25 y9
        (fun z11 => br ((z10 : Int) != z11)
         (k1 false)
         (c27 y9
          (fun z12 => br (eqT (.pair (.int .i64) (.pair (.int .i64) (.pair (.int .i64) (.pair (.int .i64) (.pair (.int .i64) (.pair (.sl (.int .i64)) .unit)))))) y9 y9)
           (c28 y9
            (fun z13 => c26 z12 z13
             (fun z14 => br (!z14)
              (k1 false)
              (I1 s1 s2 s3 s4 s5 (IntKind.wrap .i64 (s6 + 1)) s7 s8))))
           (False /- 942 -/))
          (fun z15 z16 z17 z18 => br (eqT (.pair (.int .i64) (.pair (.int .i64) (.pair (.int .i64) (.pair (.int .i64) (.pair (.int .i64) (.pair (.sl (.int .i64)) .unit)))))) y9 y9)
           (c28 y9
            (fun z19 => c26 (List.take z16 (List.drop z15 z18)) z19
             (fun z20 => br (!z20)
              (k1 false)
              (I1 s1 s2 s3 s4 s5 (IntKind.wrap .i64 (s6 + 1)) s7 s8))))
           (False /- 942 -/)))))
       (False /- 942 -/)))
    (k2 s1 s2 s3 s7 s8)) → I1 s1 s2 s3 s4 s5 s6 s7 s8) →
    I1 s1 s2 s3 s4 s5 s6 s7 s8
structure l4r9 (k1 : Bool → Prop) (k2 : (List ((List (Int × Int × Int × Int × Int × (List Int) × Unit)) × (Int × Int × Int × Int × Int × (List Int) × Unit) × Unit)) → Int → Int → (Int × (List Int) × Int × (List ((List (Int × Int × Int × Int × Int × (List Int) × Unit)) × (Int × Int × Int × Int × Int × (List Int) × Unit) × Unit)) × Unit) → ((List (Int × Int × Int × Int × Int × (List Int) × Unit)) × (Int × Int × Int × Int × Int × (List Int) × Unit) × Unit) → Prop) (s1 : List ((List (Int × Int × Int × Int × Int × (List Int) × Unit)) × (Int × Int × Int × Int × Int × (List Int) × Unit) × Unit)) (s2 : Int) (s3 : Int) (s4 : List (Int × Int × Int × Int × Int × (List Int) × Unit)) (s5 : Int) (s6 : Int) (s7 : Int × (List Int) × Int × (List ((List (Int × Int × Int × Int × Int × (List Int) × Unit)) × (Int × Int × Int × Int × Int × (List Int) × Unit) × Unit)) × Unit) (s8 : (List (Int × Int × Int × Int × Int × (List Int) × Unit)) × (Int × Int × Int × Int × Int × (List Int) × Unit) × Unit) : Prop where
  of : tl4r9 k1 k2 s1 s2 s3 s4 s5 s6 s7 s8

def tl4r6 (k1 : Bool → Prop) (k2 : (Int × (List Int) × Int × (List ((List (Int × Int × Int × Int × Int × (List Int) × Unit)) × (Int × Int × Int × Int × Int × (List Int) × Unit) × Unit)) × Unit) → Prop) (s1 : List ((List (Int × Int × Int × Int × Int × (List Int) × Unit)) × (Int × Int × Int × Int × Int × (List Int) × Unit) × Unit)) (s2 : Int) (s3 : Int) (s4 : Int × (List Int) × Int × (List ((List (Int × Int × Int × Int × Int × (List Int) × Unit)) × (Int × Int × Int × Int × Int × (List Int) × Unit) × Unit)) × Unit) : Prop :=
  ∀ (I1 : (List ((List (Int × Int × Int × Int × Int × (List Int) × Unit)) × (Int × Int × Int × Int × Int × (List Int) × Unit) × Unit)) → Int → Int → (Int × (List Int) × Int × (List ((List (Int × Int × Int × Int × Int × (List Int) × Unit)) × (Int × Int × Int × Int × Int × (List Int) × Unit) × Unit)) × Unit) → Prop),
    (∀ (s1 : List ((List (Int × Int × Int × Int × Int × (List Int) × Unit)) × (Int × Int × Int × Int × Int × (List Int) × Unit) × Unit)) (s2 : Int) (s3 : Int) (s4 : Int × (List Int) × Int × (List ((List (Int × Int × Int × Int × Int × (List Int) × Unit)) × (Int × Int × Int × Int × Int × (List Int) × Unit) × Unit)) × Unit), (br (decide ((s3 : Int) < s2))
    (need False (at? s1 s3) fun y5 =>
     l4r9
      (fun z6 => k1 z6)
      (fun z7 z8 z9 z10 z11 => c29 z11.2.1
       (fun z12 => br (true && true)
        (br (true && (true && true))
         (br (eqT (.int .i64) z11.2.1.2.2.1 z11.2.1.2.2.1)
          (br (true && true)
           (br (true && (true && true))
            (br (eqT (.int .i64) z11.2.1.2.2.2.1 z11.2.1.2.2.2.1)
             (br (true && (true && ((eqT (.int .i64) z11.2.1.2.2.1 z11.2.1.2.2.1) && ((eqT (.int .i64) z11.2.1.2.2.2.1 z11.2.1.2.2.2.1) && (true && true)))))
              (c28 (0, 0, z11.2.1.2.2.1, z11.2.1.2.2.2.1, 0, [], ())
               (fun z13 => c26 z12 z13
                (fun z14 => br (!z14)
                 (k1 false)
                 (I1 z7 z8 (IntKind.wrap .i64 (z9 + 1)) z10))))
              (False /- 942 -/))
             (False /- 942 -/))
            (False /- 942 -/))
           (False /- 942 -/))
          (False /- 942 -/))
         (False /- 942 -/))
        (False /- 942 -/))
       (fun z15 z16 z17 z18 => br (true && true)
        (br (true && (true && true))
         (br (eqT (.int .i64) z11.2.1.2.2.1 z11.2.1.2.2.1)
          (br (true && true)
           (br (true && (true && true))
            (br (eqT (.int .i64) z11.2.1.2.2.2.1 z11.2.1.2.2.2.1)
             (br (true && (true && ((eqT (.int .i64) z11.2.1.2.2.1 z11.2.1.2.2.1) && ((eqT (.int .i64) z11.2.1.2.2.2.1 z11.2.1.2.2.2.1) && (true && true)))))
              (c28 (0, 0, z11.2.1.2.2.1, z11.2.1.2.2.2.1, 0, [], ())
               (fun z19 => c26 (List.take z16 (List.drop z15 z18)) z19
                (fun z20 => br (!z20)
                 (k1 false)
                 (I1 z7 z8 (IntKind.wrap .i64 (z9 + 1)) z10))))
              (False /- 942 -/))
             (False /- 942 -/))
            (False /- 942 -/))
           (False /- 942 -/))
          (False /- 942 -/))
         (False /- 942 -/))
        (False /- 942 -/)))
      s1 s2 s3 y5.1 (((List.length y5.1) : Nat) : Int) 0 s4 y5)
    (k2 s4)) → I1 s1 s2 s3 s4) →
    I1 s1 s2 s3 s4
structure l4r6 (k1 : Bool → Prop) (k2 : (Int × (List Int) × Int × (List ((List (Int × Int × Int × Int × Int × (List Int) × Unit)) × (Int × Int × Int × Int × Int × (List Int) × Unit) × Unit)) × Unit) → Prop) (s1 : List ((List (Int × Int × Int × Int × Int × (List Int) × Unit)) × (Int × Int × Int × Int × Int × (List Int) × Unit) × Unit)) (s2 : Int) (s3 : Int) (s4 : Int × (List Int) × Int × (List ((List (Int × Int × Int × Int × Int × (List Int) × Unit)) × (Int × Int × Int × Int × Int × (List Int) × Unit) × Unit)) × Unit) : Prop where
  of : tl4r6 k1 k2 s1 s2 s3 s4

def tl31r11 (k1 : Int → Prop) (k2 : (List Int) → Int → Int → (Int × (List Int) × Int × (List ((List (Int × Int × Int × Int × Int × (List Int) × Unit)) × (Int × Int × Int × Int × Int × (List Int) × Unit) × Unit)) × Unit) → Prop) (s1 : Int) (s2 : List Int) (s3 : Int) (s4 : Int) (s5 : List Int) (s6 : Int) (s7 : Int) (s8 : Int × (List Int) × Int × (List ((List (Int × Int × Int × Int × Int × (List Int) × Unit)) × (Int × Int × Int × Int × Int × (List Int) × Unit) × Unit)) × Unit) : Prop :=
  ∀ (I1 : Int → (List Int) → Int → Int → (List Int) → Int → Int → (Int × (List Int) × Int × (List ((List (Int × Int × Int × Int × Int × (List Int) × Unit)) × (Int × Int × Int × Int × Int × (List Int) × Unit) × Unit)) × Unit) → Prop),
    (∀ (s1 : Int) (s2 : List Int) (s3 : Int) (s4 : Int) (s5 : List Int) (s6 : Int) (s7 : Int) (s8 : Int × (List Int) × Int × (List ((List (Int × Int × Int × Int × Int × (List Int) × Unit)) × (Int × Int × Int × Int × Int × (List Int) × Unit) × Unit)) × Unit), (br (decide ((s7 : Int) < s6))
    (need False (at? s5 s7) fun y9 =>
     br ((s1 : Int) == y9)
      (k1 7)
      (I1 s1 s2 s3 s4 s5 s6 (IntKind.wrap .i64 (s7 + 1)) s8))
    (k2 s2 s3 s4 s8)) → I1 s1 s2 s3 s4 s5 s6 s7 s8) →
    I1 s1 s2 s3 s4 s5 s6 s7 s8
structure l31r11 (k1 : Int → Prop) (k2 : (List Int) → Int → Int → (Int × (List Int) × Int × (List ((List (Int × Int × Int × Int × Int × (List Int) × Unit)) × (Int × Int × Int × Int × Int × (List Int) × Unit) × Unit)) × Unit) → Prop) (s1 : Int) (s2 : List Int) (s3 : Int) (s4 : Int) (s5 : List Int) (s6 : Int) (s7 : Int) (s8 : Int × (List Int) × Int × (List ((List (Int × Int × Int × Int × Int × (List Int) × Unit)) × (Int × Int × Int × Int × Int × (List Int) × Unit) × Unit)) × Unit) : Prop where
  of : tl31r11 k1 k2 s1 s2 s3 s4 s5 s6 s7 s8

def tl31r6 (k1 : Int → Prop) (k2 : (Int × (List Int) × Int × (List ((List (Int × Int × Int × Int × Int × (List Int) × Unit)) × (Int × Int × Int × Int × Int × (List Int) × Unit) × Unit)) × Unit) → Prop) (s1 : List Int) (s2 : Int) (s3 : Int) (s4 : Int × (List Int) × Int × (List ((List (Int × Int × Int × Int × Int × (List Int) × Unit)) × (Int × Int × Int × Int × Int × (List Int) × Unit) × Unit)) × Unit) : Prop :=
  ∀ (I1 : (List Int) → Int → Int → (Int × (List Int) × Int × (List ((List (Int × Int × Int × Int × Int × (List Int) × Unit)) × (Int × Int × Int × Int × Int × (List Int) × Unit) × Unit)) × Unit) → Prop),
    (∀ (s1 : List Int) (s2 : Int) (s3 : Int) (s4 : Int × (List Int) × Int × (List ((List (Int × Int × Int × Int × Int × (List Int) × Unit)) × (Int × Int × Int × Int × Int × (List Int) × Unit) × Unit)) × Unit), (br (decide ((s3 : Int) < s2))
    (need False (at? s1 s3) fun y5 =>
     br (decide ((y5 : Int) < 1))
      (k1 6)
      (br (decide ((y5 : Int) ≥ s4.2.2.1))
       (k1 6)
       (br (decide ((0 : Int) ≤ 0 ∧ (0 : Int) ≤ s3 ∧ (s3 : Int) ≤ (((List.length s4.2.1) : Nat) : Int)))
        (l31r11
         (fun z6 => k1 z6)
         (fun z7 z8 z9 z10 => I1 z7 z8 (IntKind.wrap .i64 (z9 + 1)) z10)
         y5 s1 s2 s3 (List.drop 0 (List.take (Int.toNat s3) s4.2.1)) (((List.length (List.drop 0 (List.take (Int.toNat s3) s4.2.1))) : Nat) : Int) 0 s4)
        (False /- 79 -/))))
    (k2 s4)) → I1 s1 s2 s3 s4) →
    I1 s1 s2 s3 s4
structure l31r6 (k1 : Int → Prop) (k2 : (Int × (List Int) × Int × (List ((List (Int × Int × Int × Int × Int × (List Int) × Unit)) × (Int × Int × Int × Int × Int × (List Int) × Unit) × Unit)) × Unit) → Prop) (s1 : List Int) (s2 : Int) (s3 : Int) (s4 : Int × (List Int) × Int × (List ((List (Int × Int × Int × Int × Int × (List Int) × Unit)) × (Int × Int × Int × Int × Int × (List Int) × Unit) × Unit)) × Unit) : Prop where
  of : tl31r6 k1 k2 s1 s2 s3 s4

def tc103 (k1 : (List (List UInt8)) → Prop) : Prop :=
  k1 [[], [(68 : UInt8), (65 : UInt8), (66 : UInt8)], [(68 : UInt8), (65 : UInt8), (66 : UInt8)], [(68 : UInt8), (65 : UInt8), (66 : UInt8)], [(68 : UInt8), (65 : UInt8), (66 : UInt8)], [(68 : UInt8), (65 : UInt8), (66 : UInt8)], [(68 : UInt8), (65 : UInt8), (66 : UInt8)], [(68 : UInt8), (65 : UInt8), (66 : UInt8)], [(68 : UInt8), (65 : UInt8), (78 : UInt8)], [(68 : UInt8), (65 : UInt8), (78 : UInt8)], [(68 : UInt8), (65 : UInt8), (78 : UInt8)], [(68 : UInt8), (78 : UInt8)], [(68 : UInt8), (65 : UInt8), (78 : UInt8)], [(65 : UInt8), (66 : UInt8), (78 : UInt8)], [(68 : UInt8), (66 : UInt8), (78 : UInt8)], [(68 : UInt8), (65 : UInt8), (66 : UInt8)], [(65 : UInt8), (66 : UInt8), (78 : UInt8)], [(65 : UInt8), (66 : UInt8), (78 : UInt8)], [(65 : UInt8), (66 : UInt8), (78 : UInt8)], [(78 : UInt8)], [(78 : UInt8)], [(65 : UInt8)], [], [(65 : UInt8)], [(78 : UInt8)]]
structure c103 (k1 : (List (List UInt8)) → Prop) : Prop where
  of : tc103 k1

def tc173 (x1 : Int) (k1 : (List UInt8) → Prop) : Prop :=
  br ((x1 : Int) == 100)
  (k1 [(68 : UInt8), (65 : UInt8)])
  (br ((x1 : Int) == 101)
   (k1 [(68 : UInt8), (78 : UInt8), (76 : UInt8)])
   (br ((x1 : Int) == 102)
    (k1 [(68 : UInt8), (65 : UInt8), (76 : UInt8)])
    (br ((x1 : Int) == 103)
     (k1 [(68 : UInt8), (78 : UInt8)])
     (br ((x1 : Int) == 23)
      (k1 [(65 : UInt8)])
      (br (decide ((x1 : Int) ≥ 1))
       (br (decide ((x1 : Int) ≤ 15))
        (c103 
         (fun z2 => br (decide ((0 : Int) ≤ x1 ∧ (x1 : Int) < (((List.length z2) : Nat) : Int)))
          (need False (z2)[(Int.toNat x1)]? fun y3 =>
           k1 y3)
          (False /- 39 -/)))
        (k1 [(45 : UInt8)]))
       (k1 [(45 : UInt8)]))))))
structure c173 (x1 : Int) (k1 : (List UInt8) → Prop) : Prop where
  of : tc173 x1 k1

def tl104r2 (k1 : Bool → Prop) (k2 : Prop) (s1 : List UInt8) (s2 : Int) (s3 : Int) (s4 : Int) : Prop :=
  ∀ (I1 : (List UInt8) → Int → Int → Int → Prop),
    (∀ (s1 : List UInt8) (s2 : Int) (s3 : Int) (s4 : Int), (br (decide ((s4 : Int) < s3))
    (need False (at? s1 s4) fun y5 =>
     br (((UInt8.toNat y5 : Int) : Int) == s2)
      (k1 true)
      (I1 s1 s2 s3 (IntKind.wrap .i64 (s4 + 1))))
    (k2)) → I1 s1 s2 s3 s4) →
    I1 s1 s2 s3 s4
structure l104r2 (k1 : Bool → Prop) (k2 : Prop) (s1 : List UInt8) (s2 : Int) (s3 : Int) (s4 : Int) : Prop where
  of : tl104r2 k1 k2 s1 s2 s3 s4

def tc104 (x1 : List UInt8) (x2 : Int) (k1 : Bool → Prop) : Prop :=
  l104r2
  (fun z3 => k1 z3)
  (k1 false)
  x1 x2 (((List.length x1) : Nat) : Int) 0
structure c104 (x1 : List UInt8) (x2 : Int) (k1 : Bool → Prop) : Prop where
  of : tc104 x1 x2 k1

def tl98r5 (k1 : Int → Prop) (k2 : Int → (Int × Int × Int × Int × Int × (List Int) × Unit) → Prop) (s1 : Int) (s2 : List UInt8) (s3 : Int) (s4 : Int) (s5 : Int × Int × Int × Int × Int × (List Int) × Unit) (s6 : List Int) : Prop :=
  ∀ (I1 : Int → (List UInt8) → Int → Int → (Int × Int × Int × Int × Int × (List Int) × Unit) → (List Int) → Prop),
    (∀ (s1 : Int) (s2 : List UInt8) (s3 : Int) (s4 : Int) (s5 : Int × Int × Int × Int × Int × (List Int) × Unit) (s6 : List Int), (br (decide ((s4 : Int) < s3))
    (br (decide ((0 : Int) ≤ s4 ∧ (s4 : Int) < (((List.length s6) : Nat) : Int)))
     (need False (s6)[(Int.toNat s4)]? fun y7 =>
      br ((y7 : Int) != 0)
       (need False (at? [(68 : UInt8), (65 : UInt8), (66 : UInt8), (78 : UInt8), (76 : UInt8)] s4) fun y8 =>
        c104 s2 (UInt8.toNat y8 : Int)
         (fun z9 => br (!z9)
          (k1 3)
          (I1 s1 s2 s3 (IntKind.wrap .i64 (s4 + 1)) s5 s6)))
       (I1 s1 s2 s3 (IntKind.wrap .i64 (s4 + 1)) s5 s6))
     (False /- 39 -/))
    (k2 s1 s5)) → I1 s1 s2 s3 s4 s5 s6) →
    I1 s1 s2 s3 s4 s5 s6
structure l98r5 (k1 : Int → Prop) (k2 : Int → (Int × Int × Int × Int × Int × (List Int) × Unit) → Prop) (s1 : Int) (s2 : List UInt8) (s3 : Int) (s4 : Int) (s5 : Int × Int × Int × Int × Int × (List Int) × Unit) (s6 : List Int) : Prop where
  of : tl98r5 k1 k2 s1 s2 s3 s4 s5 s6

def tl98r23 (k1 : Int → Prop) (k2 : Prop) (s1 : Int) (s2 : Int) (s3 : Int) (s4 : List Int) : Prop :=
  ∀ (I1 : Int → Int → Int → (List Int) → Prop),
    (∀ (s1 : Int) (s2 : Int) (s3 : Int) (s4 : List Int), (br (decide ((s3 : Int) < s2))
    (br (decide ((0 : Int) ≤ s3 ∧ (s3 : Int) < (((List.length s4) : Nat) : Int)))
     (need False (s4)[(Int.toNat s3)]? fun y5 =>
      br (decide ((y5 : Int) < 0))
       (k1 6)
       (br (decide ((y5 : Int) ≥ s1))
        (k1 6)
        (I1 s1 s2 (IntKind.wrap .i64 (s3 + 1)) s4)))
     (False /- 39 -/))
    (k2)) → I1 s1 s2 s3 s4) →
    I1 s1 s2 s3 s4
structure l98r23 (k1 : Int → Prop) (k2 : Prop) (s1 : Int) (s2 : Int) (s3 : Int) (s4 : List Int) : Prop where
  of : tl98r23 k1 k2 s1 s2 s3 s4

def tj98r20 (k1 : Int → Prop) (s1 : Int) (s2 : Int) (s3 : Int) (s4 : Int × Int × Int × Int × Int × (List Int) × Unit) : Prop :=
  br (decide (((((List.length s4.2.2.2.2.2.1) : Nat) : Int) : Int) > 6))
  (k1 4)
  (br (decide ((s4.2.2.2.2.1 : Int) < s2))
   (k1 4)
   (br (decide ((s4.2.2.2.2.1 : Int) > s3))
    (k1 4)
    (br (List.isEmpty s4.2.2.2.2.2.1)
     (l98r23
      (fun z5 => k1 z5)
      (k1 0)
      s1 ((3 : Nat) : Int) 0 [s4.2.1, s4.2.2.1, s4.2.2.2.1])
     (br (roomB (3 + (List.length s4.2.2.2.2.2.1)) 8)
      (l98r23
       (fun z6 => k1 z6)
       (k1 0)
       s1 (((List.length ([s4.2.1, s4.2.2.1, s4.2.2.2.1] ++ s4.2.2.2.2.2.1)) : Nat) : Int) 0 ([s4.2.1, s4.2.2.1, s4.2.2.2.1] ++ s4.2.2.2.2.2.1))
      (False /- 61 -/)))))
structure j98r20 (k1 : Int → Prop) (s1 : Int) (s2 : Int) (s3 : Int) (s4 : Int × Int × Int × Int × Int × (List Int) × Unit) : Prop where
  of : tj98r20 k1 s1 s2 s3 s4

def tc98 (x1 : Int × Int × Int × Int × Int × (List Int) × Unit) (x2 : Int) (k1 : Int → Prop) : Prop :=
  c173 x1.1
  (fun z3 => br ((z3 : List UInt8) == [(45 : UInt8)])
   (k1 1)
   (l98r5
    (fun z4 => k1 z4)
    (fun z5 z6 => br ((z6.1 : Int) == 101)
     (j98r20
      (fun z7 => k1 z7)
      z5 0 255 z6)
     (br ((z6.1 : Int) == 103)
      (j98r20
       (fun z8 => k1 z8)
       z5 0 255 z6)
      (br ((z6.1 : Int) == 9)
       (j98r20
        (fun z9 => k1 z9)
        z5 0 31 z6)
       (br ((z6.1 : Int) == 10)
        (j98r20
         (fun z10 => k1 z10)
         z5 0 31 z6)
        (br ((z6.1 : Int) == 14)
         (j98r20
          (fun z11 => k1 z11)
          z5 0 4095 z6)
         (j98r20
          (fun z12 => k1 z12)
          z5 (-2147483648) 2147483647 z6))))))
    x2 z3 ((5 : Nat) : Int) 0 x1 [x1.2.1, x1.2.2.1, x1.2.2.2.1, x1.2.2.2.2.1, (((List.length x1.2.2.2.2.2.1) : Nat) : Int)]))
structure c98 (x1 : Int × Int × Int × Int × Int × (List Int) × Unit) (x2 : Int) (k1 : Int → Prop) : Prop where
  of : tc98 x1 x2 k1

def tl31r25 (k1 : Int → Prop) (k2 : Int → (List ((List (Int × Int × Int × Int × Int × (List Int) × Unit)) × (Int × Int × Int × Int × Int × (List Int) × Unit) × Unit)) → Int → Int → (Int × (List Int) × Int × (List ((List (Int × Int × Int × Int × Int × (List Int) × Unit)) × (Int × Int × Int × Int × Int × (List Int) × Unit) × Unit)) × Unit) → ((List (Int × Int × Int × Int × Int × (List Int) × Unit)) × (Int × Int × Int × Int × Int × (List Int) × Unit) × Unit) → Prop) (s1 : Int) (s2 : List ((List (Int × Int × Int × Int × Int × (List Int) × Unit)) × (Int × Int × Int × Int × Int × (List Int) × Unit) × Unit)) (s3 : Int) (s4 : Int) (s5 : List (Int × Int × Int × Int × Int × (List Int) × Unit)) (s6 : Int) (s7 : Int) (s8 : Int × (List Int) × Int × (List ((List (Int × Int × Int × Int × Int × (List Int) × Unit)) × (Int × Int × Int × Int × Int × (List Int) × Unit) × Unit)) × Unit) (s9 : (List (Int × Int × Int × Int × Int × (List Int) × Unit)) × (Int × Int × Int × Int × Int × (List Int) × Unit) × Unit) : Prop :=
  ∀ (I1 : Int → (List ((List (Int × Int × Int × Int × Int × (List Int) × Unit)) × (Int × Int × Int × Int × Int × (List Int) × Unit) × Unit)) → Int → Int → (List (Int × Int × Int × Int × Int × (List Int) × Unit)) → Int → Int → (Int × (List Int) × Int × (List ((List (Int × Int × Int × Int × Int × (List Int) × Unit)) × (Int × Int × Int × Int × Int × (List Int) × Unit) × Unit)) × Unit) → ((List (Int × Int × Int × Int × Int × (List Int) × Unit)) × (Int × Int × Int × Int × Int × (List Int) × Unit) × Unit) → Prop),
    (∀ (s1 : Int) (s2 : List ((List (Int × Int × Int × Int × Int × (List Int) × Unit)) × (Int × Int × Int × Int × Int × (List Int) × Unit) × Unit)) (s3 : Int) (s4 : Int) (s5 : List (Int × Int × Int × Int × Int × (List Int) × Unit)) (s6 : Int) (s7 : Int) (s8 : Int × (List Int) × Int × (List ((List (Int × Int × Int × Int × Int × (List Int) × Unit)) × (Int × Int × Int × Int × Int × (List Int) × Unit) × Unit)) × Unit) (s9 : (List (Int × Int × Int × Int × Int × (List Int) × Unit)) × (Int × Int × Int × Int × Int × (List Int) × Unit) × Unit), (br (decide ((s7 : Int) < s6))
    (need False (at? s5 s7) fun y10 =>
     c98 y10 s8.2.2.1
      (fun z11 => br ((z11 : Int) != 0)
       (k1 z11)
       (I1 s1 s2 s3 s4 s5 s6 (IntKind.wrap .i64 (s7 + 1)) s8 s9)))
    (k2 s1 s2 s3 s4 s8 s9)) → I1 s1 s2 s3 s4 s5 s6 s7 s8 s9) →
    I1 s1 s2 s3 s4 s5 s6 s7 s8 s9
structure l31r25 (k1 : Int → Prop) (k2 : Int → (List ((List (Int × Int × Int × Int × Int × (List Int) × Unit)) × (Int × Int × Int × Int × Int × (List Int) × Unit) × Unit)) → Int → Int → (Int × (List Int) × Int × (List ((List (Int × Int × Int × Int × Int × (List Int) × Unit)) × (Int × Int × Int × Int × Int × (List Int) × Unit) × Unit)) × Unit) → ((List (Int × Int × Int × Int × Int × (List Int) × Unit)) × (Int × Int × Int × Int × Int × (List Int) × Unit) × Unit) → Prop) (s1 : Int) (s2 : List ((List (Int × Int × Int × Int × Int × (List Int) × Unit)) × (Int × Int × Int × Int × Int × (List Int) × Unit) × Unit)) (s3 : Int) (s4 : Int) (s5 : List (Int × Int × Int × Int × Int × (List Int) × Unit)) (s6 : Int) (s7 : Int) (s8 : Int × (List Int) × Int × (List ((List (Int × Int × Int × Int × Int × (List Int) × Unit)) × (Int × Int × Int × Int × Int × (List Int) × Unit) × Unit)) × Unit) (s9 : (List (Int × Int × Int × Int × Int × (List Int) × Unit)) × (Int × Int × Int × Int × Int × (List Int) × Unit) × Unit) : Prop where
  of : tl31r25 k1 k2 s1 s2 s3 s4 s5 s6 s7 s8 s9

def tl99r6 (k1 : Int → Prop) (k2 : Int → Int → Int → (Int × Int × Int × Int × Int × (List Int) × Unit) → Prop) (s1 : Int) (s2 : Int) (s3 : List UInt8) (s4 : Int) (s5 : Int) (s6 : Int) (s7 : Int × Int × Int × Int × Int × (List Int) × Unit) (s8 : List Int) : Prop :=
  ∀ (I1 : Int → Int → (List UInt8) → Int → Int → Int → (Int × Int × Int × Int × Int × (List Int) × Unit) → (List Int) → Prop),
    (∀ (s1 : Int) (s2 : Int) (s3 : List UInt8) (s4 : Int) (s5 : Int) (s6 : Int) (s7 : Int × Int × Int × Int × Int × (List Int) × Unit) (s8 : List Int), (br (decide ((s6 : Int) < s5))
    (br (decide ((0 : Int) ≤ s6 ∧ (s6 : Int) < (((List.length s8) : Nat) : Int)))
     (need False (s8)[(Int.toNat s6)]? fun y9 =>
      br ((y9 : Int) != 0)
       (need False (at? [(79 : UInt8), (65 : UInt8), (66 : UInt8), (78 : UInt8)] s6) fun y10 =>
        c104 s3 (UInt8.toNat y10 : Int)
         (fun z11 => br (!z11)
          (k1 3)
          (I1 s1 s2 s3 s4 s5 (IntKind.wrap .i64 (s6 + 1)) s7 s8)))
       (I1 s1 s2 s3 s4 s5 (IntKind.wrap .i64 (s6 + 1)) s7 s8))
     (False /- 39 -/))
    (k2 s1 s2 s4 s7)) → I1 s1 s2 s3 s4 s5 s6 s7 s8) →
    I1 s1 s2 s3 s4 s5 s6 s7 s8
structure l99r6 (k1 : Int → Prop) (k2 : Int → Int → Int → (Int × Int × Int × Int × Int × (List Int) × Unit) → Prop) (s1 : Int) (s2 : Int) (s3 : List UInt8) (s4 : Int) (s5 : Int) (s6 : Int) (s7 : Int × Int × Int × Int × Int × (List Int) × Unit) (s8 : List Int) : Prop where
  of : tl99r6 k1 k2 s1 s2 s3 s4 s5 s6 s7 s8

def tj99s11 (k1 : Int → Prop) (k2 : Int → Int → (Int × Int × Int × Int × Int × (List Int) × Unit) → Prop) (s1 : Int) (s2 : Int) (s3 : Bool) (s4 : Int × Int × Int × Int × Int × (List Int) × Unit) : Prop :=
  br (s3)
  (k1 3)
  (k2 s1 s2 s4)
structure j99s11 (k1 : Int → Prop) (k2 : Int → Int → (Int × Int × Int × Int × Int × (List Int) × Unit) → Prop) (s1 : Int) (s2 : Int) (s3 : Bool) (s4 : Int × Int × Int × Int × Int × (List Int) × Unit) : Prop where
  of : tj99s11 k1 k2 s1 s2 s3 s4

def tl99r16 (k1 : Int → Prop) (k2 : Prop) (s1 : Int) (s2 : List Int) (s3 : Int) (s4 : Int) : Prop :=
  ∀ (I1 : Int → (List Int) → Int → Int → Prop),
    (∀ (s1 : Int) (s2 : List Int) (s3 : Int) (s4 : Int), (br (decide ((s4 : Int) < s3))
    (need False (at? s2 s4) fun y5 =>
     br (decide ((y5 : Int) < 1))
      (k1 4)
      (br (decide ((y5 : Int) ≥ s1))
       (k1 4)
       (I1 s1 s2 s3 (IntKind.wrap .i64 (s4 + 1)))))
    (k2)) → I1 s1 s2 s3 s4) →
    I1 s1 s2 s3 s4
structure l99r16 (k1 : Int → Prop) (k2 : Prop) (s1 : Int) (s2 : List Int) (s3 : Int) (s4 : Int) : Prop where
  of : tl99r16 k1 k2 s1 s2 s3 s4

def tj99r13 (k1 : Int → Prop) (s1 : Int) (s2 : Int) (s3 : Int × Int × Int × Int × Int × (List Int) × Unit) : Prop :=
  br (decide ((s3.2.2.1 : Int) < 0))
  (k1 6)
  (br (decide ((s3.2.2.1 : Int) ≥ s1))
   (k1 6)
   (br (decide ((s3.2.2.2.1 : Int) < 0))
    (k1 6)
    (br (decide ((s3.2.2.2.1 : Int) ≥ s1))
     (k1 6)
     (l99r16
      (fun z4 => k1 z4)
      (k1 0)
      s2 s3.2.2.2.2.2.1 (((List.length s3.2.2.2.2.2.1) : Nat) : Int) 0))))
structure j99r13 (k1 : Int → Prop) (s1 : Int) (s2 : Int) (s3 : Int × Int × Int × Int × Int × (List Int) × Unit) : Prop where
  of : tj99r13 k1 s1 s2 s3

def tc99 (x1 : Int × Int × Int × Int × Int × (List Int) × Unit) (x2 : Int) (x3 : Int) (k1 : Int → Prop) : Prop :=
  br (decide ((x1.1 : Int) < 0))
  (k1 1)
  (br (decide ((x1.1 : Int) > 3))
   (k1 1)
   (br (decide ((0 : Int) ≤ x1.1 ∧ (x1.1 : Int) < ((4 : Nat) : Int)))
    (need False ([[(65 : UInt8)], [], [(79 : UInt8), (65 : UInt8), (66 : UInt8)], [(78 : UInt8)]])[(Int.toNat x1.1)]? fun y4 =>
     br (decide ((0 : Int) ≤ x1.1 ∧ (x1.1 : Int) < ((4 : Nat) : Int)))
      (need False ([0, 1, 2, 0])[(Int.toNat x1.1)]? fun y5 =>
       l99r6
        (fun z6 => k1 z6)
        (fun z7 z8 z9 z10 => br (((((List.length z10.2.2.2.2.2.1) : Nat) : Int) : Int) != z9)
         (j99s11
          (fun z11 => k1 z11)
          (fun z12 z13 z14 => j99r13
           (fun z15 => k1 z15)
           z12 z13 z14)
          z7 z8 true z10)
         (br ((z10.1 : Int) == 2)
          (br (decide ((z10.2.1 : Int) < 16))
           (j99s11
            (fun z16 => k1 z16)
            (fun z17 z18 z19 => j99r13
             (fun z20 => k1 z20)
             z17 z18 z19)
            z7 z8 true z10)
           (br (decide ((z10.2.1 : Int) > 18))
            (j99s11
             (fun z21 => k1 z21)
             (fun z22 z23 z24 => j99r13
              (fun z25 => k1 z25)
              z22 z23 z24)
             z7 z8 true z10)
            (br ((z10.1 : Int) == 3)
             (br (decide ((z10.2.2.2.2.1 : Int) < 1))
              (j99s11
               (fun z26 => k1 z26)
               (fun z27 z28 z29 => j99r13
                (fun z30 => k1 z30)
                z27 z28 z29)
               z7 z8 true z10)
              (j99s11
               (fun z31 => k1 z31)
               (fun z32 z33 z34 => j99r13
                (fun z35 => k1 z35)
                z32 z33 z34)
               z7 z8 (decide ((z10.2.2.2.2.1 : Int) > 6)) z10))
             (j99s11
              (fun z36 => k1 z36)
              (fun z37 z38 z39 => j99r13
               (fun z40 => k1 z40)
               z37 z38 z39)
              z7 z8 false z10))))
          (br ((z10.1 : Int) == 3)
           (br (decide ((z10.2.2.2.2.1 : Int) < 1))
            (j99s11
             (fun z41 => k1 z41)
             (fun z42 z43 z44 => j99r13
              (fun z45 => k1 z45)
              z42 z43 z44)
             z7 z8 true z10)
            (j99s11
             (fun z46 => k1 z46)
             (fun z47 z48 z49 => j99r13
              (fun z50 => k1 z50)
              z47 z48 z49)
             z7 z8 (decide ((z10.2.2.2.2.1 : Int) > 6)) z10))
           (j99s11
            (fun z51 => k1 z51)
            (fun z52 z53 z54 => j99r13
             (fun z55 => k1 z55)
             z52 z53 z54)
            z7 z8 false z10))))
        x2 x3 y4 y5 ((4 : Nat) : Int) 0 x1 [x1.2.1, x1.2.2.1, x1.2.2.2.1, x1.2.2.2.2.1])
      (False /- 39 -/))
    (False /- 39 -/)))
structure c99 (x1 : Int × Int × Int × Int × Int × (List Int) × Unit) (x2 : Int) (x3 : Int) (k1 : Int → Prop) : Prop where
  of : tc99 x1 x2 x3 k1

def tl31r19 (k1 : Int → Prop) (k2 : (Int × (List Int) × Int × (List ((List (Int × Int × Int × Int × Int × (List Int) × Unit)) × (Int × Int × Int × Int × Int × (List Int) × Unit) × Unit)) × Unit) → Prop) (s1 : Int) (s2 : List ((List (Int × Int × Int × Int × Int × (List Int) × Unit)) × (Int × Int × Int × Int × Int × (List Int) × Unit) × Unit)) (s3 : Int) (s4 : Int) (s5 : Int × (List Int) × Int × (List ((List (Int × Int × Int × Int × Int × (List Int) × Unit)) × (Int × Int × Int × Int × Int × (List Int) × Unit) × Unit)) × Unit) : Prop :=
  ∀ (I1 : Int → (List ((List (Int × Int × Int × Int × Int × (List Int) × Unit)) × (Int × Int × Int × Int × Int × (List Int) × Unit) × Unit)) → Int → Int → (Int × (List Int) × Int × (List ((List (Int × Int × Int × Int × Int × (List Int) × Unit)) × (Int × Int × Int × Int × Int × (List Int) × Unit) × Unit)) × Unit) → Prop),
    (∀ (s1 : Int) (s2 : List ((List (Int × Int × Int × Int × Int × (List Int) × Unit)) × (Int × Int × Int × Int × Int × (List Int) × Unit) × Unit)) (s3 : Int) (s4 : Int) (s5 : Int × (List Int) × Int × (List ((List (Int × Int × Int × Int × Int × (List Int) × Unit)) × (Int × Int × Int × Int × Int × (List Int) × Unit) × Unit)) × Unit), (br (decide ((s4 : Int) < s3))
    (need False (at? s2 s4) fun y6 =>
     br (decide (((IntKind.wrap .i64 (s1 + (((List.length y6.1) : Nat) : Int))) : Int) > 4096))
      (k1 2)
      (l31r25
       (fun z7 => k1 z7)
       (fun z8 z9 z10 z11 z12 z13 => c99 z13.2.1 z12.2.2.1 (((List.length z12.2.2.2.1) : Nat) : Int)
        (fun z14 => br ((z14 : Int) != 0)
         (k1 z14)
         (I1 z8 z9 z10 (IntKind.wrap .i64 (z11 + 1)) z12)))
       (IntKind.wrap .i64 (s1 + (((List.length y6.1) : Nat) : Int))) s2 s3 s4 y6.1 (((List.length y6.1) : Nat) : Int) 0 s5 y6))
    (k2 s5)) → I1 s1 s2 s3 s4 s5) →
    I1 s1 s2 s3 s4 s5
structure l31r19 (k1 : Int → Prop) (k2 : (Int × (List Int) × Int × (List ((List (Int × Int × Int × Int × Int × (List Int) × Unit)) × (Int × Int × Int × Int × Int × (List Int) × Unit) × Unit)) × Unit) → Prop) (s1 : Int) (s2 : List ((List (Int × Int × Int × Int × Int × (List Int) × Unit)) × (Int × Int × Int × Int × Int × (List Int) × Unit) × Unit)) (s3 : Int) (s4 : Int) (s5 : Int × (List Int) × Int × (List ((List (Int × Int × Int × Int × Int × (List Int) × Unit)) × (Int × Int × Int × Int × Int × (List Int) × Unit) × Unit)) × Unit) : Prop where
  of : tl31r19 k1 k2 s1 s2 s3 s4 s5

def tl100r2 (k1 : Bool → Prop) (k2 : Prop) (s1 : Int) (s2 : List Int) (s3 : Int) (s4 : Int) : Prop :=
  ∀ (I1 : Int → (List Int) → Int → Int → Prop),
    (∀ (s1 : Int) (s2 : List Int) (s3 : Int) (s4 : Int), (br (decide ((s4 : Int) < s3))
    (need False (at? s2 s4) fun y5 =>
     br ((y5 : Int) == s1)
      (k1 true)
      (I1 s1 s2 s3 (IntKind.wrap .i64 (s4 + 1))))
    (k2)) → I1 s1 s2 s3 s4) →
    I1 s1 s2 s3 s4
structure l100r2 (k1 : Bool → Prop) (k2 : Prop) (s1 : Int) (s2 : List Int) (s3 : Int) (s4 : Int) : Prop where
  of : tl100r2 k1 k2 s1 s2 s3 s4

def tc100 (x1 : List Int) (x2 : Int) (k1 : Bool → Prop) : Prop :=
  l100r2
  (fun z3 => k1 z3)
  (k1 false)
  x2 x1 (((List.length x1) : Nat) : Int) 0
structure c100 (x1 : List Int) (x2 : Int) (k1 : Bool → Prop) : Prop where
  of : tc100 x1 x2 k1

def tl33r9 (k1 : Bool → Prop) (k2 : Int → Nat → Nat → Nat → Bool → (Int × (List Int) × Int × (List ((List (Int × Int × Int × Int × Int × (List Int) × Unit)) × (Int × Int × Int × Int × Int × (List Int) × Unit) × Unit)) × Unit) → (List Bool) → (List (List Int)) → ((List (Int × Int × Int × Int × Int × (List Int) × Unit)) × (Int × Int × Int × Int × Int × (List Int) × Unit) × Unit) → Prop) (s1 : Int) (s2 : Nat) (s3 : Nat) (s4 : Nat) (s5 : Bool) (s6 : Int) (s7 : Int × (List Int) × Int × (List ((List (Int × Int × Int × Int × Int × (List Int) × Unit)) × (Int × Int × Int × Int × Int × (List Int) × Unit) × Unit)) × Unit) (s8 : List Bool) (s9 : List (List Int)) (s10 : (List (Int × Int × Int × Int × Int × (List Int) × Unit)) × (Int × Int × Int × Int × Int × (List Int) × Unit) × Unit) : Prop :=
  ∀ (I1 : Int → Nat → Nat → Nat → Bool → Int → (Int × (List Int) × Int × (List ((List (Int × Int × Int × Int × Int × (List Int) × Unit)) × (Int × Int × Int × Int × Int × (List Int) × Unit) × Unit)) × Unit) → (List Bool) → (List (List Int)) → ((List (Int × Int × Int × Int × Int × (List Int) × Unit)) × (Int × Int × Int × Int × Int × (List Int) × Unit) × Unit) → Prop),
    (∀ (s1 : Int) (s2 : Nat) (s3 : Nat) (s4 : Nat) (s5 : Bool) (s6 : Int) (s7 : Int × (List Int) × Int × (List ((List (Int × Int × Int × Int × Int × (List Int) × Unit)) × (Int × Int × Int × Int × Int × (List Int) × Unit) × Unit)) × Unit) (s8 : List Bool) (s9 : List (List Int)) (s10 : (List (Int × Int × Int × Int × Int × (List Int) × Unit)) × (Int × Int × Int × Int × Int × (List Int) × Unit) × Unit), (br (decide ((s6 : Int) < (((List.length s10.1) : Nat) : Int)))
    (br (!s5)
     (need False (at? s10.1 s6) fun y11 =>
      c28 y11
       (fun z12 => c100 z12 s1
        (fun z13 => br (z13)
         (k1 true)
         (need False (at? s10.1 s6) fun y14 =>
          c25 y14
           (fun z15 => I1 s1 s2 s3 s4 ((z15 : Int) == s1) (IntKind.wrap .i64 (s6 + 1)) s7 s8 s9 s10)))))
     (k2 s1 s2 s3 s4 s5 s7 s8 s9 s10))
    (k2 s1 s2 s3 s4 s5 s7 s8 s9 s10)) → I1 s1 s2 s3 s4 s5 s6 s7 s8 s9 s10) →
    I1 s1 s2 s3 s4 s5 s6 s7 s8 s9 s10
structure l33r9 (k1 : Bool → Prop) (k2 : Int → Nat → Nat → Nat → Bool → (Int × (List Int) × Int × (List ((List (Int × Int × Int × Int × Int × (List Int) × Unit)) × (Int × Int × Int × Int × Int × (List Int) × Unit) × Unit)) × Unit) → (List Bool) → (List (List Int)) → ((List (Int × Int × Int × Int × Int × (List Int) × Unit)) × (Int × Int × Int × Int × Int × (List Int) × Unit) × Unit) → Prop) (s1 : Int) (s2 : Nat) (s3 : Nat) (s4 : Nat) (s5 : Bool) (s6 : Int) (s7 : Int × (List Int) × Int × (List ((List (Int × Int × Int × Int × Int × (List Int) × Unit)) × (Int × Int × Int × Int × Int × (List Int) × Unit) × Unit)) × Unit) (s8 : List Bool) (s9 : List (List Int)) (s10 : (List (Int × Int × Int × Int × Int × (List Int) × Unit)) × (Int × Int × Int × Int × Int × (List Int) × Unit) × Unit) : Prop where
  of : tl33r9 k1 k2 s1 s2 s3 s4 s5 s6 s7 s8 s9 s10

def tl33r18 (k1 : Int → Nat → Nat → Nat → (Int × (List Int) × Int × (List ((List (Int × Int × Int × Int × Int × (List Int) × Unit)) × (Int × Int × Int × Int × Int × (List Int) × Unit) × Unit)) × Unit) → (List Bool) → (List (List Int)) → Prop) (k2 : Int → (Int × (List Int) × Int × (List ((List (Int × Int × Int × Int × Int × (List Int) × Unit)) × (Int × Int × Int × Int × Int × (List Int) × Unit) × Unit)) × Unit) → (List Bool) → (List (List Int)) → Prop) (s1 : Int) (s2 : Nat) (s3 : Nat) (s4 : Nat) (s5 : List Int) (s6 : Int) (s7 : Int) (s8 : Int × (List Int) × Int × (List ((List (Int × Int × Int × Int × Int × (List Int) × Unit)) × (Int × Int × Int × Int × Int × (List Int) × Unit) × Unit)) × Unit) (s9 : List Bool) (s10 : List (List Int)) : Prop :=
  ∀ (I1 : Int → Nat → Nat → Nat → (List Int) → Int → Int → (Int × (List Int) × Int × (List ((List (Int × Int × Int × Int × Int × (List Int) × Unit)) × (Int × Int × Int × Int × Int × (List Int) × Unit) × Unit)) × Unit) → (List Bool) → (List (List Int)) → Prop) (I2 : Int → (List Int) → Int → Int → (Int × (List Int) × Int × (List ((List (Int × Int × Int × Int × Int × (List Int) × Unit)) × (Int × Int × Int × Int × Int × (List Int) × Unit) × Unit)) × Unit) → (List Bool) → (List (List Int)) → Prop),
    (∀ (s1 : Int) (s2 : Nat) (s3 : Nat) (s4 : Nat) (s5 : List Int) (s6 : Int) (s7 : Int) (s8 : Int × (List Int) × Int × (List ((List (Int × Int × Int × Int × Int × (List Int) × Unit)) × (Int × Int × Int × Int × Int × (List Int) × Unit) × Unit)) × Unit) (s9 : List Bool) (s10 : List (List Int)), (br (decide ((s7 : Int) < s6))
    (need False (at? s5 s7) fun y11 =>
     br (decide ((0 : Int) ≤ y11 ∧ (y11 : Int) < (((List.length s9) : Nat) : Int)))
      (need False (s9)[(Int.toNat y11)]? fun y12 =>
       br (!y12)
        (br (decide ((0 : Int) ≤ y11 ∧ (y11 : Int) < (((List.length s9) : Nat) : Int)))
         (need False (s9)[(Int.toNat y11)]? fun y13 =>
          br (decide ((s3 + 1) ≤ s4))
           (I1 s1 s2 (s3 + 1) s4 s5 s6 (IntKind.wrap .i64 (s7 + 1)) s8 (List.set s9 (Int.toNat y11) true) (((List.take (s2 + s3) s10) ++ [[y11, 0]]) ++ (List.drop ((s2 + s3) + 1) s10)))
           (br (roomB (s3 + 1) 16)
            (br (decide (s2 = 0))
             (I2 s1 s5 s6 (IntKind.wrap .i64 (s7 + 1)) s8 (List.set s9 (Int.toNat y11) true) ((List.take s3 s10) ++ [[y11, 0]]))
             (False /- 64 -/))
            (False /- 65 -/)))
         (False /- 39 -/))
        (I1 s1 s2 s3 s4 s5 s6 (IntKind.wrap .i64 (s7 + 1)) s8 s9 s10))
      (False /- 39 -/))
    (k1 s1 s2 s3 s4 s8 s9 s10)) → I1 s1 s2 s3 s4 s5 s6 s7 s8 s9 s10) →
    (∀ (s14 : Int) (s15 : List Int) (s16 : Int) (s17 : Int) (s18 : Int × (List Int) × Int × (List ((List (Int × Int × Int × Int × Int × (List Int) × Unit)) × (Int × Int × Int × Int × Int × (List Int) × Unit) × Unit)) × Unit) (s19 : List Bool) (s20 : List (List Int)), (br (decide ((s17 : Int) < s16))
    (need False (at? s15 s17) fun y21 =>
     br (decide ((0 : Int) ≤ y21 ∧ (y21 : Int) < (((List.length s19) : Nat) : Int)))
      (need False (s19)[(Int.toNat y21)]? fun y22 =>
       br (!y22)
        (br (decide ((0 : Int) ≤ y21 ∧ (y21 : Int) < (((List.length s19) : Nat) : Int)))
         (need False (s19)[(Int.toNat y21)]? fun y23 =>
          br (roomB ((List.length s20) + 1) 16)
           (I2 s14 s15 s16 (IntKind.wrap .i64 (s17 + 1)) s18 (List.set s19 (Int.toNat y21) true) (s20 ++ [[y21, 0]]))
           (False /- 61 -/))
         (False /- 39 -/))
        (I2 s14 s15 s16 (IntKind.wrap .i64 (s17 + 1)) s18 s19 s20))
      (False /- 39 -/))
    (k2 s14 s18 s19 s20)) → I2 s14 s15 s16 s17 s18 s19 s20) →
    I1 s1 s2 s3 s4 s5 s6 s7 s8 s9 s10
structure l33r18 (k1 : Int → Nat → Nat → Nat → (Int × (List Int) × Int × (List ((List (Int × Int × Int × Int × Int × (List Int) × Unit)) × (Int × Int × Int × Int × Int × (List Int) × Unit) × Unit)) × Unit) → (List Bool) → (List (List Int)) → Prop) (k2 : Int → (Int × (List Int) × Int × (List ((List (Int × Int × Int × Int × Int × (List Int) × Unit)) × (Int × Int × Int × Int × Int × (List Int) × Unit) × Unit)) × Unit) → (List Bool) → (List (List Int)) → Prop) (s1 : Int) (s2 : Nat) (s3 : Nat) (s4 : Nat) (s5 : List Int) (s6 : Int) (s7 : Int) (s8 : Int × (List Int) × Int × (List ((List (Int × Int × Int × Int × Int × (List Int) × Unit)) × (Int × Int × Int × Int × Int × (List Int) × Unit) × Unit)) × Unit) (s9 : List Bool) (s10 : List (List Int)) : Prop where
  of : tl33r18 k1 k2 s1 s2 s3 s4 s5 s6 s7 s8 s9 s10

def tl33r3 (k1 : Bool → Prop) (k2 : Prop) (s1 : Int) (s2 : Int × (List Int) × Int × (List ((List (Int × Int × Int × Int × Int × (List Int) × Unit)) × (Int × Int × Int × Int × Int × (List Int) × Unit) × Unit)) × Unit) (s3 : List Bool) (s4 : List (List Int)) : Prop :=
  ∀ (I1 : Int → (Int × (List Int) × Int × (List ((List (Int × Int × Int × Int × Int × (List Int) × Unit)) × (Int × Int × Int × Int × Int × (List Int) × Unit) × Unit)) × Unit) → (List Bool) → (List (List Int)) → Prop) (I2 : Int → Nat → Nat → Nat → (Int × (List Int) × Int × (List ((List (Int × Int × Int × Int × Int × (List Int) × Unit)) × (Int × Int × Int × Int × Int × (List Int) × Unit) × Unit)) × Unit) → (List Bool) → (List (List Int)) → Prop),
    (∀ (s1 : Int) (s2 : Int × (List Int) × Int × (List ((List (Int × Int × Int × Int × Int × (List Int) × Unit)) × (Int × Int × Int × Int × Int × (List Int) × Unit) × Unit)) × Unit) (s3 : List Bool) (s4 : List (List Int)), (br (decide (((((List.length s4) : Nat) : Int) : Int) > 0))
    (br (decide ((0 : Int) ≤ (IntKind.wrap .i64 ((((List.length s4) : Nat) : Int) - 1)) ∧ ((IntKind.wrap .i64 ((((List.length s4) : Nat) : Int) - 1)) : Int) < (((List.length s4) : Nat) : Int)))
     (need False (s4)[(Int.toNat (IntKind.wrap .i64 ((((List.length s4) : Nat) : Int) - 1)))]? fun y5 =>
      br (decide ((0 : Int) ≤ 0 ∧ (0 : Int) ≤ (IntKind.wrap .i64 ((((List.length s4) : Nat) : Int) - 1)) ∧ ((IntKind.wrap .i64 ((((List.length s4) : Nat) : Int) - 1)) : Int) ≤ (((List.length s4) : Nat) : Int) ∧ ((((List.length s4) : Nat) : Int) : Int) ≤ (((List.length s4) : Nat) : Int)))
       (need False (y5)[0]? fun y6 =>
        need False (at? s2.2.2.2.1 y6) fun y7 =>
         need False (y5)[1]? fun y8 =>
          l33r9
           (fun z9 => k1 z9)
           (fun z10 z11 z12 z13 z14 z15 z16 z17 z18 => br (z14)
            (I2 z10 z11 z12 z13 z15 z16 z17)
            (br ((z18.2.1.2.2.1 : Int) == z10)
             (k1 true)
             (br ((z18.2.1.2.2.2.1 : Int) == z10)
              (k1 true)
              (l33r18
               (fun z19 z20 z21 z22 z23 z24 z25 => I2 z19 z20 z21 z22 z23 z24 z25)
               (fun z26 z27 z28 z29 => I1 z26 z27 z28 z29)
               z10 z11 z12 z13 z18.2.1.2.2.2.2.2.1 (((List.length z18.2.1.2.2.2.2.2.1) : Nat) : Int) 0 z15 z16 z17))))
           s1 0 (Int.toNat ((IntKind.wrap .i64 ((((List.length s4) : Nat) : Int) - 1)) - 0)) (Int.toNat ((((List.length s4) : Nat) : Int) - 0)) false y8 s2 s3 s4 y7)
       (False /- 82 -/))
     (False /- 39 -/))
    (k2)) → I1 s1 s2 s3 s4) →
    (∀ (s30 : Int) (s31 : Nat) (s32 : Nat) (s33 : Nat) (s34 : Int × (List Int) × Int × (List ((List (Int × Int × Int × Int × Int × (List Int) × Unit)) × (Int × Int × Int × Int × Int × (List Int) × Unit) × Unit)) × Unit) (s35 : List Bool) (s36 : List (List Int)), (br (decide ((((s32 : Nat) : Int) : Int) > 0))
    (br (decide ((0 : Int) ≤ (IntKind.wrap .i64 (((s32 : Nat) : Int) - 1)) ∧ ((IntKind.wrap .i64 (((s32 : Nat) : Int) - 1)) : Int) < ((s32 : Nat) : Int)))
     (need False (s36)[(s31 + (Int.toNat (IntKind.wrap .i64 (((s32 : Nat) : Int) - 1))))]? fun y37 =>
      br (decide ((0 : Int) ≤ 0 ∧ (0 : Int) ≤ (IntKind.wrap .i64 (((s32 : Nat) : Int) - 1)) ∧ ((IntKind.wrap .i64 (((s32 : Nat) : Int) - 1)) : Int) ≤ ((s33 : Nat) : Int) ∧ (((s33 : Nat) : Int) : Int) ≤ ((s33 : Nat) : Int)))
       (need False (y37)[0]? fun y38 =>
        need False (at? s34.2.2.2.1 y38) fun y39 =>
         need False (y37)[1]? fun y40 =>
          l33r9
           (fun z41 => k1 z41)
           (fun z42 z43 z44 z45 z46 z47 z48 z49 z50 => br (z46)
            (I2 z42 z43 z44 z45 z47 z48 z49)
            (br ((z50.2.1.2.2.1 : Int) == z42)
             (k1 true)
             (br ((z50.2.1.2.2.2.1 : Int) == z42)
              (k1 true)
              (l33r18
               (fun z51 z52 z53 z54 z55 z56 z57 => I2 z51 z52 z53 z54 z55 z56 z57)
               (fun z58 z59 z60 z61 => I1 z58 z59 z60 z61)
               z42 z43 z44 z45 z50.2.1.2.2.2.2.2.1 (((List.length z50.2.1.2.2.2.2.2.1) : Nat) : Int) 0 z47 z48 z49))))
           s30 (s31 + 0) (Int.toNat ((IntKind.wrap .i64 (((s32 : Nat) : Int) - 1)) - 0)) (Int.toNat (((s33 : Nat) : Int) - 0)) false y40 s34 s35 s36 y39)
       (False /- 84 -/))
     (False /- 41 -/))
    (k2)) → I2 s30 s31 s32 s33 s34 s35 s36) →
    I1 s1 s2 s3 s4
structure l33r3 (k1 : Bool → Prop) (k2 : Prop) (s1 : Int) (s2 : Int × (List Int) × Int × (List ((List (Int × Int × Int × Int × Int × (List Int) × Unit)) × (Int × Int × Int × Int × Int × (List Int) × Unit) × Unit)) × Unit) (s3 : List Bool) (s4 : List (List Int)) : Prop where
  of : tl33r3 k1 k2 s1 s2 s3 s4

def tc33 (x1 : Int × (List Int) × Int × (List ((List (Int × Int × Int × Int × Int × (List Int) × Unit)) × (Int × Int × Int × Int × Int × (List Int) × Unit) × Unit)) × Unit) (x2 : Int) (x3 : Int) (x4 : Int) (k1 : Bool → Prop) : Prop :=
  br (decide ((0 : Int) ≤ (((List.length x1.2.2.2.1) : Nat) : Int) ∧ ((((List.length x1.2.2.2.1) : Nat) : Int) : Int) ≤ (((List.length x1.2.2.2.1) : Nat) : Int) ∧ (((((List.length x1.2.2.2.1) : Nat) : Int) * 1) : Int) ≤ 140737488355328))
  (l33r3
   (fun z5 => k1 z5)
   (k1 false)
   x4 x1 (List.replicate (Int.toNat (((List.length x1.2.2.2.1) : Nat) : Int)) (false : Bool)) [[x2, x3]])
  (False /- 111 -/)
structure c33 (x1 : Int × (List Int) × Int × (List ((List (Int × Int × Int × Int × Int × (List Int) × Unit)) × (Int × Int × Int × Int × Int × (List Int) × Unit) × Unit)) × Unit) (x2 : Int) (x3 : Int) (x4 : Int) (k1 : Bool → Prop) : Prop where
  of : tc33 x1 x2 x3 x4 k1

def tl31r36 (k1 : Int → Prop) (k2 : Prop) (s1 : Int) (s2 : Int × (List Int) × Int × (List ((List (Int × Int × Int × Int × Int × (List Int) × Unit)) × (Int × Int × Int × Int × Int × (List Int) × Unit) × Unit)) × Unit) : Prop :=
  ∀ (I1 : Int → (Int × (List Int) × Int × (List ((List (Int × Int × Int × Int × Int × (List Int) × Unit)) × (Int × Int × Int × Int × Int × (List Int) × Unit) × Unit)) × Unit) → Prop),
    (∀ (s1 : Int) (s2 : Int × (List Int) × Int × (List ((List (Int × Int × Int × Int × Int × (List Int) × Unit)) × (Int × Int × Int × Int × Int × (List Int) × Unit) × Unit)) × Unit), (br (decide ((s1 : Int) < s2.2.2.1))
    (c33 s2 0 0 s1
     (fun z3 => br (z3)
      (c100 s2.2.1 s1
       (fun z4 => br (!z4)
        (k1 12)
        (I1 (IntKind.wrap .i64 (s1 + 1)) s2)))
      (I1 (IntKind.wrap .i64 (s1 + 1)) s2)))
    (k2)) → I1 s1 s2) →
    I1 s1 s2
structure l31r36 (k1 : Int → Prop) (k2 : Prop) (s1 : Int) (s2 : Int × (List Int) × Int × (List ((List (Int × Int × Int × Int × Int × (List Int) × Unit)) × (Int × Int × Int × Int × Int × (List Int) × Unit) × Unit)) × Unit) : Prop where
  of : tl31r36 k1 k2 s1 s2

def tc31 (x1 : Int × (List Int) × Int × (List ((List (Int × Int × Int × Int × Int × (List Int) × Unit)) × (Int × Int × Int × Int × Int × (List Int) × Unit) × Unit)) × Unit) (k1 : Int → Prop) : Prop :=
  br (decide (((((List.length x1.2.1) : Nat) : Int) : Int) > 6))
  (k1 2)
  (br (decide (((((List.length x1.2.2.2.1) : Nat) : Int) : Int) > 4096))
   (k1 2)
   (br (decide ((x1.2.2.1 : Int) < 1))
    (k1 2)
    (br (decide ((x1.2.2.1 : Int) > 8192))
     (k1 2)
     (br (((((List.length x1.2.2.2.1) : Nat) : Int) : Int) == 0)
      (k1 3)
      (l31r6
       (fun z2 => k1 z2)
       (fun z3 => l31r19
        (fun z4 => k1 z4)
        (fun z5 => l31r36
         (fun z6 => k1 z6)
         (k1 0)
         1 z5)
        0 z3.2.2.2.1 (((List.length z3.2.2.2.1) : Nat) : Int) 0 z3)
       x1.2.1 (((List.length x1.2.1) : Nat) : Int) 0 x1)))))
structure c31 (x1 : Int × (List Int) × Int × (List ((List (Int × Int × Int × Int × Int × (List Int) × Unit)) × (Int × Int × Int × Int × Int × (List Int) × Unit) × Unit)) × Unit) (k1 : Int → Prop) : Prop where
  of : tc31 x1 k1

def tc4 (x1 : Int × (List Int) × Int × (List ((List (Int × Int × Int × Int × Int × (List Int) × Unit)) × (Int × Int × Int × Int × Int × (List Int) × Unit) × Unit)) × Unit) (k1 : Bool → Prop) : Prop :=
  c22 
  (fun z2 => br (!z2)
   (k1 false)
   (c23 x1
    (fun z3 => br (!z3)
     (k1 true)
     (l4r6
      (fun z4 => k1 z4)
      (fun z5 => c30 z5
       (fun z6 => br (eqT (.pair (.int .i64) (.pair (.sl (.int .i64)) (.pair (.int .i64) (.pair (.sl (.pair (.sl (.pair (.int .i64) (.pair (.int .i64) (.pair (.int .i64) (.pair (.int .i64) (.pair (.int .i64) (.pair (.sl (.int .i64)) .unit))))))) (.pair (.pair (.int .i64) (.pair (.int .i64) (.pair (.int .i64) (.pair (.int .i64) (.pair (.int .i64) (.pair (.sl (.int .i64)) .unit)))))) .unit))) .unit)))) z5 z5)
        (c31 z5
         (fun z7 => k1 ((z6 : Int) == z7)))
        (False /- 942 -/)))
      x1.2.2.2.1 (((List.length x1.2.2.2.1) : Nat) : Int) 0 x1))))
structure c4 (x1 : Int × (List Int) × Int × (List ((List (Int × Int × Int × Int × Int × (List Int) × Unit)) × (Int × Int × Int × Int × Int × (List Int) × Unit) × Unit)) × Unit) (k1 : Bool → Prop) : Prop where
  of : tc4 x1 k1

end Go.Proofs.Ytfheeikjlehikaa
