/- What the functions compute, as plain Lean (printed by a program). -/
import Derived.Test.YtomgefbhmpeabaaATypT
namespace Go.Proofs.Ytomgefbhmpeabaa
open Go.Abs
set_option linter.unusedVariables false
def tc31 (x1 : Int) (x2 : Int) (x3 : Int) (k1 : Bool → Prop) : Prop :=
  br (decide ((x1 : Int) ≥ x2))
  (k1 (decide ((x1 : Int) ≤ x3)))
  (k1 false)
structure c31 (x1 : Int) (x2 : Int) (x3 : Int) (k1 : Bool → Prop) : Prop where
  of : tc31 x1 x2 x3 k1

def tc32 (x1 : Int) (k1 : (Bool × Bool × Bool × Bool × Unit) → Prop) : Prop :=
  br ((x1 : Int) == 0)
  (k1 (false, false, false, false, ()))
  (br ((x1 : Int) == 22)
   (k1 (false, false, false, false, ()))
   (br ((x1 : Int) == 1)
    (k1 (true, true, true, false, ()))
    (br ((x1 : Int) == 2)
     (k1 (true, true, true, false, ()))
     (br ((x1 : Int) == 3)
      (k1 (true, true, true, false, ()))
      (br ((x1 : Int) == 4)
       (k1 (true, true, true, false, ()))
       (br ((x1 : Int) == 5)
        (k1 (true, true, true, false, ()))
        (br ((x1 : Int) == 6)
         (k1 (true, true, true, false, ()))
         (br ((x1 : Int) == 7)
          (k1 (true, true, true, false, ()))
          (br ((x1 : Int) == 15)
           (k1 (true, true, true, false, ()))
           (br ((x1 : Int) == 8)
            (k1 (true, true, false, true, ()))
            (br ((x1 : Int) == 9)
             (k1 (true, true, false, true, ()))
             (br ((x1 : Int) == 10)
              (k1 (true, true, false, true, ()))
              (br ((x1 : Int) == 12)
               (k1 (true, true, false, true, ()))
               (br ((x1 : Int) == 11)
                (k1 (true, false, false, true, ()))
                (br ((x1 : Int) == 13)
                 (k1 (false, true, true, true, ()))
                 (br ((x1 : Int) == 16)
                  (k1 (false, true, true, true, ()))
                  (br ((x1 : Int) == 17)
                   (k1 (false, true, true, true, ()))
                   (br ((x1 : Int) == 18)
                    (k1 (false, true, true, true, ()))
                    (br ((x1 : Int) == 14)
                     (k1 (true, false, true, true, ()))
                     (br ((x1 : Int) == 19)
                      (k1 (false, false, false, true, ()))
                      (br ((x1 : Int) == 20)
                       (k1 (false, false, false, true, ()))
                       (br ((x1 : Int) == 24)
                        (k1 (false, false, false, true, ()))
                        (k1 (false, true, false, false, ()))))))))))))))))))))))))
structure c32 (x1 : Int) (k1 : (Bool × Bool × Bool × Bool × Unit) → Prop) : Prop where
  of : tc32 x1 k1

def tj25s6 (k1 : Int → Prop) (k2 : (Int × Int × Int × Int × Int × Unit) → Prop) (s1 : Bool) (s2 : Int × Int × Int × Int × Int × Unit) : Prop :=
  br (s1)
  (k1 3)
  (k2 s2)
structure j25s6 (k1 : Int → Prop) (k2 : (Int × Int × Int × Int × Int × Unit) → Prop) (s1 : Bool) (s2 : Int × Int × Int × Int × Int × Unit) : Prop where
  of : tj25s6 k1 k2 s1 s2

def tj25s8 (k1 : Int → Prop) (k2 : Prop) (s1 : Bool) : Prop :=
  br (s1)
  (k1 4)
  (k2)
structure j25s8 (k1 : Int → Prop) (k2 : Prop) (s1 : Bool) : Prop where
  of : tj25s8 k1 k2 s1

def tj25r10 (k1 : Int → Prop) : Prop :=
  k1 0
structure j25r10 (k1 : Int → Prop) : Prop where
  of : tj25r10 k1

def tj25r8 (k1 : Int → Prop) (s1 : Int × Int × Int × Int × Int × Unit) : Prop :=
  br ((s1.1 : Int) == 9)
  (c31 s1.2.2.2.2.1 0 31
   (fun z2 => br (!z2)
    (j25s8
     (fun z3 => k1 z3)
     (j25r10
      (fun z4 => k1 z4)
      )
     true)
    (br ((s1.1 : Int) == 14)
     (c31 s1.2.2.2.2.1 0 4095
      (fun z5 => br (!z5)
       (j25s8
        (fun z6 => k1 z6)
        (j25r10
         (fun z7 => k1 z7)
         )
        true)
       (br ((s1.1 : Int) == 24)
        (c31 s1.2.2.2.2.1 1 6
         (fun z8 => j25s8
          (fun z9 => k1 z9)
          (j25r10
           (fun z10 => k1 z10)
           )
          (!z8)))
        (j25s8
         (fun z11 => k1 z11)
         (j25r10
          (fun z12 => k1 z12)
          )
         false))))
     (br ((s1.1 : Int) == 24)
      (c31 s1.2.2.2.2.1 1 6
       (fun z13 => j25s8
        (fun z14 => k1 z14)
        (j25r10
         (fun z15 => k1 z15)
         )
        (!z13)))
      (j25s8
       (fun z16 => k1 z16)
       (j25r10
        (fun z17 => k1 z17)
        )
       false)))))
  (br ((s1.1 : Int) == 10)
   (c31 s1.2.2.2.2.1 0 31
    (fun z18 => br (!z18)
     (j25s8
      (fun z19 => k1 z19)
      (j25r10
       (fun z20 => k1 z20)
       )
      true)
     (br ((s1.1 : Int) == 14)
      (c31 s1.2.2.2.2.1 0 4095
       (fun z21 => br (!z21)
        (j25s8
         (fun z22 => k1 z22)
         (j25r10
          (fun z23 => k1 z23)
          )
         true)
        (br ((s1.1 : Int) == 24)
         (c31 s1.2.2.2.2.1 1 6
          (fun z24 => j25s8
           (fun z25 => k1 z25)
           (j25r10
            (fun z26 => k1 z26)
            )
           (!z24)))
         (j25s8
          (fun z27 => k1 z27)
          (j25r10
           (fun z28 => k1 z28)
           )
          false))))
      (br ((s1.1 : Int) == 24)
       (c31 s1.2.2.2.2.1 1 6
        (fun z29 => j25s8
         (fun z30 => k1 z30)
         (j25r10
          (fun z31 => k1 z31)
          )
         (!z29)))
       (j25s8
        (fun z32 => k1 z32)
        (j25r10
         (fun z33 => k1 z33)
         )
        false)))))
   (br ((s1.1 : Int) == 14)
    (c31 s1.2.2.2.2.1 0 4095
     (fun z34 => br (!z34)
      (j25s8
       (fun z35 => k1 z35)
       (j25r10
        (fun z36 => k1 z36)
        )
       true)
      (br ((s1.1 : Int) == 24)
       (c31 s1.2.2.2.2.1 1 6
        (fun z37 => j25s8
         (fun z38 => k1 z38)
         (j25r10
          (fun z39 => k1 z39)
          )
         (!z37)))
       (j25s8
        (fun z40 => k1 z40)
        (j25r10
         (fun z41 => k1 z41)
         )
        false))))
    (br ((s1.1 : Int) == 24)
     (c31 s1.2.2.2.2.1 1 6
      (fun z42 => j25s8
       (fun z43 => k1 z43)
       (j25r10
        (fun z44 => k1 z44)
        )
       (!z42)))
     (j25s8
      (fun z45 => k1 z45)
      (j25r10
       (fun z46 => k1 z46)
       )
      false))))
structure j25r8 (k1 : Int → Prop) (s1 : Int × Int × Int × Int × Int × Unit) : Prop where
  of : tj25r8 k1 s1

def tc25 (x1 : Int × Int × Int × Int × Int × Unit) (k1 : Int → Prop) : Prop :=
  c31 x1.1 0 24
  (fun z2 => br (!z2)
   (k1 1)
   (c31 x1.2.1 0 15
    (fun z3 => br (!z3)
     (k1 4)
     (c31 x1.2.2.1 0 15
      (fun z4 => br (!z4)
       (k1 4)
       (c31 x1.2.2.2.1 0 15
        (fun z5 => br (!z5)
         (k1 4)
         (c31 x1.2.2.2.2.1 (-2147483648) 2147483647
          (fun z6 => br (!z6)
           (k1 4)
           (c32 x1.1
            (fun z7 => br (!z7.1)
             (br ((x1.2.1 : Int) != 0)
              (j25s6
               (fun z8 => k1 z8)
               (fun z9 => j25r8
                (fun z10 => k1 z10)
                z9)
               true x1)
              (br (!z7.2.1)
               (br ((x1.2.2.1 : Int) != 0)
                (j25s6
                 (fun z11 => k1 z11)
                 (fun z12 => j25r8
                  (fun z13 => k1 z13)
                  z12)
                 true x1)
                (br (!z7.2.2.1)
                 (br ((x1.2.2.2.1 : Int) != 0)
                  (j25s6
                   (fun z14 => k1 z14)
                   (fun z15 => j25r8
                    (fun z16 => k1 z16)
                    z15)
                   true x1)
                  (br (!z7.2.2.2.1)
                   (j25s6
                    (fun z17 => k1 z17)
                    (fun z18 => j25r8
                     (fun z19 => k1 z19)
                     z18)
                    ((x1.2.2.2.2.1 : Int) != 0) x1)
                   (j25s6
                    (fun z20 => k1 z20)
                    (fun z21 => j25r8
                     (fun z22 => k1 z22)
                     z21)
                    false x1)))
                 (br (!z7.2.2.2.1)
                  (j25s6
                   (fun z23 => k1 z23)
                   (fun z24 => j25r8
                    (fun z25 => k1 z25)
                    z24)
                   ((x1.2.2.2.2.1 : Int) != 0) x1)
                  (j25s6
                   (fun z26 => k1 z26)
                   (fun z27 => j25r8
                    (fun z28 => k1 z28)
                    z27)
                   false x1))))
               (br (!z7.2.2.1)
                (br ((x1.2.2.2.1 : Int) != 0)
                 (j25s6
                  (fun z29 => k1 z29)
                  (fun z30 => j25r8
                   (fun z31 => k1 z31)
                   z30)
                  true x1)
                 (br (!z7.2.2.2.1)
                  (j25s6
                   (fun z32 => k1 z32)
                   (fun z33 => j25r8
                    (fun z34 => k1 z34)
                    z33)
                   ((x1.2.2.2.2.1 : Int) != 0) x1)
                  (j25s6
                   (fun z35 => k1 z35)
                   (fun z36 => j25r8
                    (fun z37 => k1 z37)
                    z36)
                   false x1)))
                (br (!z7.2.2.2.1)
                 (j25s6
                  (fun z38 => k1 z38)
                  (fun z39 => j25r8
                   (fun z40 => k1 z40)
                   z39)
                  ((x1.2.2.2.2.1 : Int) != 0) x1)
                 (j25s6
                  (fun z41 => k1 z41)
                  (fun z42 => j25r8
                   (fun z43 => k1 z43)
                   z42)
                  false x1)))))
             (br (!z7.2.1)
              (br ((x1.2.2.1 : Int) != 0)
               (j25s6
                (fun z44 => k1 z44)
                (fun z45 => j25r8
                 (fun z46 => k1 z46)
                 z45)
                true x1)
               (br (!z7.2.2.1)
                (br ((x1.2.2.2.1 : Int) != 0)
                 (j25s6
                  (fun z47 => k1 z47)
                  (fun z48 => j25r8
                   (fun z49 => k1 z49)
                   z48)
                  true x1)
                 (br (!z7.2.2.2.1)
                  (j25s6
                   (fun z50 => k1 z50)
                   (fun z51 => j25r8
                    (fun z52 => k1 z52)
                    z51)
                   ((x1.2.2.2.2.1 : Int) != 0) x1)
                  (j25s6
                   (fun z53 => k1 z53)
                   (fun z54 => j25r8
                    (fun z55 => k1 z55)
                    z54)
                   false x1)))
                (br (!z7.2.2.2.1)
                 (j25s6
                  (fun z56 => k1 z56)
                  (fun z57 => j25r8
                   (fun z58 => k1 z58)
                   z57)
                  ((x1.2.2.2.2.1 : Int) != 0) x1)
                 (j25s6
                  (fun z59 => k1 z59)
                  (fun z60 => j25r8
                   (fun z61 => k1 z61)
                   z60)
                  false x1))))
              (br (!z7.2.2.1)
               (br ((x1.2.2.2.1 : Int) != 0)
                (j25s6
                 (fun z62 => k1 z62)
                 (fun z63 => j25r8
                  (fun z64 => k1 z64)
                  z63)
                 true x1)
                (br (!z7.2.2.2.1)
                 (j25s6
                  (fun z65 => k1 z65)
                  (fun z66 => j25r8
                   (fun z67 => k1 z67)
                   z66)
                  ((x1.2.2.2.2.1 : Int) != 0) x1)
                 (j25s6
                  (fun z68 => k1 z68)
                  (fun z69 => j25r8
                   (fun z70 => k1 z70)
                   z69)
                  false x1)))
               (br (!z7.2.2.2.1)
                (j25s6
                 (fun z71 => k1 z71)
                 (fun z72 => j25r8
                  (fun z73 => k1 z73)
                  z72)
                 ((x1.2.2.2.2.1 : Int) != 0) x1)
                (j25s6
                 (fun z74 => k1 z74)
                 (fun z75 => j25r8
                  (fun z76 => k1 z76)
                  z75)
                 false x1)))))))))))))))
structure c25 (x1 : Int × Int × Int × Int × Int × Unit) (k1 : Int → Prop) : Prop where
  of : tc25 x1 k1

def tc12 (x1 : Int) (k1 : Bool → Prop) : Prop :=
  br (decide ((x1 : Int) ≥ 1))
  (br (decide ((x1 : Int) ≤ 15))
   (k1 true)
   (k1 ((x1 : Int) == 23)))
  (k1 ((x1 : Int) == 23))
structure c12 (x1 : Int) (k1 : Bool → Prop) : Prop where
  of : tc12 x1 k1

def tl20r4 (k1 : Int → Int → Prop) (k2 : (List (Int × Int × Int × Int × Int × Unit)) → Prop) (s1 : List (Int × Int × Int × Int × Int × Unit)) (s2 : List (Int × Int × Int × Int × Int × Unit)) (s3 : Int) (s4 : Int) : Prop :=
  ∀ (I1 : (List (Int × Int × Int × Int × Int × Unit)) → (List (Int × Int × Int × Int × Int × Unit)) → Int → Int → Prop),
    (∀ (s1 : List (Int × Int × Int × Int × Int × Unit)) (s2 : List (Int × Int × Int × Int × Int × Unit)) (s3 : Int) (s4 : Int), (br (decide ((s4 : Int) < s3))
    (need False (at? s2 s4) fun y5 =>
     c25 y5
      (fun z6 => br ((z6 : Int) != 0)
       (k1 0 z6)
       (c12 y5.1
        (fun z7 => br (!z7)
         (k1 0 3)
         (I1 s1 s2 s3 (IntKind.wrap .i64 (s4 + 1)))))))
    (k2 s1)) → I1 s1 s2 s3 s4) →
    I1 s1 s2 s3 s4
structure l20r4 (k1 : Int → Int → Prop) (k2 : (List (Int × Int × Int × Int × Int × Unit)) → Prop) (s1 : List (Int × Int × Int × Int × Int × Unit)) (s2 : List (Int × Int × Int × Int × Int × Unit)) (s3 : Int) (s4 : Int) : Prop where
  of : tl20r4 k1 k2 s1 s2 s3 s4

def tl15r4 (k1 : Int → Prop) (k2 : (Int × Int × Int × (List Int) × (List Int) × Unit) → Prop) (s1 : List Int) (s2 : Int) (s3 : Int × Int × Int × (List Int) × (List Int) × Unit) : Prop :=
  ∀ (I1 : (List Int) → Int → (Int × Int × Int × (List Int) × (List Int) × Unit) → Prop),
    (∀ (s1 : List Int) (s2 : Int) (s3 : Int × Int × Int × (List Int) × (List Int) × Unit), (br (decide ((s2 : Int) < 16))
    (need False (at? s1 s2) fun y4 =>
     br (decide ((y4 : Int) < 0))
      (k1 4)
      (I1 s1 (IntKind.wrap .i64 (s2 + 1)) s3))
    (k2 s3)) → I1 s1 s2 s3) →
    I1 s1 s2 s3
structure l15r4 (k1 : Int → Prop) (k2 : (Int × Int × Int × (List Int) × (List Int) × Unit) → Prop) (s1 : List Int) (s2 : Int) (s3 : Int × Int × Int × (List Int) × (List Int) × Unit) : Prop where
  of : tl15r4 k1 k2 s1 s2 s3

def tl15r11 (k1 : Int → Prop) (k2 : Prop) (s1 : Int) (s2 : List Int) (s3 : Int) (s4 : Int) : Prop :=
  ∀ (I1 : Int → (List Int) → Int → Int → Prop),
    (∀ (s1 : Int) (s2 : List Int) (s3 : Int) (s4 : Int), (br (decide ((s4 : Int) < s3))
    (need False (at? s2 s4) fun y5 =>
     br (decide ((y5 : Int) ≤ s1))
      (k1 3)
      (I1 y5 s2 s3 (IntKind.wrap .i64 (s4 + 1))))
    (k2)) → I1 s1 s2 s3 s4) →
    I1 s1 s2 s3 s4
structure l15r11 (k1 : Int → Prop) (k2 : Prop) (s1 : Int) (s2 : List Int) (s3 : Int) (s4 : Int) : Prop where
  of : tl15r11 k1 k2 s1 s2 s3 s4

def tc15 (x1 : Int × Int × Int × (List Int) × (List Int) × Unit) (k1 : Int → Prop) : Prop :=
  br (decide ((x1.1 : Int) < 0))
  (k1 4)
  (br (decide ((x1.2.1 : Int) < 0))
   (k1 4)
   (br (decide ((x1.2.2.1 : Int) < 0))
    (k1 4)
    (br (decide (((((List.length x1.2.2.2.2.1) : Nat) : Int) : Int) > 16384))
     (k1 4)
     (l15r4
      (fun z2 => k1 z2)
      (fun z3 => l15r11
       (fun z4 => k1 z4)
       (k1 0)
       (IntKind.wrap .i64 (z3.1 - 1)) z3.2.2.2.2.1 (((List.length z3.2.2.2.2.1) : Nat) : Int) 0)
      x1.2.2.2.1 0 x1))))
structure c15 (x1 : Int × Int × Int × (List Int) × (List Int) × Unit) (k1 : Int → Prop) : Prop where
  of : tc15 x1 k1

def tc5 (x1 : Int) (k1 : Int → Prop) : Prop :=
  br ((x1 : Int) == 3)
  (k1 3)
  (br ((x1 : Int) == 12)
   (k1 3)
   (br ((x1 : Int) == 14)
    (k1 4)
    (br ((x1 : Int) == 15)
     (k1 4)
     (br ((x1 : Int) == 4)
      (k1 8)
      (br ((x1 : Int) == 5)
       (k1 8)
       (k1 1))))))
structure c5 (x1 : Int) (k1 : Int → Prop) : Prop where
  of : tc5 x1 k1

def tl24r1 (k1 : (List Int) → Prop) (s1 : List Int) (s2 : Int) (s3 : Int) (s4 : List Int) : Prop :=
  ∀ (I1 : (List Int) → Int → Int → (List Int) → Prop),
    (∀ (s1 : List Int) (s2 : Int) (s3 : Int) (s4 : List Int), (br (decide ((s3 : Int) < s2))
    (need False (at? s1 s3) fun y5 =>
     br ((y5 : Int) != 0)
      (br (roomB ((List.length s4) + 1) 8)
       (I1 s1 s2 (IntKind.wrap .i64 (s3 + 1)) (s4 ++ [y5]))
       (False /- 61 -/))
      (I1 s1 s2 (IntKind.wrap .i64 (s3 + 1)) s4))
    (k1 s4)) → I1 s1 s2 s3 s4) →
    I1 s1 s2 s3 s4
structure l24r1 (k1 : (List Int) → Prop) (s1 : List Int) (s2 : Int) (s3 : Int) (s4 : List Int) : Prop where
  of : tl24r1 k1 s1 s2 s3 s4

def tc24 (x1 : List Int) (k1 : (List Int) → Prop) : Prop :=
  l24r1
  (fun z2 => k1 z2)
  x1 (((List.length x1) : Nat) : Int) 0 []
structure c24 (x1 : List Int) (k1 : (List Int) → Prop) : Prop where
  of : tc24 x1 k1

def tj10r30 (k1 : (List Int) → Prop) (s1 : List Int) : Prop :=
  k1 s1
structure j10r30 (k1 : (List Int) → Prop) (s1 : List Int) : Prop where
  of : tj10r30 k1 s1

def tl24r1v2 (k1 : (List Int) → Prop) (k2 : (List Int) → Prop) (s1 : List Int) (s2 : Int) (s3 : Int) (s4 : List Int) : Prop :=
  ∀ (I1 : (List Int) → Int → Int → (List Int) → Prop) (I2 : (List Int) → Int → Int → (List Int) → Prop),
    (∀ (s1 : List Int) (s2 : Int) (s3 : Int) (s4 : List Int), (br (decide ((s3 : Int) < s2))
    (need False (at? s1 s3) fun y5 =>
     br ((y5 : Int) != 0)
      (br (roomB ((List.length s4) + 1) 8)
       (I2 s1 s2 (IntKind.wrap .i64 (s3 + 1)) (s4 ++ [y5]))
       (False /- 61 -/))
      (I1 s1 s2 (IntKind.wrap .i64 (s3 + 1)) s4))
    (k1 s4)) → I1 s1 s2 s3 s4) →
    (∀ (s6 : List Int) (s7 : Int) (s8 : Int) (s9 : List Int), (br (decide ((s8 : Int) < s7))
    (need False (at? s6 s8) fun y10 =>
     br ((y10 : Int) != 0)
      (br (roomB ((List.length s9) + 1) 8)
       (I2 s6 s7 (IntKind.wrap .i64 (s8 + 1)) (s9 ++ [y10]))
       (False /- 61 -/))
      (I2 s6 s7 (IntKind.wrap .i64 (s8 + 1)) s9))
    (k2 s9)) → I2 s6 s7 s8 s9) →
    I1 s1 s2 s3 s4
structure l24r1v2 (k1 : (List Int) → Prop) (k2 : (List Int) → Prop) (s1 : List Int) (s2 : Int) (s3 : Int) (s4 : List Int) : Prop where
  of : tl24r1v2 k1 k2 s1 s2 s3 s4

def tc24v2 (x1 : List Int) (x2 : List Int) (k1 : (List Int) → Prop) (k2 : (List Int) → Prop) : Prop :=
  l24r1v2
  (fun z3 => k1 z3)
  (fun z4 => k2 z4)
  x1 (((List.length x1) : Nat) : Int) 0 x2
structure c24v2 (x1 : List Int) (x2 : List Int) (k1 : (List Int) → Prop) (k2 : (List Int) → Prop) : Prop where
  of : tc24v2 x1 x2 k1 k2

def tj10s19 (k1 : (List Int) → Prop) (s1 : Int) (s2 : Bool) (s3 : Int × Int × Int × Int × Int × Unit) (s4 : List Int) : Prop :=
  br (s2)
  (c24v2 [s3.2.2.1, s3.2.2.2.1] s4
   (fun z5 => k1 z5)
   (fun z6 => k1 z6))
  (br ((s1 : Int) == 8)
   (c24v2 [s3.2.2.1] s4
    (fun z7 => k1 z7)
    (fun z8 => k1 z8))
   (br ((s1 : Int) == 9)
    (c24v2 [s3.2.2.1] s4
     (fun z9 => k1 z9)
     (fun z10 => k1 z10))
    (br ((s1 : Int) == 10)
     (c24v2 [s3.2.2.1] s4
      (fun z11 => k1 z11)
      (fun z12 => k1 z12))
     (br ((s1 : Int) == 12)
      (c24v2 [s3.2.2.1] s4
       (fun z13 => k1 z13)
       (fun z14 => k1 z14))
      (br ((s1 : Int) == 21)
       (c24v2 [s3.2.2.1] s4
        (fun z15 => k1 z15)
        (fun z16 => k1 z16))
       (br ((s1 : Int) == 23)
        (c24v2 [s3.2.2.1] s4
         (fun z17 => k1 z17)
         (fun z18 => k1 z18))
        (br ((s1 : Int) == 14)
         (c24v2 [s3.2.2.2.1] s4
          (fun z19 => k1 z19)
          (fun z20 => k1 z20))
         (k1 s4))))))))
structure j10s19 (k1 : (List Int) → Prop) (s1 : Int) (s2 : Bool) (s3 : Int × Int × Int × Int × Int × Unit) (s4 : List Int) : Prop where
  of : tj10s19 k1 s1 s2 s3 s4

def tc10 (x1 : Int × Int × Int × Int × Int × Unit) (k1 : (List Int) → Prop) : Prop :=
  br ((x1.1 : Int) == 0)
  (c24 [1]
   (fun z2 => j10r30
    (fun z3 => k1 z3)
    z2))
  (br ((x1.1 : Int) == 22)
   (c24 [15]
    (fun z4 => j10r30
     (fun z5 => k1 z5)
     z4))
   (br ((x1.1 : Int) == 1)
    (j10s19
     (fun z6 => j10r30
      (fun z7 => k1 z7)
      z6)
     x1.1 true x1 [])
    (br ((x1.1 : Int) == 2)
     (j10s19
      (fun z8 => j10r30
       (fun z9 => k1 z9)
       z8)
      x1.1 true x1 [])
     (br ((x1.1 : Int) == 3)
      (j10s19
       (fun z10 => j10r30
        (fun z11 => k1 z11)
        z10)
       x1.1 true x1 [])
      (br ((x1.1 : Int) == 4)
       (j10s19
        (fun z12 => j10r30
         (fun z13 => k1 z13)
         z12)
        x1.1 true x1 [])
       (br ((x1.1 : Int) == 5)
        (j10s19
         (fun z14 => j10r30
          (fun z15 => k1 z15)
          z14)
         x1.1 true x1 [])
        (br ((x1.1 : Int) == 6)
         (j10s19
          (fun z16 => j10r30
           (fun z17 => k1 z17)
           z16)
          x1.1 true x1 [])
         (br ((x1.1 : Int) == 7)
          (j10s19
           (fun z18 => j10r30
            (fun z19 => k1 z19)
            z18)
           x1.1 true x1 [])
          (br ((x1.1 : Int) == 13)
           (j10s19
            (fun z20 => j10r30
             (fun z21 => k1 z21)
             z20)
            x1.1 true x1 [])
           (br ((x1.1 : Int) == 15)
            (j10s19
             (fun z22 => j10r30
              (fun z23 => k1 z23)
              z22)
             x1.1 true x1 [])
            (br ((x1.1 : Int) == 16)
             (j10s19
              (fun z24 => j10r30
               (fun z25 => k1 z25)
               z24)
              x1.1 true x1 [])
             (br ((x1.1 : Int) == 17)
              (j10s19
               (fun z26 => j10r30
                (fun z27 => k1 z27)
                z26)
               x1.1 true x1 [])
              (j10s19
               (fun z28 => j10r30
                (fun z29 => k1 z29)
                z28)
               x1.1 ((x1.1 : Int) == 18) x1 [])))))))))))))
structure c10 (x1 : Int × Int × Int × Int × Int × Unit) (k1 : (List Int) → Prop) : Prop where
  of : tc10 x1 k1

def tl26r3 (k1 : Int → Int → (Int × Int × Int × (List Int) × (List Int) × Unit) → (Int × Int × Int × Int × Int × Unit) → Prop) (s1 : Int) (s2 : Int) (s3 : Int) (s4 : Int) (s5 : Int × Int × Int × (List Int) × (List Int) × Unit) (s6 : Int × Int × Int × Int × Int × Unit) (s7 : List Int) : Prop :=
  ∀ (I1 : Int → Int → Int → Int → (Int × Int × Int × (List Int) × (List Int) × Unit) → (Int × Int × Int × Int × Int × Unit) → (List Int) → Prop),
    (∀ (s1 : Int) (s2 : Int) (s3 : Int) (s4 : Int) (s5 : Int × Int × Int × (List Int) × (List Int) × Unit) (s6 : Int × Int × Int × Int × Int × Unit) (s7 : List Int), (br (decide ((s4 : Int) < s3))
    (br (decide ((0 : Int) ≤ s4 ∧ (s4 : Int) < (((List.length s7) : Nat) : Int)))
     (need False (s7)[(Int.toNat s4)]? fun y8 =>
      br (decide ((0 : Int) ≤ y8 ∧ (y8 : Int) < 16))
       (need False (s5.2.2.2.1)[(Int.toNat y8)]? fun y9 =>
        I1 s1 (maxI s2 y9) s3 (IntKind.wrap .i64 (s4 + 1)) s5 s6 s7)
       (False /- 116 -/))
     (False /- 39 -/))
    (k1 s1 s2 s5 s6)) → I1 s1 s2 s3 s4 s5 s6 s7) →
    I1 s1 s2 s3 s4 s5 s6 s7
structure l26r3 (k1 : Int → Int → (Int × Int × Int × (List Int) × (List Int) × Unit) → (Int × Int × Int × Int × Int × Unit) → Prop) (s1 : Int) (s2 : Int) (s3 : Int) (s4 : Int) (s5 : Int × Int × Int × (List Int) × (List Int) × Unit) (s6 : Int × Int × Int × Int × Int × Unit) (s7 : List Int) : Prop where
  of : tl26r3 k1 s1 s2 s3 s4 s5 s6 s7

def tc27 (x1 : Int) (k1 : Bool → Prop) : Prop :=
  br ((x1 : Int) == 4)
  (k1 true)
  (k1 ((x1 : Int) == 5))
structure c27 (x1 : Int) (k1 : Bool → Prop) : Prop where
  of : tc27 x1 k1

def tc7 (x1 : Int × Int × Int × Int × Int × Unit) (k1 : Int → Prop) : Prop :=
  br ((x1.1 : Int) == 20)
  (k1 15)
  (br ((x1.1 : Int) == 21)
   (k1 15)
   (br ((x1.1 : Int) == 0)
    (k1 0)
    (br ((x1.1 : Int) == 13)
     (k1 0)
     (br ((x1.1 : Int) == 16)
      (k1 0)
      (br ((x1.1 : Int) == 17)
       (k1 0)
       (br ((x1.1 : Int) == 18)
        (k1 0)
        (br ((x1.1 : Int) == 19)
         (k1 0)
         (br ((x1.1 : Int) == 22)
          (k1 0)
          (br ((x1.1 : Int) == 23)
           (k1 0)
           (br ((x1.1 : Int) == 24)
            (k1 0)
            (k1 x1.2.1)))))))))))
structure c7 (x1 : Int × Int × Int × Int × Int × Unit) (k1 : Int → Prop) : Prop where
  of : tc7 x1 k1

def tl38r2 (k1 : Int → Prop) (k2 : Prop) (s1 : List Int) (s2 : Int) (s3 : Int) (s4 : Int) : Prop :=
  ∀ (I1 : (List Int) → Int → Int → Int → Prop),
    (∀ (s1 : List Int) (s2 : Int) (s3 : Int) (s4 : Int), (br (decide ((s4 : Int) < s3))
    (need False (at? s1 s4) fun y5 =>
     br ((s2 : Int) == y5)
      (k1 s4)
      (I1 s1 s2 s3 (IntKind.wrap .i64 (s4 + 1))))
    (k2)) → I1 s1 s2 s3 s4) →
    I1 s1 s2 s3 s4
structure l38r2 (k1 : Int → Prop) (k2 : Prop) (s1 : List Int) (s2 : Int) (s3 : Int) (s4 : Int) : Prop where
  of : tl38r2 k1 k2 s1 s2 s3 s4

def tc38 (x1 : List Int) (x2 : Int) (k1 : Int → Prop) : Prop :=
  l38r2
  (fun z3 => k1 z3)
  (k1 (-1))
  x1 x2 (((List.length x1) : Nat) : Int) 0
structure c38 (x1 : List Int) (x2 : Int) (k1 : Int → Prop) : Prop where
  of : tc38 x1 x2 k1

def tc33 (x1 : List Int) (x2 : Int) (k1 : Bool → Prop) : Prop :=
  c38 x1 x2
  (fun z3 => k1 (decide ((z3 : Int) ≥ 0)))
structure c33 (x1 : List Int) (x2 : Int) (k1 : Bool → Prop) : Prop where
  of : tc33 x1 x2 k1

def tl26r12 (k1 : Int → Prop) (s1 : Int) (s2 : Int) (s3 : Int × Int × Int × (List Int) × (List Int) × Unit) : Prop :=
  ∀ (I1 : Int → Int → (Int × Int × Int × (List Int) × (List Int) × Unit) → Prop),
    (∀ (s1 : Int) (s2 : Int) (s3 : Int × Int × Int × (List Int) × (List Int) × Unit), (c33 s3.2.2.2.2.1 (IntKind.wrap .i64 (s2 + s1))
    (fun z4 => br (z4)
     (I1 s1 (IntKind.wrap .i64 (s2 + 1)) s3)
     (k1 s2))) → I1 s1 s2 s3) →
    I1 s1 s2 s3
structure l26r12 (k1 : Int → Prop) (s1 : Int) (s2 : Int) (s3 : Int × Int × Int × (List Int) × (List Int) × Unit) : Prop where
  of : tl26r12 k1 s1 s2 s3

def tc26 (x1 : Int × Int × Int × (List Int) × (List Int) × Unit) (x2 : Int × Int × Int × Int × Int × Unit) (x3 : Int) (k1 : Int → Prop) : Prop :=
  c10 x2
  (fun z4 => l26r3
   (fun z5 z6 z7 z8 => c27 z8.1
    (fun z9 => br (z9)
     (c7 z8
      (fun z10 => br ((z10 : Int) != 0)
       (br (decide ((0 : Int) ≤ z10 ∧ (z10 : Int) < 16))
        (need False (z7.2.2.2.1)[(Int.toNat z10)]? fun y11 =>
         l26r12
          (fun z12 => k1 z12)
          z5 (maxI (maxI z6 z7.2.1) (IntKind.wrap .i64 ((IntKind.wrap .i64 (y11 + 1)) - z5))) z7)
        (False /- 116 -/))
       (k1 (maxI z6 z7.2.1))))
     (c7 z8
      (fun z13 => br ((z13 : Int) != 0)
       (br (decide ((0 : Int) ≤ z13 ∧ (z13 : Int) < 16))
        (need False (z7.2.2.2.1)[(Int.toNat z13)]? fun y14 =>
         l26r12
          (fun z15 => k1 z15)
          z5 (maxI z6 (IntKind.wrap .i64 ((IntKind.wrap .i64 (y14 + 1)) - z5))) z7)
        (False /- 116 -/))
       (k1 z6)))))
   x3 x1.1 (((List.length z4) : Nat) : Int) 0 x1 x2 z4)
structure c26 (x1 : Int × Int × Int × (List Int) × (List Int) × Unit) (x2 : Int × Int × Int × Int × Int × Unit) (x3 : Int) (k1 : Int → Prop) : Prop where
  of : tc26 x1 x2 x3 k1

def tl17r18 (k1 : Int → Int → (List Int) → Int → Int → Int → (List Int) → (Int × Int × Int × Int × Int × Unit) → Int → Int → Int → (List Int) → (List Int) → (List Int) → Prop) (s1 : Int) (s2 : Int) (s3 : Int) (s4 : Int) (s5 : List Int) (s6 : Int) (s7 : Int) (s8 : Int) (s9 : List Int) (s10 : Int × Int × Int × Int × Int × Unit) (s11 : Int) (s12 : Int) (s13 : Int) (s14 : List Int) (s15 : List Int) (s16 : List Int) : Prop :=
  ∀ (I1 : Int → Int → Int → Int → (List Int) → Int → Int → Int → (List Int) → (Int × Int × Int × Int × Int × Unit) → Int → Int → Int → (List Int) → (List Int) → (List Int) → Prop),
    (∀ (s1 : Int) (s2 : Int) (s3 : Int) (s4 : Int) (s5 : List Int) (s6 : Int) (s7 : Int) (s8 : Int) (s9 : List Int) (s10 : Int × Int × Int × Int × Int × Unit) (s11 : Int) (s12 : Int) (s13 : Int) (s14 : List Int) (s15 : List Int) (s16 : List Int), (br (decide ((s4 : Int) < s3))
    (br (decide ((0 : Int) ≤ s4 ∧ (s4 : Int) < (((List.length s5) : Nat) : Int)))
     (need False (s5)[(Int.toNat s4)]? fun y17 =>
      br (decide ((y17 : Int) ≥ s6))
       (br (roomB ((List.length s16) + 1) 8)
        (I1 s1 s2 s3 (IntKind.wrap .i64 (s4 + 1)) s5 s6 s7 s8 s9 s10 s11 s12 s13 s14 s15 (s16 ++ [y17]))
        (False /- 61 -/))
       (I1 s1 s2 s3 (IntKind.wrap .i64 (s4 + 1)) s5 s6 s7 s8 s9 s10 s11 s12 s13 s14 s15 s16))
     (False /- 39 -/))
    (k1 s1 s2 s5 s6 s7 s8 s9 s10 s11 s12 s13 s14 s15 s16)) → I1 s1 s2 s3 s4 s5 s6 s7 s8 s9 s10 s11 s12 s13 s14 s15 s16) →
    I1 s1 s2 s3 s4 s5 s6 s7 s8 s9 s10 s11 s12 s13 s14 s15 s16
structure l17r18 (k1 : Int → Int → (List Int) → Int → Int → Int → (List Int) → (Int × Int × Int × Int × Int × Unit) → Int → Int → Int → (List Int) → (List Int) → (List Int) → Prop) (s1 : Int) (s2 : Int) (s3 : Int) (s4 : Int) (s5 : List Int) (s6 : Int) (s7 : Int) (s8 : Int) (s9 : List Int) (s10 : Int × Int × Int × Int × Int × Unit) (s11 : Int) (s12 : Int) (s13 : Int) (s14 : List Int) (s15 : List Int) (s16 : List Int) : Prop where
  of : tl17r18 k1 s1 s2 s3 s4 s5 s6 s7 s8 s9 s10 s11 s12 s13 s14 s15 s16

def tc39 (x1 : Int) (k1 : Bool → Prop) : Prop :=
  k1 ((x1 : Int) != x1)
structure c39 (x1 : Int) (k1 : Bool → Prop) : Prop where
  of : tc39 x1 k1

def tc34 (x1 : Int) (x2 : Int) (k1 : Bool → Prop) : Prop :=
  c39 x1
  (fun z3 => br (z3)
   (c39 x2
    (fun z4 => br (!z4)
     (k1 true)
     (k1 (decide ((x1 : Int) < x2)))))
   (k1 (decide ((x1 : Int) < x2))))
structure c34 (x1 : Int) (x2 : Int) (k1 : Bool → Prop) : Prop where
  of : tc34 x1 x2 k1

def tl28r3 (k1 : (List Int) → Int → Int → Int → Prop) (s1 : List Int) (s2 : Int) (s3 : Int) (s4 : Int) (s5 : Int) : Prop :=
  ∀ (I1 : (List Int) → Int → Int → Int → Int → Prop),
    (∀ (s1 : List Int) (s2 : Int) (s3 : Int) (s4 : Int) (s5 : Int), (br (decide ((s4 : Int) < s5))
    (need False (at? s1 (IntKind.wrap .i64 (shrI .u64 (IntKind.wrap .u64 (IntKind.wrap .i64 (s4 + s5))) 1))) fun y6 =>
     c34 y6 s2
      (fun z7 => br (z7)
       (I1 s1 s2 s3 (IntKind.wrap .i64 ((IntKind.wrap .i64 (shrI .u64 (IntKind.wrap .u64 (IntKind.wrap .i64 (s4 + s5))) 1)) + 1)) s5)
       (I1 s1 s2 s3 s4 (IntKind.wrap .i64 (shrI .u64 (IntKind.wrap .u64 (IntKind.wrap .i64 (s4 + s5))) 1)))))
    (k1 s1 s2 s3 s4)) → I1 s1 s2 s3 s4 s5) →
    I1 s1 s2 s3 s4 s5
structure l28r3 (k1 : (List Int) → Int → Int → Int → Prop) (s1 : List Int) (s2 : Int) (s3 : Int) (s4 : Int) (s5 : Int) : Prop where
  of : tl28r3 k1 s1 s2 s3 s4 s5

def tc35 (x1 : Int) (k1 : Bool → Prop) : Prop :=
  k1 ((x1 : Int) != x1)
structure c35 (x1 : Int) (k1 : Bool → Prop) : Prop where
  of : tc35 x1 k1

def tc28 (x1 : List Int) (x2 : Int) (k1 : Int → Bool → Prop) : Prop :=
  l28r3
  (fun z3 z4 z5 z6 => br (decide ((z6 : Int) < z5))
   (need False (at? z3 z6) fun y7 =>
    br ((y7 : Int) == z4)
     (k1 z6 true)
     (need False (at? z3 z6) fun y8 =>
      c35 y8
       (fun z9 => br (z9)
        (c35 z4
         (fun z10 => k1 z6 z10))
        (k1 z6 false))))
   (k1 z6 false))
  x1 x2 (((List.length x1) : Nat) : Int) 0 (((List.length x1) : Nat) : Int)
structure c28 (x1 : List Int) (x2 : Int) (k1 : Int → Bool → Prop) : Prop where
  of : tc28 x1 x2 k1

def tc17 (x1 : Int) (x2 : Int) (x3 : Int) (x4 : List Int) (x5 : Int × Int × Int × Int × Int × Unit) (x6 : Int) (x7 : List Int) (k1 : Int → Int → Int → (List Int) → Int → Int → (List Int) → (List Int) → Prop) : Prop :=
  c15 (x1, x2, x3, x4, x7, ())
  (fun z8 => br ((z8 : Int) != 0)
   (k1 0 0 0 [0, 0, 0, 0, 0, 0, 0, 0, 0, 0, 0, 0, 0, 0, 0, 0] 0 z8 x7 [])
   (c25 x5
    (fun z9 => br ((z9 : Int) != 0)
     (k1 0 0 0 [0, 0, 0, 0, 0, 0, 0, 0, 0, 0, 0, 0, 0, 0, 0, 0] 0 z9 x7 [])
     (br (decide ((x6 : Int) < 0))
      (k1 0 0 0 [0, 0, 0, 0, 0, 0, 0, 0, 0, 0, 0, 0, 0, 0, 0, 0] 0 1 x7 [])
      (br (decide ((x6 : Int) > 10000))
       (k1 0 0 0 [0, 0, 0, 0, 0, 0, 0, 0, 0, 0, 0, 0, 0, 0, 0, 0] 0 1 x7 [])
       (c5 x5.1
        (fun z10 => c26 (x1, x2, x3, x4, x7, ()) x5 (IntKind.wrap .i64 (z10 + x6))
         (fun z11 => c27 x5.1
          (fun z12 => br (z12)
           (l17r18
            (fun z13 z14 z15 z16 z17 z18 z19 z20 z21 z22 z23 z24 z25 z26 => c7 z20
             (fun z27 => br ((z27 : Int) != 0)
              (br (decide ((0 : Int) ≤ z27 ∧ (z27 : Int) < 16))
               (need False (z19)[(Int.toNat z27)]? fun y28 =>
                br (decide ((z14 : Int) ≥ z16))
                 (c28 z26 z14
                  (fun z29 z30 => br (decide ((0 : Int) ≤ z29 ∧ (z29 : Int) ≤ (((List.length z26) : Nat) : Int)))
                   (br (roomB ((List.length z26) + 1) 8)
                    (k1 z16 z17 z18 (List.set z19 (Int.toNat z27) z14) z13 0 z15 (((List.take (Int.toNat z29) z26) ++ [z14]) ++ (List.drop (Int.toNat z29) z26)))
                    (False /- 955 -/))
                   (False /- 956 -/)))
                 (k1 z16 z17 z18 (List.set z19 (Int.toNat z27) z14) z13 0 z15 z26))
               (False /- 116 -/))
              (k1 z16 z17 z18 z19 z13 0 z15 z26)))
            z11 (IntKind.wrap .i64 (z11 + (IntKind.wrap .i64 (z10 + x6)))) (((List.length x7) : Nat) : Int) 0 x7 (IntKind.wrap .i64 ((IntKind.wrap .i64 (z11 + 1)) + x6)) (IntKind.wrap .i64 (z11 + (IntKind.wrap .i64 (z10 + x6)))) (maxI x3 (IntKind.wrap .i64 (z11 + (IntKind.wrap .i64 (z10 + x6))))) x4 x5 0 0 0 [0, 0, 0, 0, 0, 0, 0, 0, 0, 0, 0, 0, 0, 0, 0, 0] [] [])
           (l17r18
            (fun z31 z32 z33 z34 z35 z36 z37 z38 z39 z40 z41 z42 z43 z44 => c7 z38
             (fun z45 => br ((z45 : Int) != 0)
              (br (decide ((0 : Int) ≤ z45 ∧ (z45 : Int) < 16))
               (need False (z37)[(Int.toNat z45)]? fun y46 =>
                br (decide ((z32 : Int) ≥ z34))
                 (c28 z44 z32
                  (fun z47 z48 => br (decide ((0 : Int) ≤ z47 ∧ (z47 : Int) ≤ (((List.length z44) : Nat) : Int)))
                   (br (roomB ((List.length z44) + 1) 8)
                    (k1 z34 z35 z36 (List.set z37 (Int.toNat z45) z32) z31 0 z33 (((List.take (Int.toNat z47) z44) ++ [z32]) ++ (List.drop (Int.toNat z47) z44)))
                    (False /- 955 -/))
                   (False /- 956 -/)))
                 (k1 z34 z35 z36 (List.set z37 (Int.toNat z45) z32) z31 0 z33 z44))
               (False /- 116 -/))
              (k1 z34 z35 z36 z37 z31 0 z33 z44)))
            z11 (IntKind.wrap .i64 (z11 + (IntKind.wrap .i64 (z10 + x6)))) (((List.length x7) : Nat) : Int) 0 x7 (IntKind.wrap .i64 ((IntKind.wrap .i64 (z11 + 1)) + x6)) x2 (maxI x3 (IntKind.wrap .i64 (z11 + (IntKind.wrap .i64 (z10 + x6))))) x4 x5 0 0 0 [0, 0, 0, 0, 0, 0, 0, 0, 0, 0, 0, 0, 0, 0, 0, 0] [] []))))))))))
structure c17 (x1 : Int) (x2 : Int) (x3 : Int) (x4 : List Int) (x5 : Int × Int × Int × Int × Int × Unit) (x6 : Int) (x7 : List Int) (k1 : Int → Int → Int → (List Int) → Int → Int → (List Int) → (List Int) → Prop) : Prop where
  of : tc17 x1 x2 x3 x4 x5 x6 x7 k1

def tl20r14 (k1 : Int → Int → Int → (List Int) → (List Int) → Prop) (s1 : List (Int × Int × Int × Int × Int × Unit)) (s2 : Int) (s3 : Int) (s4 : Int) (s5 : Int) (s6 : Int) (s7 : List Int) (s8 : List Int) : Prop :=
  ∀ (I1 : (List (Int × Int × Int × Int × Int × Unit)) → Int → Int → Int → Int → Int → (List Int) → (List Int) → Prop),
    (∀ (s1 : List (Int × Int × Int × Int × Int × Unit)) (s2 : Int) (s3 : Int) (s4 : Int) (s5 : Int) (s6 : Int) (s7 : List Int) (s8 : List Int), (br (decide ((s3 : Int) < s2))
    (need False (at? s1 s3) fun y9 =>
     c17 s4 s5 s6 s7 y9 0 s8
      (fun z10 z11 z12 z13 z14 z15 z16 z17 => I1 s1 s2 (IntKind.wrap .i64 (s3 + 1)) z10 z11 z12 z13 z17))
    (k1 s4 s5 s6 s7 s8)) → I1 s1 s2 s3 s4 s5 s6 s7 s8) →
    I1 s1 s2 s3 s4 s5 s6 s7 s8
structure l20r14 (k1 : Int → Int → Int → (List Int) → (List Int) → Prop) (s1 : List (Int × Int × Int × Int × Int × Unit)) (s2 : Int) (s3 : Int) (s4 : Int) (s5 : Int) (s6 : Int) (s7 : List Int) (s8 : List Int) : Prop where
  of : tl20r14 k1 s1 s2 s3 s4 s5 s6 s7 s8

def tc20 (x1 : List (Int × Int × Int × Int × Int × Unit)) (k1 : Int → Int → Prop) : Prop :=
  br (decide (((((List.length x1) : Nat) : Int) : Int) > 4096))
  (k1 0 2)
  (l20r4
   (fun z2 z3 => k1 z2 z3)
   (fun z4 => l20r14
    (fun z5 z6 z7 z8 z9 => k1 z7 0)
    z4 (((List.length z4) : Nat) : Int) 0 0 0 0 [0, 0, 0, 0, 0, 0, 0, 0, 0, 0, 0, 0, 0, 0, 0, 0] [])
   x1 x1 (((List.length x1) : Nat) : Int) 0)
structure c20 (x1 : List (Int × Int × Int × Int × Int × Unit)) (k1 : Int → Int → Prop) : Prop where
  of : tc20 x1 k1

def tc4 (k1 : Bool → Prop) : Prop :=
  c20 [(12, 1, 2, 0, 0, ()), (8, 3, 1, 0, 0, ())]
  (fun z1 z2 => br ((z2 : Int) == 0)
   (k1 ((z1 : Int) == 4))
   (k1 false))
structure c4 (k1 : Bool → Prop) : Prop where
  of : tc4 k1

def tc6 (x1 : Int) (k1 : Int → Prop) : Prop :=
  br (decide ((x1 : Int) < 0))
  (k1 1)
  (br (decide ((x1 : Int) ≥ ((25 : Nat) : Int)))
   (k1 1)
   (br (decide ((0 : Int) ≤ x1 ∧ (x1 : Int) < ((25 : Nat) : Int)))
    (need False ([1, 1, 1, 3, 8, 8, 1, 1, 1, 1, 1, 1, 3, 1, 4, 4, 1, 1, 1, 1, 1, 1, 1, 1, 1])[(Int.toNat x1)]? fun y2 =>
     k1 y2)
    (False /- 39 -/)))
structure c6 (x1 : Int) (k1 : Int → Prop) : Prop where
  of : tc6 x1 k1

def tc21 (x1 : Int) (x2 : Int) (x3 : Int) (k1 : Bool → Prop) : Prop :=
  br (decide ((x1 : Int) ≥ x2))
  (k1 (decide ((x1 : Int) ≤ x3)))
  (k1 false)
structure c21 (x1 : Int) (x2 : Int) (x3 : Int) (k1 : Bool → Prop) : Prop where
  of : tc21 x1 x2 x3 k1

def tc23 (k1 : (List (List UInt8)) → Prop) : Prop :=
  k1 [[], [(68 : UInt8), (65 : UInt8), (66 : UInt8)], [(68 : UInt8), (65 : UInt8), (66 : UInt8)], [(68 : UInt8), (65 : UInt8), (66 : UInt8)], [(68 : UInt8), (65 : UInt8), (66 : UInt8)], [(68 : UInt8), (65 : UInt8), (66 : UInt8)], [(68 : UInt8), (65 : UInt8), (66 : UInt8)], [(68 : UInt8), (65 : UInt8), (66 : UInt8)], [(68 : UInt8), (65 : UInt8), (78 : UInt8)], [(68 : UInt8), (65 : UInt8), (78 : UInt8)], [(68 : UInt8), (65 : UInt8), (78 : UInt8)], [(68 : UInt8), (78 : UInt8)], [(68 : UInt8), (65 : UInt8), (78 : UInt8)], [(65 : UInt8), (66 : UInt8), (78 : UInt8)], [(68 : UInt8), (66 : UInt8), (78 : UInt8)], [(68 : UInt8), (65 : UInt8), (66 : UInt8)], [(65 : UInt8), (66 : UInt8), (78 : UInt8)], [(65 : UInt8), (66 : UInt8), (78 : UInt8)], [(65 : UInt8), (66 : UInt8), (78 : UInt8)], [(78 : UInt8)], [(78 : UInt8)], [(65 : UInt8)], [], [(65 : UInt8)], [(78 : UInt8)]]
structure c23 (k1 : (List (List UInt8)) → Prop) : Prop where
  of : tc23 k1

def tl22r2 (k1 : Bool → Prop) (k2 : Prop) (s1 : List UInt8) (s2 : Int) (s3 : Int) (s4 : Int) : Prop :=
  ∀ (I1 : (List UInt8) → Int → Int → Int → Prop),
    (∀ (s1 : List UInt8) (s2 : Int) (s3 : Int) (s4 : Int), (br (decide ((s4 : Int) < s3))
    (need False (at? s1 s4) fun y5 =>
     br (((UInt8.toNat y5 : Int) : Int) == s2)
      (k1 true)
      (I1 s1 s2 s3 (IntKind.wrap .i64 (s4 + 1))))
    (k2)) → I1 s1 s2 s3 s4) →
    I1 s1 s2 s3 s4
structure l22r2 (k1 : Bool → Prop) (k2 : Prop) (s1 : List UInt8) (s2 : Int) (s3 : Int) (s4 : Int) : Prop where
  of : tl22r2 k1 k2 s1 s2 s3 s4

def tc22 (x1 : List UInt8) (x2 : Int) (k1 : Bool → Prop) : Prop :=
  l22r2
  (fun z3 => k1 z3)
  (k1 false)
  x1 x2 (((List.length x1) : Nat) : Int) 0
structure c22 (x1 : List UInt8) (x2 : Int) (k1 : Bool → Prop) : Prop where
  of : tc22 x1 x2 k1

def tc8 (x1 : Int × Int × Int × Int × Int × Unit) (k1 : Int → Prop) : Prop :=
  br ((x1.1 : Int) == 20)
  (k1 15)
  (br ((x1.1 : Int) == 21)
   (k1 15)
   (c21 x1.1 0 24
    (fun z2 => br (z2)
     (c23 
      (fun z3 => br (true && true)
       (br (eqT (.int .i64) x1.1 x1.1)
        (br (decide ((0 : Int) ≤ x1.1 ∧ (x1.1 : Int) < (((List.length z3) : Nat) : Int)))
         (need False (z3)[(Int.toNat x1.1)]? fun y4 =>
          c22 y4 68
           (fun z5 => br (z5)
            (k1 x1.2.1)
            (c21 x1.1 0 24
             (fun z6 => br (z6)
              (k1 0)
              (k1 x1.2.1)))))
         (False /- 39 -/))
        (False /- 942 -/))
       (False /- 942 -/)))
     (c21 x1.1 0 24
      (fun z7 => br (z7)
       (k1 0)
       (k1 x1.2.1))))))
structure c8 (x1 : Int × Int × Int × Int × Int × Unit) (k1 : Int → Prop) : Prop where
  of : tc8 x1 k1

def tl11r6 (k1 : (List Int) → Prop) (s1 : List Int) (s2 : Int) (s3 : Int) (s4 : Int × Int × Int × Int × Int × Unit) (s5 : List Int) : Prop :=
  ∀ (I1 : (List Int) → Int → Int → (Int × Int × Int × Int × Int × Unit) → (List Int) → Prop),
    (∀ (s1 : List Int) (s2 : Int) (s3 : Int) (s4 : Int × Int × Int × Int × Int × Unit) (s5 : List Int), (br (decide ((s3 : Int) < s2))
    (need False (at? s1 s3) fun y6 =>
     br ((y6 : Int) == 65)
      (br ((s4.2.2.1 : Int) != 0)
       (br (roomB ((List.length s5) + 1) 8)
        (I1 s1 s2 (IntKind.wrap .i64 (s3 + 1)) s4 (s5 ++ [s4.2.2.1]))
        (False /- 61 -/))
       (I1 s1 s2 (IntKind.wrap .i64 (s3 + 1)) s4 s5))
      (br ((y6 : Int) == 66)
       (br ((s4.2.2.2.1 : Int) != 0)
        (br (roomB ((List.length s5) + 1) 8)
         (I1 s1 s2 (IntKind.wrap .i64 (s3 + 1)) s4 (s5 ++ [s4.2.2.2.1]))
         (False /- 61 -/))
        (I1 s1 s2 (IntKind.wrap .i64 (s3 + 1)) s4 s5))
       (br ((y6 : Int) == 70)
        (br (roomB ((List.length s5) + 1) 8)
         (I1 s1 s2 (IntKind.wrap .i64 (s3 + 1)) s4 (s5 ++ [15]))
         (False /- 61 -/))
        (br (roomB ((List.length s5) + 1) 8)
         (I1 s1 s2 (IntKind.wrap .i64 (s3 + 1)) s4 (s5 ++ [1]))
         (False /- 61 -/)))))
    (k1 s5)) → I1 s1 s2 s3 s4 s5) →
    I1 s1 s2 s3 s4 s5
structure l11r6 (k1 : (List Int) → Prop) (s1 : List Int) (s2 : Int) (s3 : Int) (s4 : Int × Int × Int × Int × Int × Unit) (s5 : List Int) : Prop where
  of : tl11r6 k1 s1 s2 s3 s4 s5

def tc11 (x1 : Int × Int × Int × Int × Int × Unit) (k1 : (List Int) → Prop) : Prop :=
  br (decide ((x1.1 : Int) < 0))
  (k1 [])
  (br (decide ((x1.1 : Int) ≥ ((25 : Nat) : Int)))
   (k1 [])
   (br (decide ((0 : Int) ≤ x1.1 ∧ (x1.1 : Int) < ((25 : Nat) : Int)))
    (need False ([[(49 : UInt8)], [(65 : UInt8), (66 : UInt8)], [(65 : UInt8), (66 : UInt8)], [(65 : UInt8), (66 : UInt8)], [(65 : UInt8), (66 : UInt8)], [(65 : UInt8), (66 : UInt8)], [(65 : UInt8), (66 : UInt8)], [(65 : UInt8), (66 : UInt8)], [(65 : UInt8)], [(65 : UInt8)], [(65 : UInt8)], [], [(65 : UInt8)], [(65 : UInt8), (66 : UInt8)], [(66 : UInt8)], [(65 : UInt8), (66 : UInt8)], [(65 : UInt8), (66 : UInt8)], [(65 : UInt8), (66 : UInt8)], [(65 : UInt8), (66 : UInt8)], [], [], [(65 : UInt8)], [(70 : UInt8)], [(65 : UInt8)], []])[(Int.toNat x1.1)]? fun y2 =>
     l11r6
      (fun z3 => k1 z3)
      (List.map (fun b : UInt8 => (b.toNat : Int)) y2) (((List.length (List.map (fun b : UInt8 => (b.toNat : Int)) y2)) : Nat) : Int) 0 x1 [])
    (False /- 39 -/)))
structure c11 (x1 : Int × Int × Int × Int × Int × Unit) (k1 : (List Int) → Prop) : Prop where
  of : tc11 x1 k1

def tl9r4 (k1 : Bool → Prop) (k2 : Prop) (s1 : List Int) (s2 : List Int) (s3 : Int) (s4 : Int) : Prop :=
  ∀ (I1 : (List Int) → (List Int) → Int → Int → Prop),
    (∀ (s1 : List Int) (s2 : List Int) (s3 : Int) (s4 : Int), (br (decide ((s4 : Int) < s3))
    (need False (at? s1 s4) fun y5 =>
     need False (at? s2 s4) fun y6 =>
      br ((y5 : Int) != y6)
       (k1 false)
       (I1 s1 s2 s3 (IntKind.wrap .i64 (s4 + 1))))
    (k2)) → I1 s1 s2 s3 s4) →
    I1 s1 s2 s3 s4
structure l9r4 (k1 : Bool → Prop) (k2 : Prop) (s1 : List Int) (s2 : List Int) (s3 : Int) (s4 : Int) : Prop where
  of : tl9r4 k1 k2 s1 s2 s3 s4

def tc9 (x1 : List Int) (x2 : List Int) (k1 : Bool → Prop) : Prop :=
  br (((((List.length x1) : Nat) : Int) : Int) != (((List.length x2) : Nat) : Int))
  (k1 false)
  (l9r4
   (fun z3 => k1 z3)
   (k1 true)
   x1 x2 (((List.length x1) : Nat) : Int) 0)
structure c9 (x1 : List Int) (x2 : List Int) (k1 : Bool → Prop) : Prop where
  of : tc9 x1 x2 k1

def tc13 (x1 : Int) (k1 : Bool → Prop) : Prop :=
  br (decide ((x1 : Int) > 0))
  (br (decide ((x1 : Int) < 16))
   (k1 true)
   (k1 ((x1 : Int) == 23)))
  (k1 ((x1 : Int) == 23))
structure c13 (x1 : Int) (k1 : Bool → Prop) : Prop where
  of : tc13 x1 k1

def tl14r4 (k1 : Int → Prop) (k2 : (Int × Int × Int × (List Int) × (List Int) × Unit) → Prop) (s1 : List Int) (s2 : Int) (s3 : Int × Int × Int × (List Int) × (List Int) × Unit) : Prop :=
  ∀ (I1 : (List Int) → Int → (Int × Int × Int × (List Int) × (List Int) × Unit) → Prop),
    (∀ (s1 : List Int) (s2 : Int) (s3 : Int × Int × Int × (List Int) × (List Int) × Unit), (br (decide ((s2 : Int) < 16))
    (need False (at? s1 s2) fun y4 =>
     br (decide ((y4 : Int) < 0))
      (k1 4)
      (I1 s1 (IntKind.wrap .i64 (s2 + 1)) s3))
    (k2 s3)) → I1 s1 s2 s3) →
    I1 s1 s2 s3
structure l14r4 (k1 : Int → Prop) (k2 : (Int × Int × Int × (List Int) × (List Int) × Unit) → Prop) (s1 : List Int) (s2 : Int) (s3 : Int × Int × Int × (List Int) × (List Int) × Unit) : Prop where
  of : tl14r4 k1 k2 s1 s2 s3

def tl14r10 (k1 : Int → Prop) (k2 : Prop) (s1 : List Int) (s2 : Int) (s3 : Int) (s4 : Int × Int × Int × (List Int) × (List Int) × Unit) : Prop :=
  ∀ (I1 : (List Int) → Int → Int → (Int × Int × Int × (List Int) × (List Int) × Unit) → Prop),
    (∀ (s1 : List Int) (s2 : Int) (s3 : Int) (s4 : Int × Int × Int × (List Int) × (List Int) × Unit), (br (decide ((s3 : Int) < s2))
    (need False (at? s1 s3) fun y5 =>
     br (decide ((y5 : Int) < s4.1))
      (k1 3)
      (br (decide ((s3 : Int) > 0))
       (need False (at? s4.2.2.2.2.1 (IntKind.wrap .i64 (s3 - 1))) fun y6 =>
        br (decide ((y5 : Int) ≤ y6))
         (k1 3)
         (I1 s1 s2 (IntKind.wrap .i64 (s3 + 1)) s4))
       (I1 s1 s2 (IntKind.wrap .i64 (s3 + 1)) s4)))
    (k2)) → I1 s1 s2 s3 s4) →
    I1 s1 s2 s3 s4
structure l14r10 (k1 : Int → Prop) (k2 : Prop) (s1 : List Int) (s2 : Int) (s3 : Int) (s4 : Int × Int × Int × (List Int) × (List Int) × Unit) : Prop where
  of : tl14r10 k1 k2 s1 s2 s3 s4

def tc14 (x1 : Int × Int × Int × (List Int) × (List Int) × Unit) (k1 : Int → Prop) : Prop :=
  br (decide ((x1.1 : Int) < 0))
  (k1 4)
  (br (decide ((x1.2.1 : Int) < 0))
   (k1 4)
   (br (decide ((x1.2.2.1 : Int) < 0))
    (k1 4)
    (br (decide (((((List.length x1.2.2.2.2.1) : Nat) : Int) : Int) > 16384))
     (k1 4)
     (l14r4
      (fun z2 => k1 z2)
      (fun z3 => l14r10
       (fun z4 => k1 z4)
       (k1 0)
       z3.2.2.2.2.1 (((List.length z3.2.2.2.2.1) : Nat) : Int) 0 z3)
      x1.2.2.2.1 0 x1))))
structure c14 (x1 : Int × Int × Int × (List Int) × (List Int) × Unit) (k1 : Int → Prop) : Prop where
  of : tc14 x1 k1

def tl16r4 (k1 : Int → Prop) (k2 : (Int × Int × Int × Int × Int × Unit) → Prop) (s1 : Int) (s2 : Int) (s3 : Int × Int × Int × Int × Int × Unit) (s4 : List Int) : Prop :=
  ∀ (I1 : Int → Int → (Int × Int × Int × Int × Int × Unit) → (List Int) → Prop),
    (∀ (s1 : Int) (s2 : Int) (s3 : Int × Int × Int × Int × Int × Unit) (s4 : List Int), (br (decide ((s2 : Int) < s1))
    (br (decide ((0 : Int) ≤ s2 ∧ (s2 : Int) < (((List.length s4) : Nat) : Int)))
     (need False (s4)[(Int.toNat s2)]? fun y5 =>
      br (decide ((y5 : Int) < 0))
       (k1 4)
       (br (decide ((y5 : Int) > 15))
        (k1 4)
        (I1 s1 (IntKind.wrap .i64 (s2 + 1)) s3 s4)))
     (False /- 39 -/))
    (k2 s3)) → I1 s1 s2 s3 s4) →
    I1 s1 s2 s3 s4
structure l16r4 (k1 : Int → Prop) (k2 : (Int × Int × Int × Int × Int × Unit) → Prop) (s1 : Int) (s2 : Int) (s3 : Int × Int × Int × Int × Int × Unit) (s4 : List Int) : Prop where
  of : tl16r4 k1 k2 s1 s2 s3 s4

def tl16r13 (k1 : Int → Prop) (k2 : (Int × Int × Int × Int × Int × Unit) → Prop) (s1 : List UInt8) (s2 : Int) (s3 : Int) (s4 : Int × Int × Int × Int × Int × Unit) (s5 : List Int) : Prop :=
  ∀ (I1 : (List UInt8) → Int → Int → (Int × Int × Int × Int × Int × Unit) → (List Int) → Prop),
    (∀ (s1 : List UInt8) (s2 : Int) (s3 : Int) (s4 : Int × Int × Int × Int × Int × Unit) (s5 : List Int), (br (decide ((s3 : Int) < s2))
    (br (decide ((0 : Int) ≤ s3 ∧ (s3 : Int) < (((List.length s5) : Nat) : Int)))
     (need False (s5)[(Int.toNat s3)]? fun y6 =>
      br ((y6 : Int) != 0)
       (need False (at? [(68 : UInt8), (65 : UInt8), (66 : UInt8), (78 : UInt8)] s3) fun y7 =>
        c22 s1 (UInt8.toNat y7 : Int)
         (fun z8 => br (!z8)
          (k1 3)
          (I1 s1 s2 (IntKind.wrap .i64 (s3 + 1)) s4 s5)))
       (I1 s1 s2 (IntKind.wrap .i64 (s3 + 1)) s4 s5))
     (False /- 39 -/))
    (k2 s4)) → I1 s1 s2 s3 s4 s5) →
    I1 s1 s2 s3 s4 s5
structure l16r13 (k1 : Int → Prop) (k2 : (Int × Int × Int × Int × Int × Unit) → Prop) (s1 : List UInt8) (s2 : Int) (s3 : Int) (s4 : Int × Int × Int × Int × Int × Unit) (s5 : List Int) : Prop where
  of : tl16r13 k1 k2 s1 s2 s3 s4 s5

def tc16 (x1 : Int × Int × Int × Int × Int × Unit) (k1 : Int → Prop) : Prop :=
  br (decide ((x1.1 : Int) < 0))
  (k1 1)
  (br (decide ((x1.1 : Int) > 24))
   (k1 1)
   (l16r4
    (fun z2 => k1 z2)
    (fun z3 => br (decide ((z3.2.2.2.2.1 : Int) < (-2147483648)))
     (k1 4)
     (br (decide ((z3.2.2.2.2.1 : Int) > 2147483647))
      (k1 4)
      (c23 
       (fun z4 => br (true && true)
        (br (eqT (.int .i64) z3.1 z3.1)
         (br (decide ((0 : Int) ≤ z3.1 ∧ (z3.1 : Int) < (((List.length z4) : Nat) : Int)))
          (need False (z4)[(Int.toNat z3.1)]? fun y5 =>
           l16r13
            (fun z6 => k1 z6)
            (fun z7 => br ((z7.1 : Int) == 9)
             (br (decide ((z7.2.2.2.2.1 : Int) < 0))
              (k1 4)
              (br (decide ((z7.2.2.2.2.1 : Int) > 31))
               (k1 4)
               (k1 0)))
             (br ((z7.1 : Int) == 10)
              (br (decide ((z7.2.2.2.2.1 : Int) < 0))
               (k1 4)
               (br (decide ((z7.2.2.2.2.1 : Int) > 31))
                (k1 4)
                (k1 0)))
              (br ((z7.1 : Int) == 14)
               (br (decide ((z7.2.2.2.2.1 : Int) < 0))
                (k1 4)
                (br (decide ((z7.2.2.2.2.1 : Int) > 4095))
                 (k1 4)
                 (k1 0)))
               (br ((z7.1 : Int) == 24)
                (br (decide ((z7.2.2.2.2.1 : Int) < 1))
                 (k1 4)
                 (br (decide ((z7.2.2.2.2.1 : Int) > 6))
                  (k1 4)
                  (k1 0)))
                (br (decide ((z7.2.2.2.2.1 : Int) < (-2147483648)))
                 (k1 4)
                 (br (decide ((z7.2.2.2.2.1 : Int) > 2147483647))
                  (k1 4)
                  (k1 0)))))))
            y5 ((4 : Nat) : Int) 0 z3 [z3.2.1, z3.2.2.1, z3.2.2.2.1, z3.2.2.2.2.1])
          (False /- 39 -/))
         (False /- 942 -/))
        (False /- 942 -/)))))
    ((3 : Nat) : Int) 0 x1 [x1.2.1, x1.2.2.1, x1.2.2.2.1]))
structure c16 (x1 : Int × Int × Int × Int × Int × Unit) (k1 : Int → Prop) : Prop where
  of : tc16 x1 k1

def tl17r18v2 (k1 : Int → Int → (Int × Int × Int × (List Int) × (List Int) × Unit) → (Int × Int × Int × Int × Int × Unit) → Int → Int → Int → (List Int) → (List Int) → (List Int) → Prop) (s1 : Int) (s2 : Int) (s3 : List Int) (s4 : Int) (s5 : Int) (s6 : Int × Int × Int × (List Int) × (List Int) × Unit) (s7 : Int × Int × Int × Int × Int × Unit) (s8 : Int) (s9 : Int) (s10 : Int) (s11 : List Int) (s12 : List Int) (s13 : List Int) : Prop :=
  ∀ (I1 : Int → Int → (List Int) → Int → Int → (Int × Int × Int × (List Int) × (List Int) × Unit) → (Int × Int × Int × Int × Int × Unit) → Int → Int → Int → (List Int) → (List Int) → (List Int) → Prop),
    (∀ (s1 : Int) (s2 : Int) (s3 : List Int) (s4 : Int) (s5 : Int) (s6 : Int × Int × Int × (List Int) × (List Int) × Unit) (s7 : Int × Int × Int × Int × Int × Unit) (s8 : Int) (s9 : Int) (s10 : Int) (s11 : List Int) (s12 : List Int) (s13 : List Int), (br (decide ((s5 : Int) < s4))
    (need False (at? s3 s5) fun y14 =>
     br (decide ((y14 : Int) ≥ s6.1))
      (br (roomB ((List.length s13) + 1) 8)
       (I1 s1 s2 s3 s4 (IntKind.wrap .i64 (s5 + 1)) s6 s7 s8 s9 s10 s11 s12 (s13 ++ [y14]))
       (False /- 61 -/))
      (I1 s1 s2 s3 s4 (IntKind.wrap .i64 (s5 + 1)) s6 s7 s8 s9 s10 s11 s12 s13))
    (k1 s1 s2 s6 s7 s8 s9 s10 s11 s12 s13)) → I1 s1 s2 s3 s4 s5 s6 s7 s8 s9 s10 s11 s12 s13) →
    I1 s1 s2 s3 s4 s5 s6 s7 s8 s9 s10 s11 s12 s13
structure l17r18v2 (k1 : Int → Int → (Int × Int × Int × (List Int) × (List Int) × Unit) → (Int × Int × Int × Int × Int × Unit) → Int → Int → Int → (List Int) → (List Int) → (List Int) → Prop) (s1 : Int) (s2 : Int) (s3 : List Int) (s4 : Int) (s5 : Int) (s6 : Int × Int × Int × (List Int) × (List Int) × Unit) (s7 : Int × Int × Int × Int × Int × Unit) (s8 : Int) (s9 : Int) (s10 : Int) (s11 : List Int) (s12 : List Int) (s13 : List Int) : Prop where
  of : tl17r18v2 k1 s1 s2 s3 s4 s5 s6 s7 s8 s9 s10 s11 s12 s13

def tc17v2 (x1 : Int × Int × Int × (List Int) × (List Int) × Unit) (x2 : Int × Int × Int × Int × Int × Unit) (x3 : Int) (k1 : Int → Int → Int → (List Int) → Int → Int → (List Int) → Prop) : Prop :=
  c15 x1
  (fun z4 => br ((z4 : Int) != 0)
   (k1 0 0 0 [0, 0, 0, 0, 0, 0, 0, 0, 0, 0, 0, 0, 0, 0, 0, 0] 0 z4 [])
   (c25 x2
    (fun z5 => br ((z5 : Int) != 0)
     (k1 0 0 0 [0, 0, 0, 0, 0, 0, 0, 0, 0, 0, 0, 0, 0, 0, 0, 0] 0 z5 [])
     (br (decide ((x3 : Int) < 0))
      (k1 0 0 0 [0, 0, 0, 0, 0, 0, 0, 0, 0, 0, 0, 0, 0, 0, 0, 0] 0 1 [])
      (br (decide ((x3 : Int) > 10000))
       (k1 0 0 0 [0, 0, 0, 0, 0, 0, 0, 0, 0, 0, 0, 0, 0, 0, 0, 0] 0 1 [])
       (c5 x2.1
        (fun z6 => c26 x1 x2 (IntKind.wrap .i64 (z6 + x3))
         (fun z7 => c27 x2.1
          (fun z8 => br (z8)
           (l17r18v2
            (fun z9 z10 z11 z12 z13 z14 z15 z16 z17 z18 => c7 z12
             (fun z19 => br ((z19 : Int) != 0)
              (br (decide ((0 : Int) ≤ z19 ∧ (z19 : Int) < 16))
               (need False (z11.2.2.2.1)[(Int.toNat z19)]? fun y20 =>
                br (decide ((z10 : Int) ≥ z11.1))
                 (c28 z18 z10
                  (fun z21 z22 => br (decide ((0 : Int) ≤ z21 ∧ (z21 : Int) ≤ (((List.length z18) : Nat) : Int)))
                   (br (roomB ((List.length z18) + 1) 8)
                    (k1 z11.1 z11.2.1 z11.2.2.1 (List.set z11.2.2.2.1 (Int.toNat z19) z10) z9 0 (((List.take (Int.toNat z21) z18) ++ [z10]) ++ (List.drop (Int.toNat z21) z18)))
                    (False /- 955 -/))
                   (False /- 956 -/)))
                 (k1 z11.1 z11.2.1 z11.2.2.1 (List.set z11.2.2.2.1 (Int.toNat z19) z10) z9 0 z18))
               (False /- 116 -/))
              (k1 z11.1 z11.2.1 z11.2.2.1 z11.2.2.2.1 z9 0 z18)))
            z7 (IntKind.wrap .i64 (z7 + (IntKind.wrap .i64 (z6 + x3)))) x1.2.2.2.2.1 (((List.length x1.2.2.2.2.1) : Nat) : Int) 0 ((IntKind.wrap .i64 ((IntKind.wrap .i64 (z7 + 1)) + x3)), (IntKind.wrap .i64 (z7 + (IntKind.wrap .i64 (z6 + x3)))), (maxI x1.2.2.1 (IntKind.wrap .i64 (z7 + (IntKind.wrap .i64 (z6 + x3))))), x1.2.2.2) x2 0 0 0 [0, 0, 0, 0, 0, 0, 0, 0, 0, 0, 0, 0, 0, 0, 0, 0] [] [])
           (l17r18v2
            (fun z23 z24 z25 z26 z27 z28 z29 z30 z31 z32 => c7 z26
             (fun z33 => br ((z33 : Int) != 0)
              (br (decide ((0 : Int) ≤ z33 ∧ (z33 : Int) < 16))
               (need False (z25.2.2.2.1)[(Int.toNat z33)]? fun y34 =>
                br (decide ((z24 : Int) ≥ z25.1))
                 (c28 z32 z24
                  (fun z35 z36 => br (decide ((0 : Int) ≤ z35 ∧ (z35 : Int) ≤ (((List.length z32) : Nat) : Int)))
                   (br (roomB ((List.length z32) + 1) 8)
                    (k1 z25.1 z25.2.1 z25.2.2.1 (List.set z25.2.2.2.1 (Int.toNat z33) z24) z23 0 (((List.take (Int.toNat z35) z32) ++ [z24]) ++ (List.drop (Int.toNat z35) z32)))
                    (False /- 955 -/))
                   (False /- 956 -/)))
                 (k1 z25.1 z25.2.1 z25.2.2.1 (List.set z25.2.2.2.1 (Int.toNat z33) z24) z23 0 z32))
               (False /- 116 -/))
              (k1 z25.1 z25.2.1 z25.2.2.1 z25.2.2.2.1 z23 0 z32)))
            z7 (IntKind.wrap .i64 (z7 + (IntKind.wrap .i64 (z6 + x3)))) x1.2.2.2.2.1 (((List.length x1.2.2.2.2.1) : Nat) : Int) 0 ((IntKind.wrap .i64 ((IntKind.wrap .i64 (z7 + 1)) + x3)), x1.2.1, (maxI x1.2.2.1 (IntKind.wrap .i64 (z7 + (IntKind.wrap .i64 (z6 + x3))))), x1.2.2.2) x2 0 0 0 [0, 0, 0, 0, 0, 0, 0, 0, 0, 0, 0, 0, 0, 0, 0, 0] [] []))))))))))
structure c17v2 (x1 : Int × Int × Int × (List Int) × (List Int) × Unit) (x2 : Int × Int × Int × Int × Int × Unit) (x3 : Int) (k1 : Int → Int → Int → (List Int) → Int → Int → (List Int) → Prop) : Prop where
  of : tc17v2 x1 x2 x3 k1

def tc18 (x1 : Int × Int × Int × (List Int) × (List Int) × Unit) (x2 : Int × Int × Int × (List Int) × (List Int) × Unit) (k1 : Bool → Prop) : Prop :=
  br ((x1.1 : Int) == x2.1)
  (br ((x1.2.1 : Int) == x2.2.1)
   (br ((x1.2.2.1 : Int) == x2.2.2.1)
    (br (eqT (.arr 16 (.int .i64)) x1.2.2.2.1 x2.2.2.2.1)
     (c9 x1.2.2.2.2.1 x2.2.2.2.2.1
      (fun z3 => k1 z3))
     (k1 false))
    (k1 false))
   (k1 false))
  (k1 false)
structure c18 (x1 : Int × Int × Int × (List Int) × (List Int) × Unit) (x2 : Int × Int × Int × (List Int) × (List Int) × Unit) (k1 : Bool → Prop) : Prop where
  of : tc18 x1 x2 k1

def tl3r16 (k1 : Bool → Prop) (k2 : Int → Int → Int → (Int × Int × Int × (List Int) × (List Int) × Unit) → (Int × Int × Int × Int × Int × Unit) → Int → Int → Int → (List Int) → (List Int) → Prop) (s1 : Int) (s2 : Int) (s3 : Int) (s4 : Int) (s5 : Int) (s6 : Int × Int × Int × (List Int) × (List Int) × Unit) (s7 : Int × Int × Int × Int × Int × Unit) (s8 : Int) (s9 : Int) (s10 : Int) (s11 : List Int) (s12 : List Int) (s13 : List Int) : Prop :=
  ∀ (I1 : Int → Int → Int → Int → Int → (Int × Int × Int × (List Int) × (List Int) × Unit) → (Int × Int × Int × Int × Int × Unit) → Int → Int → Int → (List Int) → (List Int) → (List Int) → Prop),
    (∀ (s1 : Int) (s2 : Int) (s3 : Int) (s4 : Int) (s5 : Int) (s6 : Int × Int × Int × (List Int) × (List Int) × Unit) (s7 : Int × Int × Int × Int × Int × Unit) (s8 : Int) (s9 : Int) (s10 : Int) (s11 : List Int) (s12 : List Int) (s13 : List Int), (br (decide ((s5 : Int) < s4))
    (br (decide ((0 : Int) ≤ s5 ∧ (s5 : Int) < (((List.length s13) : Nat) : Int)))
     (need False (s13)[(Int.toNat s5)]? fun y14 =>
      br (decide ((y14 : Int) > 1099511627776))
       (k1 true)
       (I1 s1 s2 s3 s4 (IntKind.wrap .i64 (s5 + 1)) s6 s7 s8 s9 s10 s11 s12 s13))
     (False /- 39 -/))
    (k2 s1 s2 s3 s6 s7 s8 s9 s10 s11 s12)) → I1 s1 s2 s3 s4 s5 s6 s7 s8 s9 s10 s11 s12 s13) →
    I1 s1 s2 s3 s4 s5 s6 s7 s8 s9 s10 s11 s12 s13
structure l3r16 (k1 : Bool → Prop) (k2 : Int → Int → Int → (Int × Int × Int × (List Int) × (List Int) × Unit) → (Int × Int × Int × Int × Int × Unit) → Int → Int → Int → (List Int) → (List Int) → Prop) (s1 : Int) (s2 : Int) (s3 : Int) (s4 : Int) (s5 : Int) (s6 : Int × Int × Int × (List Int) × (List Int) × Unit) (s7 : Int × Int × Int × Int × Int × Unit) (s8 : Int) (s9 : Int) (s10 : Int) (s11 : List Int) (s12 : List Int) (s13 : List Int) : Prop where
  of : tl3r16 k1 k2 s1 s2 s3 s4 s5 s6 s7 s8 s9 s10 s11 s12 s13

def tl19r4 (k1 : Int → Int → Int → (Int × Int × Int × (List Int) × (List Int) × Unit) → (Int × Int × Int × Int × Int × Unit) → Int → Int → Int → (List Int) → (List Int) → Prop) (s1 : Int) (s2 : Int) (s3 : Int) (s4 : Int) (s5 : Int) (s6 : Int × Int × Int × (List Int) × (List Int) × Unit) (s7 : Int × Int × Int × Int × Int × Unit) (s8 : Int) (s9 : Int) (s10 : Int) (s11 : List Int) (s12 : List Int) (s13 : List Int) : Prop :=
  ∀ (I1 : Int → Int → Int → Int → Int → (Int × Int × Int × (List Int) × (List Int) × Unit) → (Int × Int × Int × Int × Int × Unit) → Int → Int → Int → (List Int) → (List Int) → (List Int) → Prop),
    (∀ (s1 : Int) (s2 : Int) (s3 : Int) (s4 : Int) (s5 : Int) (s6 : Int × Int × Int × (List Int) × (List Int) × Unit) (s7 : Int × Int × Int × Int × Int × Unit) (s8 : Int) (s9 : Int) (s10 : Int) (s11 : List Int) (s12 : List Int) (s13 : List Int), (br (decide ((s5 : Int) < s4))
    (br (decide ((0 : Int) ≤ s5 ∧ (s5 : Int) < (((List.length s13) : Nat) : Int)))
     (need False (s13)[(Int.toNat s5)]? fun y14 =>
      br (decide ((0 : Int) ≤ y14 ∧ (y14 : Int) < 16))
       (need False (s6.2.2.2.1)[(Int.toNat y14)]? fun y15 =>
        I1 s1 s2 (maxI s3 y15) s4 (IntKind.wrap .i64 (s5 + 1)) s6 s7 s8 s9 s10 s11 s12 s13)
       (False /- 116 -/))
     (False /- 39 -/))
    (k1 s1 s2 s3 s6 s7 s8 s9 s10 s11 s12)) → I1 s1 s2 s3 s4 s5 s6 s7 s8 s9 s10 s11 s12 s13) →
    I1 s1 s2 s3 s4 s5 s6 s7 s8 s9 s10 s11 s12 s13
structure l19r4 (k1 : Int → Int → Int → (Int × Int × Int × (List Int) × (List Int) × Unit) → (Int × Int × Int × Int × Int × Unit) → Int → Int → Int → (List Int) → (List Int) → Prop) (s1 : Int) (s2 : Int) (s3 : Int) (s4 : Int) (s5 : Int) (s6 : Int × Int × Int × (List Int) × (List Int) × Unit) (s7 : Int × Int × Int × Int × Int × Unit) (s8 : Int) (s9 : Int) (s10 : Int) (s11 : List Int) (s12 : List Int) (s13 : List Int) : Prop where
  of : tl19r4 k1 s1 s2 s3 s4 s5 s6 s7 s8 s9 s10 s11 s12 s13

def tl30r4 (k1 : Bool → Prop) (k2 : Int → Int → (Int × Int × Int × (List Int) × (List Int) × Unit) → (Int × Int × Int × Int × Int × Unit) → Prop) (s1 : Int) (s2 : Int) (s3 : Int) (s4 : Int) (s5 : Int × Int × Int × (List Int) × (List Int) × Unit) (s6 : Int × Int × Int × Int × Int × Unit) (s7 : List Int) : Prop :=
  ∀ (I1 : Int → Int → Int → Int → (Int × Int × Int × (List Int) × (List Int) × Unit) → (Int × Int × Int × Int × Int × Unit) → (List Int) → Prop),
    (∀ (s1 : Int) (s2 : Int) (s3 : Int) (s4 : Int) (s5 : Int × Int × Int × (List Int) × (List Int) × Unit) (s6 : Int × Int × Int × Int × Int × Unit) (s7 : List Int), (br (decide ((s4 : Int) < s3))
    (br (decide ((0 : Int) ≤ s4 ∧ (s4 : Int) < (((List.length s7) : Nat) : Int)))
     (need False (s7)[(Int.toNat s4)]? fun y8 =>
      br (decide ((0 : Int) ≤ y8 ∧ (y8 : Int) < 16))
       (need False (s5.2.2.2.1)[(Int.toNat y8)]? fun y9 =>
        br (decide ((s1 : Int) < y9))
         (k1 false)
         (I1 s1 s2 s3 (IntKind.wrap .i64 (s4 + 1)) s5 s6 s7))
       (False /- 116 -/))
     (False /- 39 -/))
    (k2 s1 s2 s5 s6)) → I1 s1 s2 s3 s4 s5 s6 s7) →
    I1 s1 s2 s3 s4 s5 s6 s7
structure l30r4 (k1 : Bool → Prop) (k2 : Int → Int → (Int × Int × Int × (List Int) × (List Int) × Unit) → (Int × Int × Int × Int × Int × Unit) → Prop) (s1 : Int) (s2 : Int) (s3 : Int) (s4 : Int) (s5 : Int × Int × Int × (List Int) × (List Int) × Unit) (s6 : Int × Int × Int × Int × Int × Unit) (s7 : List Int) : Prop where
  of : tl30r4 k1 k2 s1 s2 s3 s4 s5 s6 s7

def tl30r15 (k1 : Bool → Prop) (k2 : Int → Int → Int → (Int × Int × Int × (List Int) × (List Int) × Unit) → Prop) (s1 : Int) (s2 : Int) (s3 : Int) (s4 : List Int) (s5 : Int) (s6 : Int) (s7 : Int × Int × Int × (List Int) × (List Int) × Unit) : Prop :=
  ∀ (I1 : Int → Int → Int → (List Int) → Int → Int → (Int × Int × Int × (List Int) × (List Int) × Unit) → Prop),
    (∀ (s1 : Int) (s2 : Int) (s3 : Int) (s4 : List Int) (s5 : Int) (s6 : Int) (s7 : Int × Int × Int × (List Int) × (List Int) × Unit), (br (decide ((s6 : Int) < s5))
    (need False (at? s4 s6) fun y8 =>
     br ((y8 : Int) == (IntKind.wrap .i64 (s1 + s2)))
      (k1 false)
      (I1 s1 s2 s3 s4 s5 (IntKind.wrap .i64 (s6 + 1)) s7))
    (k2 s1 s2 s3 s7)) → I1 s1 s2 s3 s4 s5 s6 s7) →
    I1 s1 s2 s3 s4 s5 s6 s7
structure l30r15 (k1 : Bool → Prop) (k2 : Int → Int → Int → (Int × Int × Int × (List Int) × (List Int) × Unit) → Prop) (s1 : Int) (s2 : Int) (s3 : Int) (s4 : List Int) (s5 : Int) (s6 : Int) (s7 : Int × Int × Int × (List Int) × (List Int) × Unit) : Prop where
  of : tl30r15 k1 k2 s1 s2 s3 s4 s5 s6 s7

def tc30 (x1 : Int × Int × Int × (List Int) × (List Int) × Unit) (x2 : Int × Int × Int × Int × Int × Unit) (x3 : Int) (x4 : Int) (k1 : Bool → Prop) : Prop :=
  br (decide ((x3 : Int) < x1.1))
  (k1 false)
  (c11 x2
   (fun z5 => l30r4
    (fun z6 => k1 z6)
    (fun z7 z8 z9 z10 => br ((z10.1 : Int) == 4)
     (br (decide ((z7 : Int) < z9.2.1))
      (k1 false)
      (c8 z10
       (fun z11 => br ((z11 : Int) == 0)
        (k1 true)
        (l30r15
         (fun z12 => k1 z12)
         (fun z13 z14 z15 z16 => br (decide ((0 : Int) ≤ z15 ∧ (z15 : Int) < 16))
          (need False (z16.2.2.2.1)[(Int.toNat z15)]? fun y17 =>
           k1 (decide (((IntKind.wrap .i64 (z13 + z14)) : Int) > y17)))
          (False /- 116 -/))
         z7 z8 z11 z9.2.2.2.2.1 (((List.length z9.2.2.2.2.1) : Nat) : Int) 0 z9))))
     (br ((z10.1 : Int) == 5)
      (br (decide ((z7 : Int) < z9.2.1))
       (k1 false)
       (c8 z10
        (fun z18 => br ((z18 : Int) == 0)
         (k1 true)
         (l30r15
          (fun z19 => k1 z19)
          (fun z20 z21 z22 z23 => br (decide ((0 : Int) ≤ z22 ∧ (z22 : Int) < 16))
           (need False (z23.2.2.2.1)[(Int.toNat z22)]? fun y24 =>
            k1 (decide (((IntKind.wrap .i64 (z20 + z21)) : Int) > y24)))
           (False /- 116 -/))
          z7 z8 z18 z9.2.2.2.2.1 (((List.length z9.2.2.2.2.1) : Nat) : Int) 0 z9))))
      (c8 z10
       (fun z25 => br ((z25 : Int) == 0)
        (k1 true)
        (l30r15
         (fun z26 => k1 z26)
         (fun z27 z28 z29 z30 => br (decide ((0 : Int) ≤ z29 ∧ (z29 : Int) < 16))
          (need False (z30.2.2.2.1)[(Int.toNat z29)]? fun y31 =>
           k1 (decide (((IntKind.wrap .i64 (z27 + z28)) : Int) > y31)))
          (False /- 116 -/))
         z7 z8 z25 z9.2.2.2.2.1 (((List.length z9.2.2.2.2.1) : Nat) : Int) 0 z9)))))
    x3 x4 (((List.length z5) : Nat) : Int) 0 x1 x2 z5))
structure c30 (x1 : Int × Int × Int × (List Int) × (List Int) × Unit) (x2 : Int × Int × Int × Int × Int × Unit) (x3 : Int) (x4 : Int) (k1 : Bool → Prop) : Prop where
  of : tc30 x1 x2 x3 x4 k1

def tl19r13 (k1 : Int → Int → Int → (Int × Int × Int × (List Int) × (List Int) × Unit) → (Int × Int × Int × Int × Int × Unit) → Int → Int → Int → (List Int) → (List Int) → Prop) (s1 : Int) (s2 : Int) (s3 : Int) (s4 : Int × Int × Int × (List Int) × (List Int) × Unit) (s5 : Int × Int × Int × Int × Int × Unit) (s6 : Int) (s7 : Int) (s8 : Int) (s9 : List Int) (s10 : List Int) : Prop :=
  ∀ (I1 : Int → Int → Int → (Int × Int × Int × (List Int) × (List Int) × Unit) → (Int × Int × Int × Int × Int × Unit) → Int → Int → Int → (List Int) → (List Int) → Prop),
    (∀ (s1 : Int) (s2 : Int) (s3 : Int) (s4 : Int × Int × Int × (List Int) × (List Int) × Unit) (s5 : Int × Int × Int × Int × Int × Unit) (s6 : Int) (s7 : Int) (s8 : Int) (s9 : List Int) (s10 : List Int), (c30 s4 s5 s3 s2
    (fun z11 => br (!z11)
     (I1 s1 s2 (IntKind.wrap .i64 (s3 + 1)) s4 s5 s6 s7 s8 s9 s10)
     (k1 s1 s2 s3 s4 s5 s6 s7 s8 s9 s10))) → I1 s1 s2 s3 s4 s5 s6 s7 s8 s9 s10) →
    I1 s1 s2 s3 s4 s5 s6 s7 s8 s9 s10
structure l19r13 (k1 : Int → Int → Int → (Int × Int × Int × (List Int) × (List Int) × Unit) → (Int × Int × Int × Int × Int × Unit) → Int → Int → Int → (List Int) → (List Int) → Prop) (s1 : Int) (s2 : Int) (s3 : Int) (s4 : Int × Int × Int × (List Int) × (List Int) × Unit) (s5 : Int × Int × Int × Int × Int × Unit) (s6 : Int) (s7 : Int) (s8 : Int) (s9 : List Int) (s10 : List Int) : Prop where
  of : tl19r13 k1 s1 s2 s3 s4 s5 s6 s7 s8 s9 s10

def tl19r25 (k1 : Int → Int → Int → Int → Int → Int → (List Int) → (List Int) → Int → Int → Int → (List Int) → (List Int) → (List Int) → Prop) (s1 : Int) (s2 : Int) (s3 : Int) (s4 : Int) (s5 : Int) (s6 : Int) (s7 : List Int) (s8 : List Int) (s9 : Int) (s10 : Int) (s11 : Int) (s12 : List Int) (s13 : List Int) (s14 : List Int) : Prop :=
  ∀ (I1 : Int → Int → Int → Int → Int → Int → (List Int) → (List Int) → Int → Int → Int → (List Int) → (List Int) → (List Int) → Prop),
    (∀ (s1 : Int) (s2 : Int) (s3 : Int) (s4 : Int) (s5 : Int) (s6 : Int) (s7 : List Int) (s8 : List Int) (s9 : Int) (s10 : Int) (s11 : Int) (s12 : List Int) (s13 : List Int) (s14 : List Int), (br (decide ((s3 : Int) > 0))
    (br (decide ((0 : Int) ≤ (IntKind.wrap .i64 (s3 - 1)) ∧ ((IntKind.wrap .i64 (s3 - 1)) : Int) < (((List.length s14) : Nat) : Int)))
     (need False (s14)[(Int.toNat (IntKind.wrap .i64 (s3 - 1)))]? fun y15 =>
      br (decide ((y15 : Int) > (IntKind.wrap .i64 (s2 + s1))))
       (I1 s1 s2 (IntKind.wrap .i64 (s3 - 1)) s4 s5 s6 s7 s8 s9 s10 s11 s12 s13 s14)
       (k1 s1 s2 s3 s4 s5 s6 s7 s8 s9 s10 s11 s12 s13 s14))
     (False /- 39 -/))
    (k1 s1 s2 s3 s4 s5 s6 s7 s8 s9 s10 s11 s12 s13 s14)) → I1 s1 s2 s3 s4 s5 s6 s7 s8 s9 s10 s11 s12 s13 s14) →
    I1 s1 s2 s3 s4 s5 s6 s7 s8 s9 s10 s11 s12 s13 s14
structure l19r25 (k1 : Int → Int → Int → Int → Int → Int → (List Int) → (List Int) → Int → Int → Int → (List Int) → (List Int) → (List Int) → Prop) (s1 : Int) (s2 : Int) (s3 : Int) (s4 : Int) (s5 : Int) (s6 : Int) (s7 : List Int) (s8 : List Int) (s9 : Int) (s10 : Int) (s11 : Int) (s12 : List Int) (s13 : List Int) (s14 : List Int) : Prop where
  of : tl19r25 k1 s1 s2 s3 s4 s5 s6 s7 s8 s9 s10 s11 s12 s13 s14

def tl19r29 (k1 : Int → Int → Int → Int → (List Int) → (List Int) → Int → Int → Int → (List Int) → (List Int) → Prop) (s1 : Int) (s2 : Nat) (s3 : Nat) (s4 : Nat) (s5 : Int) (s6 : Int) (s7 : Int) (s8 : Int) (s9 : Int) (s10 : List Int) (s11 : List Int) (s12 : Int) (s13 : Int) (s14 : Int) (s15 : List Int) (s16 : List Int) (s17 : List Int) : Prop :=
  ∀ (I1 : Int → Nat → Nat → Nat → Int → Int → Int → Int → Int → (List Int) → (List Int) → Int → Int → Int → (List Int) → (List Int) → (List Int) → Prop),
    (∀ (s1 : Int) (s2 : Nat) (s3 : Nat) (s4 : Nat) (s5 : Int) (s6 : Int) (s7 : Int) (s8 : Int) (s9 : Int) (s10 : List Int) (s11 : List Int) (s12 : Int) (s13 : Int) (s14 : Int) (s15 : List Int) (s16 : List Int) (s17 : List Int), (br (decide ((s6 : Int) < s5))
    (br (decide ((0 : Int) ≤ s6 ∧ (s6 : Int) < ((s3 : Nat) : Int)))
     (need False (s17)[(s2 + (Int.toNat s6))]? fun y18 =>
      br (decide ((y18 : Int) ≥ s12))
       (br (roomB ((List.length s16) + 1) 8)
        (I1 s1 s2 s3 s4 s5 (IntKind.wrap .i64 (s6 + 1)) s7 s8 s9 s10 s11 s12 s13 s14 s15 (s16 ++ [y18]) s17)
        (False /- 61 -/))
       (I1 s1 s2 s3 s4 s5 (IntKind.wrap .i64 (s6 + 1)) s7 s8 s9 s10 s11 s12 s13 s14 s15 s16 s17))
     (False /- 41 -/))
    (k1 s1 s7 s8 s9 s10 s11 s12 s13 s14 s15 s16)) → I1 s1 s2 s3 s4 s5 s6 s7 s8 s9 s10 s11 s12 s13 s14 s15 s16 s17) →
    I1 s1 s2 s3 s4 s5 s6 s7 s8 s9 s10 s11 s12 s13 s14 s15 s16 s17
structure l19r29 (k1 : Int → Int → Int → Int → (List Int) → (List Int) → Int → Int → Int → (List Int) → (List Int) → Prop) (s1 : Int) (s2 : Nat) (s3 : Nat) (s4 : Nat) (s5 : Int) (s6 : Int) (s7 : Int) (s8 : Int) (s9 : Int) (s10 : List Int) (s11 : List Int) (s12 : Int) (s13 : Int) (s14 : Int) (s15 : List Int) (s16 : List Int) (s17 : List Int) : Prop where
  of : tl19r29 k1 s1 s2 s3 s4 s5 s6 s7 s8 s9 s10 s11 s12 s13 s14 s15 s16 s17

def tl19r29v2 (k1 : Int → Int → Int → Int → (List Int) → (List Int) → Int → Int → Int → (List Int) → (List Int) → Prop) (s1 : Int) (s2 : Int) (s3 : Int) (s4 : Int) (s5 : Int) (s6 : Int) (s7 : List Int) (s8 : List Int) (s9 : Int) (s10 : Int) (s11 : Int) (s12 : List Int) (s13 : List Int) (s14 : List Int) : Prop :=
  ∀ (I1 : Int → Int → Int → Int → Int → Int → (List Int) → (List Int) → Int → Int → Int → (List Int) → (List Int) → (List Int) → Prop),
    (∀ (s1 : Int) (s2 : Int) (s3 : Int) (s4 : Int) (s5 : Int) (s6 : Int) (s7 : List Int) (s8 : List Int) (s9 : Int) (s10 : Int) (s11 : Int) (s12 : List Int) (s13 : List Int) (s14 : List Int), (br (decide ((s3 : Int) < s2))
    (br (decide ((0 : Int) ≤ s3 ∧ (s3 : Int) < (((List.length s14) : Nat) : Int)))
     (need False (s14)[(Int.toNat s3)]? fun y15 =>
      br (decide ((y15 : Int) ≥ s9))
       (br (roomB ((List.length s13) + 1) 8)
        (I1 s1 s2 (IntKind.wrap .i64 (s3 + 1)) s4 s5 s6 s7 s8 s9 s10 s11 s12 (s13 ++ [y15]) s14)
        (False /- 61 -/))
       (I1 s1 s2 (IntKind.wrap .i64 (s3 + 1)) s4 s5 s6 s7 s8 s9 s10 s11 s12 s13 s14))
     (False /- 39 -/))
    (k1 s1 s4 s5 s6 s7 s8 s9 s10 s11 s12 s13)) → I1 s1 s2 s3 s4 s5 s6 s7 s8 s9 s10 s11 s12 s13 s14) →
    I1 s1 s2 s3 s4 s5 s6 s7 s8 s9 s10 s11 s12 s13 s14
structure l19r29v2 (k1 : Int → Int → Int → Int → (List Int) → (List Int) → Int → Int → Int → (List Int) → (List Int) → Prop) (s1 : Int) (s2 : Int) (s3 : Int) (s4 : Int) (s5 : Int) (s6 : Int) (s7 : List Int) (s8 : List Int) (s9 : Int) (s10 : Int) (s11 : Int) (s12 : List Int) (s13 : List Int) (s14 : List Int) : Prop where
  of : tl19r29v2 k1 s1 s2 s3 s4 s5 s6 s7 s8 s9 s10 s11 s12 s13 s14

def tj19r20 (k1 : Int → Int → Int → Int → (List Int) → (List Int) → Prop) (s1 : Int) (s2 : Int) (s3 : Int × Int × Int × (List Int) × (List Int) × Unit) (s4 : Int × Int × Int × Int × Int × Unit) (s5 : Int) (s6 : Int) (s7 : Int) (s8 : List Int) (s9 : List Int) (s10 : Int) (s11 : Int) (s12 : Int) (s13 : List Int) (s14 : List Int) : Prop :=
  br (List.isEmpty s3.2.2.2.2.1)
  (c8 s4
   (fun z15 => br ((z15 : Int) != 0)
    (br (decide ((0 : Int) ≤ z15 ∧ (z15 : Int) < 16))
     (need False (s13)[(Int.toNat z15)]? fun y16 =>
      l19r25
       (fun z17 z18 z19 z20 z21 z22 z23 z24 z25 z26 z27 z28 z29 z30 => br (decide ((0 : Int) ≤ 0 ∧ (0 : Int) ≤ z19 ∧ (z19 : Int) ≤ z19 ∧ (z19 : Int) ≤ (((List.length z30) : Nat) : Int)))
        (br (decide ((0 : Int) ≤ z19 ∧ (z19 : Int) ≤ (((List.length z30) : Nat) : Int) ∧ ((((List.length z30) : Nat) : Int) : Int) ≤ (((List.length z30) : Nat) : Int) ∧ ((((List.length z30) : Nat) : Int) : Int) ≤ (((List.length z30) : Nat) : Int)))
         (br (eqT (.int .i64) z19 z19)
          (br (eqT (.int .i64) z19 z19)
           (br (decide ((0 : Int) ≤ 0 ∧ (0 : Int) ≤ z19 ∧ (z19 : Int) ≤ z19 ∧ (z19 : Int) ≤ (((List.length z30) : Nat) : Int)))
            (br (true && ((decide ((Int.toNat (z19 - 0)) = (Int.toNat (z19 - 0)))) && (decide ((Int.toNat (z19 - 0)) = (Int.toNat (z19 - 0))))))
             (br (eqT (.int .i64) z19 z19)
              (br (decide ((0 : Int) ≤ z19 ∧ (z19 : Int) ≤ (((List.length z30) : Nat) : Int) ∧ ((((List.length z30) : Nat) : Int) : Int) ≤ (((List.length z30) : Nat) : Int) ∧ ((((List.length z30) : Nat) : Int) : Int) ≤ (((List.length z30) : Nat) : Int)))
               (br ((decide ((Int.toNat z19) = (Int.toNat z19))) && ((decide ((Int.toNat ((((List.length z30) : Nat) : Int) - z19)) = (Int.toNat ((((List.length z30) : Nat) : Int) - z19)))) && (decide ((Int.toNat ((((List.length z30) : Nat) : Int) - z19)) = (Int.toNat ((((List.length z30) : Nat) : Int) - z19))))))
                (br (List.isEmpty (List.take (Int.toNat ((((List.length z30) : Nat) : Int) - z19)) (List.drop (Int.toNat z19) z30)))
                 (br (eqT (.int .i64) z19 z19)
                  (br (eqT (.int .i64) z19 z19)
                   (br (decide ((0 : Int) ≤ 0 ∧ (0 : Int) ≤ z19 ∧ (z19 : Int) ≤ z19 ∧ (z19 : Int) ≤ (((List.length z30) : Nat) : Int)))
                    (br (true && ((decide ((Int.toNat (z19 - 0)) = (Int.toNat (z19 - 0)))) && (decide ((Int.toNat (z19 - 0)) = (Int.toNat (z19 - 0))))))
                     (br (decide (((Int.toNat (z19 - 0)) + 1) ≤ (Int.toNat (z19 - 0))))
                      (l19r29
                       (fun z31 z32 z33 z34 z35 z36 z37 z38 z39 z40 z41 => k1 z31 z37 z38 z39 z40 z41)
                       z18 0 ((Int.toNat (z19 - 0)) + 1) (Int.toNat (z19 - 0)) ((((Int.toNat (z19 - 0)) + 1) : Nat) : Int) 0 z20 z21 z22 z23 z24 z25 z26 z27 z28 z29 (((List.take (0 + (Int.toNat (z19 - 0))) z30) ++ [(IntKind.wrap .i64 (z18 + z17))]) ++ (List.drop ((0 + (Int.toNat (z19 - 0))) + 1) z30)))
                      (br (roomB ((Int.toNat (z19 - 0)) + 1) 8)
                       (l19r29v2
                        (fun z42 z43 z44 z45 z46 z47 z48 z49 z50 z51 z52 => k1 z42 z48 z49 z50 z51 z52)
                        z18 (((List.length ((List.take (Int.toNat (z19 - 0)) (List.drop 0 z30)) ++ [(IntKind.wrap .i64 (z18 + z17))])) : Nat) : Int) 0 z20 z21 z22 z23 z24 z25 z26 z27 z28 z29 ((List.take (Int.toNat (z19 - 0)) (List.drop 0 z30)) ++ [(IntKind.wrap .i64 (z18 + z17))]))
                       (False /- 65 -/)))
                     (False /- 942 -/))
                    (False /- 82 -/))
                   (False /- 942 -/))
                  (False /- 942 -/))
                 (br (roomB (1 + (List.length (List.take (Int.toNat ((((List.length z30) : Nat) : Int) - z19)) (List.drop (Int.toNat z19) z30)))) 8)
                  (br (eqT (.int .i64) z19 z19)
                   (br (eqT (.int .i64) z19 z19)
                    (br (decide ((0 : Int) ≤ 0 ∧ (0 : Int) ≤ z19 ∧ (z19 : Int) ≤ z19 ∧ (z19 : Int) ≤ (((List.length z30) : Nat) : Int)))
                     (br (true && ((decide ((Int.toNat (z19 - 0)) = (Int.toNat (z19 - 0)))) && (decide ((Int.toNat (z19 - 0)) = (Int.toNat (z19 - 0))))))
                      (br (decide (((Int.toNat (z19 - 0)) + (List.length ([(IntKind.wrap .i64 (z18 + z17))] ++ (List.take (Int.toNat ((((List.length z30) : Nat) : Int) - z19)) (List.drop (Int.toNat z19) z30))))) ≤ (Int.toNat (z19 - 0))))
                       (l19r29
                        (fun z53 z54 z55 z56 z57 z58 z59 z60 z61 z62 z63 => k1 z53 z59 z60 z61 z62 z63)
                        z18 0 ((Int.toNat (z19 - 0)) + (List.length ([(IntKind.wrap .i64 (z18 + z17))] ++ (List.take (Int.toNat ((((List.length z30) : Nat) : Int) - z19)) (List.drop (Int.toNat z19) z30))))) (Int.toNat (z19 - 0)) ((((Int.toNat (z19 - 0)) + (List.length ([(IntKind.wrap .i64 (z18 + z17))] ++ (List.take (Int.toNat ((((List.length z30) : Nat) : Int) - z19)) (List.drop (Int.toNat z19) z30))))) : Nat) : Int) 0 z20 z21 z22 z23 z24 z25 z26 z27 z28 z29 (((List.take (0 + (Int.toNat (z19 - 0))) z30) ++ ([(IntKind.wrap .i64 (z18 + z17))] ++ (List.take (Int.toNat ((((List.length z30) : Nat) : Int) - z19)) (List.drop (Int.toNat z19) z30)))) ++ (List.drop ((0 + (Int.toNat (z19 - 0))) + (List.length ([(IntKind.wrap .i64 (z18 + z17))] ++ (List.take (Int.toNat ((((List.length z30) : Nat) : Int) - z19)) (List.drop (Int.toNat z19) z30))))) z30)))
                       (br (roomB ((Int.toNat (z19 - 0)) + (List.length ([(IntKind.wrap .i64 (z18 + z17))] ++ (List.take (Int.toNat ((((List.length z30) : Nat) : Int) - z19)) (List.drop (Int.toNat z19) z30))))) 8)
                        (l19r29v2
                         (fun z64 z65 z66 z67 z68 z69 z70 z71 z72 z73 z74 => k1 z64 z70 z71 z72 z73 z74)
                         z18 (((List.length ((List.take (Int.toNat (z19 - 0)) (List.drop 0 z30)) ++ ([(IntKind.wrap .i64 (z18 + z17))] ++ (List.take (Int.toNat ((((List.length z30) : Nat) : Int) - z19)) (List.drop (Int.toNat z19) z30))))) : Nat) : Int) 0 z20 z21 z22 z23 z24 z25 z26 z27 z28 z29 ((List.take (Int.toNat (z19 - 0)) (List.drop 0 z30)) ++ ([(IntKind.wrap .i64 (z18 + z17))] ++ (List.take (Int.toNat ((((List.length z30) : Nat) : Int) - z19)) (List.drop (Int.toNat z19) z30)))))
                        (False /- 65 -/)))
                      (False /- 942 -/))
                     (False /- 82 -/))
                    (False /- 942 -/))
                   (False /- 942 -/))
                  (False /- 61 -/)))
                (False /- 942 -/))
               (False /- 82 -/))
              (False /- 942 -/))
             (False /- 942 -/))
            (False /- 82 -/))
           (False /- 942 -/))
          (False /- 942 -/))
         (False /- 82 -/))
        (False /- 82 -/))
       s1 s2 0 s5 s6 s7 s8 s9 s10 s11 s12 (List.set s13 (Int.toNat z15) (IntKind.wrap .i64 (s2 + s1))) s14 [])
     (False /- 116 -/))
    (l19r29v2
     (fun z75 z76 z77 z78 z79 z80 z81 z82 z83 z84 z85 => k1 z75 z81 z82 z83 z84 z85)
     s2 0 0 s5 s6 s7 s8 s9 s10 s11 s12 s13 s14 [])))
  (br (roomB (List.length s3.2.2.2.2.1) 8)
   (c8 s4
    (fun z86 => br ((z86 : Int) != 0)
     (br (decide ((0 : Int) ≤ z86 ∧ (z86 : Int) < 16))
      (need False (s13)[(Int.toNat z86)]? fun y87 =>
       l19r25
        (fun z88 z89 z90 z91 z92 z93 z94 z95 z96 z97 z98 z99 z100 z101 => br (decide ((0 : Int) ≤ 0 ∧ (0 : Int) ≤ z90 ∧ (z90 : Int) ≤ z90 ∧ (z90 : Int) ≤ (((List.length z101) : Nat) : Int)))
         (br (decide ((0 : Int) ≤ z90 ∧ (z90 : Int) ≤ (((List.length z101) : Nat) : Int) ∧ ((((List.length z101) : Nat) : Int) : Int) ≤ (((List.length z101) : Nat) : Int) ∧ ((((List.length z101) : Nat) : Int) : Int) ≤ (((List.length z101) : Nat) : Int)))
          (br (eqT (.int .i64) z90 z90)
           (br (eqT (.int .i64) z90 z90)
            (br (decide ((0 : Int) ≤ 0 ∧ (0 : Int) ≤ z90 ∧ (z90 : Int) ≤ z90 ∧ (z90 : Int) ≤ (((List.length z101) : Nat) : Int)))
             (br (true && ((decide ((Int.toNat (z90 - 0)) = (Int.toNat (z90 - 0)))) && (decide ((Int.toNat (z90 - 0)) = (Int.toNat (z90 - 0))))))
              (br (eqT (.int .i64) z90 z90)
               (br (decide ((0 : Int) ≤ z90 ∧ (z90 : Int) ≤ (((List.length z101) : Nat) : Int) ∧ ((((List.length z101) : Nat) : Int) : Int) ≤ (((List.length z101) : Nat) : Int) ∧ ((((List.length z101) : Nat) : Int) : Int) ≤ (((List.length z101) : Nat) : Int)))
                (br ((decide ((Int.toNat z90) = (Int.toNat z90))) && ((decide ((Int.toNat ((((List.length z101) : Nat) : Int) - z90)) = (Int.toNat ((((List.length z101) : Nat) : Int) - z90)))) && (decide ((Int.toNat ((((List.length z101) : Nat) : Int) - z90)) = (Int.toNat ((((List.length z101) : Nat) : Int) - z90))))))
                 (br (List.isEmpty (List.take (Int.toNat ((((List.length z101) : Nat) : Int) - z90)) (List.drop (Int.toNat z90) z101)))
                  (br (eqT (.int .i64) z90 z90)
                   (br (eqT (.int .i64) z90 z90)
                    (br (decide ((0 : Int) ≤ 0 ∧ (0 : Int) ≤ z90 ∧ (z90 : Int) ≤ z90 ∧ (z90 : Int) ≤ (((List.length z101) : Nat) : Int)))
                     (br (true && ((decide ((Int.toNat (z90 - 0)) = (Int.toNat (z90 - 0)))) && (decide ((Int.toNat (z90 - 0)) = (Int.toNat (z90 - 0))))))
                      (br (decide (((Int.toNat (z90 - 0)) + 1) ≤ (Int.toNat (z90 - 0))))
                       (l19r29
                        (fun z102 z103 z104 z105 z106 z107 z108 z109 z110 z111 z112 => k1 z102 z108 z109 z110 z111 z112)
                        z89 0 ((Int.toNat (z90 - 0)) + 1) (Int.toNat (z90 - 0)) ((((Int.toNat (z90 - 0)) + 1) : Nat) : Int) 0 z91 z92 z93 z94 z95 z96 z97 z98 z99 z100 (((List.take (0 + (Int.toNat (z90 - 0))) z101) ++ [(IntKind.wrap .i64 (z89 + z88))]) ++ (List.drop ((0 + (Int.toNat (z90 - 0))) + 1) z101)))
                       (br (roomB ((Int.toNat (z90 - 0)) + 1) 8)
                        (l19r29v2
                         (fun z113 z114 z115 z116 z117 z118 z119 z120 z121 z122 z123 => k1 z113 z119 z120 z121 z122 z123)
                         z89 (((List.length ((List.take (Int.toNat (z90 - 0)) (List.drop 0 z101)) ++ [(IntKind.wrap .i64 (z89 + z88))])) : Nat) : Int) 0 z91 z92 z93 z94 z95 z96 z97 z98 z99 z100 ((List.take (Int.toNat (z90 - 0)) (List.drop 0 z101)) ++ [(IntKind.wrap .i64 (z89 + z88))]))
                        (False /- 65 -/)))
                      (False /- 942 -/))
                     (False /- 82 -/))
                    (False /- 942 -/))
                   (False /- 942 -/))
                  (br (roomB (1 + (List.length (List.take (Int.toNat ((((List.length z101) : Nat) : Int) - z90)) (List.drop (Int.toNat z90) z101)))) 8)
                   (br (eqT (.int .i64) z90 z90)
                    (br (eqT (.int .i64) z90 z90)
                     (br (decide ((0 : Int) ≤ 0 ∧ (0 : Int) ≤ z90 ∧ (z90 : Int) ≤ z90 ∧ (z90 : Int) ≤ (((List.length z101) : Nat) : Int)))
                      (br (true && ((decide ((Int.toNat (z90 - 0)) = (Int.toNat (z90 - 0)))) && (decide ((Int.toNat (z90 - 0)) = (Int.toNat (z90 - 0))))))
                       (br (decide (((Int.toNat (z90 - 0)) + (List.length ([(IntKind.wrap .i64 (z89 + z88))] ++ (List.take (Int.toNat ((((List.length z101) : Nat) : Int) - z90)) (List.drop (Int.toNat z90) z101))))) ≤ (Int.toNat (z90 - 0))))
                        (l19r29
                         (fun z124 z125 z126 z127 z128 z129 z130 z131 z132 z133 z134 => k1 z124 z130 z131 z132 z133 z134)
                         z89 0 ((Int.toNat (z90 - 0)) + (List.length ([(IntKind.wrap .i64 (z89 + z88))] ++ (List.take (Int.toNat ((((List.length z101) : Nat) : Int) - z90)) (List.drop (Int.toNat z90) z101))))) (Int.toNat (z90 - 0)) ((((Int.toNat (z90 - 0)) + (List.length ([(IntKind.wrap .i64 (z89 + z88))] ++ (List.take (Int.toNat ((((List.length z101) : Nat) : Int) - z90)) (List.drop (Int.toNat z90) z101))))) : Nat) : Int) 0 z91 z92 z93 z94 z95 z96 z97 z98 z99 z100 (((List.take (0 + (Int.toNat (z90 - 0))) z101) ++ ([(IntKind.wrap .i64 (z89 + z88))] ++ (List.take (Int.toNat ((((List.length z101) : Nat) : Int) - z90)) (List.drop (Int.toNat z90) z101)))) ++ (List.drop ((0 + (Int.toNat (z90 - 0))) + (List.length ([(IntKind.wrap .i64 (z89 + z88))] ++ (List.take (Int.toNat ((((List.length z101) : Nat) : Int) - z90)) (List.drop (Int.toNat z90) z101))))) z101)))
                        (br (roomB ((Int.toNat (z90 - 0)) + (List.length ([(IntKind.wrap .i64 (z89 + z88))] ++ (List.take (Int.toNat ((((List.length z101) : Nat) : Int) - z90)) (List.drop (Int.toNat z90) z101))))) 8)
                         (l19r29v2
                          (fun z135 z136 z137 z138 z139 z140 z141 z142 z143 z144 z145 => k1 z135 z141 z142 z143 z144 z145)
                          z89 (((List.length ((List.take (Int.toNat (z90 - 0)) (List.drop 0 z101)) ++ ([(IntKind.wrap .i64 (z89 + z88))] ++ (List.take (Int.toNat ((((List.length z101) : Nat) : Int) - z90)) (List.drop (Int.toNat z90) z101))))) : Nat) : Int) 0 z91 z92 z93 z94 z95 z96 z97 z98 z99 z100 ((List.take (Int.toNat (z90 - 0)) (List.drop 0 z101)) ++ ([(IntKind.wrap .i64 (z89 + z88))] ++ (List.take (Int.toNat ((((List.length z101) : Nat) : Int) - z90)) (List.drop (Int.toNat z90) z101)))))
                         (False /- 65 -/)))
                       (False /- 942 -/))
                      (False /- 82 -/))
                     (False /- 942 -/))
                    (False /- 942 -/))
                   (False /- 61 -/)))
                 (False /- 942 -/))
                (False /- 82 -/))
               (False /- 942 -/))
              (False /- 942 -/))
             (False /- 82 -/))
            (False /- 942 -/))
           (False /- 942 -/))
          (False /- 82 -/))
         (False /- 82 -/))
        s1 s2 (((List.length s3.2.2.2.2.1) : Nat) : Int) s5 s6 s7 s8 s9 s10 s11 s12 (List.set s13 (Int.toNat z86) (IntKind.wrap .i64 (s2 + s1))) s14 s3.2.2.2.2.1)
      (False /- 116 -/))
     (l19r29v2
      (fun z146 z147 z148 z149 z150 z151 z152 z153 z154 z155 z156 => k1 z146 z152 z153 z154 z155 z156)
      s2 (((List.length s3.2.2.2.2.1) : Nat) : Int) 0 s5 s6 s7 s8 s9 s10 s11 s12 s13 s14 s3.2.2.2.2.1)))
   (False /- 57 -/))
structure j19r20 (k1 : Int → Int → Int → Int → (List Int) → (List Int) → Prop) (s1 : Int) (s2 : Int) (s3 : Int × Int × Int × (List Int) × (List Int) × Unit) (s4 : Int × Int × Int × Int × Int × Unit) (s5 : Int) (s6 : Int) (s7 : Int) (s8 : List Int) (s9 : List Int) (s10 : Int) (s11 : Int) (s12 : Int) (s13 : List Int) (s14 : List Int) : Prop where
  of : tj19r20 k1 s1 s2 s3 s4 s5 s6 s7 s8 s9 s10 s11 s12 s13 s14

def tj19r18 (k1 : Int → Int → Int → Int → (List Int) → (List Int) → Prop) (s1 : Int) (s2 : Int) (s3 : Int × Int × Int × (List Int) × (List Int) × Unit) (s4 : Int × Int × Int × Int × Int × Unit) (s5 : Int) (s6 : Int) (s7 : Int) (s8 : List Int) (s9 : List Int) (s10 : Int) (s11 : Int) (s12 : Int) (s13 : List Int) (s14 : List Int) : Prop :=
  br ((s4.1 : Int) == 4)
  (j19r20
   (fun z15 z16 z17 z18 z19 z20 => k1 z15 z16 z17 z18 z19 z20)
   s1 s2 s3 s4 s5 s6 s7 s8 s9 s10 (IntKind.wrap .i64 (s2 + s1)) s12 s13 s14)
  (br ((s4.1 : Int) == 5)
   (j19r20
    (fun z21 z22 z23 z24 z25 z26 => k1 z21 z22 z23 z24 z25 z26)
    s1 s2 s3 s4 s5 s6 s7 s8 s9 s10 (IntKind.wrap .i64 (s2 + s1)) s12 s13 s14)
   (j19r20
    (fun z27 z28 z29 z30 z31 z32 => k1 z27 z28 z29 z30 z31 z32)
    s1 s2 s3 s4 s5 s6 s7 s8 s9 s10 s11 s12 s13 s14))
structure j19r18 (k1 : Int → Int → Int → Int → (List Int) → (List Int) → Prop) (s1 : Int) (s2 : Int) (s3 : Int × Int × Int × (List Int) × (List Int) × Unit) (s4 : Int × Int × Int × Int × Int × Unit) (s5 : Int) (s6 : Int) (s7 : Int) (s8 : List Int) (s9 : List Int) (s10 : Int) (s11 : Int) (s12 : Int) (s13 : List Int) (s14 : List Int) : Prop where
  of : tj19r18 k1 s1 s2 s3 s4 s5 s6 s7 s8 s9 s10 s11 s12 s13 s14

def tj19r13 (k1 : Int → Int → Int → Int → (List Int) → (List Int) → Prop) (s1 : Int) (s2 : Int) (s3 : Int) (s4 : Int × Int × Int × (List Int) × (List Int) × Unit) (s5 : Int × Int × Int × Int × Int × Unit) (s6 : Int) (s7 : Int) (s8 : Int) (s9 : List Int) (s10 : List Int) : Prop :=
  l19r13
  (fun z11 z12 z13 z14 z15 z16 z17 z18 z19 z20 => br (decide (((IntKind.wrap .i64 (z13 + z12)) : Int) > z14.2.2.1))
   (j19r18
    (fun z21 z22 z23 z24 z25 z26 => k1 z21 z22 z23 z24 z25 z26)
    z12 z13 z14 z15 z16 z17 z18 z19 z20 (IntKind.wrap .i64 ((IntKind.wrap .i64 (z13 + 1)) + z11)) z14.2.1 (IntKind.wrap .i64 (z13 + z12)) z14.2.2.2.1 [])
   (j19r18
    (fun z27 z28 z29 z30 z31 z32 => k1 z27 z28 z29 z30 z31 z32)
    z12 z13 z14 z15 z16 z17 z18 z19 z20 (IntKind.wrap .i64 ((IntKind.wrap .i64 (z13 + 1)) + z11)) z14.2.1 z14.2.2.1 z14.2.2.2.1 []))
  s1 s2 s3 s4 s5 s6 s7 s8 s9 s10
structure j19r13 (k1 : Int → Int → Int → Int → (List Int) → (List Int) → Prop) (s1 : Int) (s2 : Int) (s3 : Int) (s4 : Int × Int × Int × (List Int) × (List Int) × Unit) (s5 : Int × Int × Int × Int × Int × Unit) (s6 : Int) (s7 : Int) (s8 : Int) (s9 : List Int) (s10 : List Int) : Prop where
  of : tj19r13 k1 s1 s2 s3 s4 s5 s6 s7 s8 s9 s10

def tj19r10 (k1 : Int → Int → Int → Int → (List Int) → (List Int) → Prop) (s1 : Int) (s2 : Int) (s3 : Int) (s4 : Int × Int × Int × (List Int) × (List Int) × Unit) (s5 : Int × Int × Int × Int × Int × Unit) (s6 : Int) (s7 : Int) (s8 : Int) (s9 : List Int) (s10 : List Int) : Prop :=
  c8 s5
  (fun z11 => br ((z11 : Int) != 0)
   (br (decide ((0 : Int) ≤ z11 ∧ (z11 : Int) < 16))
    (need False (s4.2.2.2.1)[(Int.toNat z11)]? fun y12 =>
     j19r13
      (fun z13 z14 z15 z16 z17 z18 => k1 z13 z14 z15 z16 z17 z18)
      s1 s2 (maxI s3 (IntKind.wrap .i64 ((IntKind.wrap .i64 (y12 - s2)) + 1))) s4 s5 s6 s7 s8 s9 s10)
    (False /- 116 -/))
   (j19r13
    (fun z19 z20 z21 z22 z23 z24 => k1 z19 z20 z21 z22 z23 z24)
    s1 s2 s3 s4 s5 s6 s7 s8 s9 s10))
structure j19r10 (k1 : Int → Int → Int → Int → (List Int) → (List Int) → Prop) (s1 : Int) (s2 : Int) (s3 : Int) (s4 : Int × Int × Int × (List Int) × (List Int) × Unit) (s5 : Int × Int × Int × Int × Int × Unit) (s6 : Int) (s7 : Int) (s8 : Int) (s9 : List Int) (s10 : List Int) : Prop where
  of : tj19r10 k1 s1 s2 s3 s4 s5 s6 s7 s8 s9 s10

def tc19 (x1 : Int × Int × Int × (List Int) × (List Int) × Unit) (x2 : Int × Int × Int × Int × Int × Unit) (x3 : Int) (k1 : Int → Int → Int → (List Int) → Int → (List Int) → Prop) : Prop :=
  c6 x2.1
  (fun z4 => c11 x2
   (fun z5 => l19r4
    (fun z6 z7 z8 z9 z10 z11 z12 z13 z14 z15 => br ((z10.1 : Int) == 4)
     (j19r10
      (fun z16 z17 z18 z19 z20 z21 => k1 z17 z18 z19 z20 z16 z21)
      z6 z7 (maxI z8 z9.2.1) z9 z10 z11 z12 z13 z14 z15)
     (br ((z10.1 : Int) == 5)
      (j19r10
       (fun z22 z23 z24 z25 z26 z27 => k1 z23 z24 z25 z26 z22 z27)
       z6 z7 (maxI z8 z9.2.1) z9 z10 z11 z12 z13 z14 z15)
      (j19r10
       (fun z28 z29 z30 z31 z32 z33 => k1 z29 z30 z31 z32 z28 z33)
       z6 z7 z8 z9 z10 z11 z12 z13 z14 z15)))
    x3 (IntKind.wrap .i64 (z4 + x3)) x1.1 (((List.length z5) : Nat) : Int) 0 x1 x2 0 0 0 [0, 0, 0, 0, 0, 0, 0, 0, 0, 0, 0, 0, 0, 0, 0, 0] [] z5))
structure c19 (x1 : Int × Int × Int × (List Int) × (List Int) × Unit) (x2 : Int × Int × Int × Int × Int × Unit) (x3 : Int) (k1 : Int → Int → Int → (List Int) → Int → (List Int) → Prop) : Prop where
  of : tc19 x1 x2 x3 k1

def tj3r12 (k1 : Bool → Prop) (s1 : Int) (s2 : Int) (s3 : Int × Int × Int × (List Int) × (List Int) × Unit) (s4 : Int × Int × Int × Int × Int × Unit) : Prop :=
  c17v2 s3 s4 s1
  (fun z5 z6 z7 z8 z9 z10 z11 => br ((s2 : Int) != 0)
   (br ((z10 : Int) == s2)
    (br ((z9 : Int) == 0)
     (c18 (z5, z6, z7, z8, z11, ()) (0, 0, 0, [0, 0, 0, 0, 0, 0, 0, 0, 0, 0, 0, 0, 0, 0, 0, 0], [], ())
      (fun z12 => k1 z12))
     (k1 false))
    (k1 false))
   (br (true && true)
    (br (true && true)
     (br (true && true)
      (br (eqT (.sl (.int .i64)) s3.2.2.2.2.1 s3.2.2.2.2.1)
       (br (true)
        (br (List.isEmpty s3.2.2.2.1)
         (br (true && true)
          (br (eqT (.sl (.int .i64)) s3.2.2.2.2.1 s3.2.2.2.2.1)
           (br (true)
            (br (List.isEmpty s3.2.2.2.2.1)
             (br (true)
              (l3r16
               (fun z13 => k1 z13)
               (fun z14 z15 z16 z17 z18 z19 z20 z21 z22 z23 => c19 z17 z18 z14
                (fun z24 z25 z26 z27 z28 z29 => br ((z16 : Int) == 0)
                 (br ((z15 : Int) == z28)
                  (c18 (z19, z20, z21, z22, z23, ()) (z24, z25, z26, z27, z29, ())
                   (fun z30 => k1 z30))
                  (k1 false))
                 (k1 false)))
               s1 z9 z10 ((3 : Nat) : Int) 0 s3 s4 z5 z6 z7 z8 z11 [s3.1, s3.2.1, s3.2.2.1])
              (False /- 942 -/))
             (br (roomB (3 + (List.length s3.2.2.2.2.1)) 8)
              (br (true)
               (l3r16
                (fun z31 => k1 z31)
                (fun z32 z33 z34 z35 z36 z37 z38 z39 z40 z41 => c19 z35 z36 z32
                 (fun z42 z43 z44 z45 z46 z47 => br ((z34 : Int) == 0)
                  (br ((z33 : Int) == z46)
                   (c18 (z37, z38, z39, z40, z41, ()) (z42, z43, z44, z45, z47, ())
                    (fun z48 => k1 z48))
                   (k1 false))
                  (k1 false)))
                s1 z9 z10 (((List.length ([s3.1, s3.2.1, s3.2.2.1] ++ s3.2.2.2.2.1)) : Nat) : Int) 0 s3 s4 z5 z6 z7 z8 z11 ([s3.1, s3.2.1, s3.2.2.1] ++ s3.2.2.2.2.1))
               (False /- 942 -/))
              (False /- 61 -/)))
            (False /- 942 -/))
           (False /- 942 -/))
          (False /- 942 -/))
         (br (roomB (3 + (List.length s3.2.2.2.1)) 8)
          (br (true && true)
           (br (eqT (.sl (.int .i64)) s3.2.2.2.2.1 s3.2.2.2.2.1)
            (br (true)
             (br (List.isEmpty s3.2.2.2.2.1)
              (br (true)
               (l3r16
                (fun z49 => k1 z49)
                (fun z50 z51 z52 z53 z54 z55 z56 z57 z58 z59 => c19 z53 z54 z50
                 (fun z60 z61 z62 z63 z64 z65 => br ((z52 : Int) == 0)
                  (br ((z51 : Int) == z64)
                   (c18 (z55, z56, z57, z58, z59, ()) (z60, z61, z62, z63, z65, ())
                    (fun z66 => k1 z66))
                   (k1 false))
                  (k1 false)))
                s1 z9 z10 (((List.length ([s3.1, s3.2.1, s3.2.2.1] ++ s3.2.2.2.1)) : Nat) : Int) 0 s3 s4 z5 z6 z7 z8 z11 ([s3.1, s3.2.1, s3.2.2.1] ++ s3.2.2.2.1))
               (False /- 942 -/))
              (br (roomB ((List.length ([s3.1, s3.2.1, s3.2.2.1] ++ s3.2.2.2.1)) + (List.length s3.2.2.2.2.1)) 8)
               (br (true)
                (l3r16
                 (fun z67 => k1 z67)
                 (fun z68 z69 z70 z71 z72 z73 z74 z75 z76 z77 => c19 z71 z72 z68
                  (fun z78 z79 z80 z81 z82 z83 => br ((z70 : Int) == 0)
                   (br ((z69 : Int) == z82)
                    (c18 (z73, z74, z75, z76, z77, ()) (z78, z79, z80, z81, z83, ())
                     (fun z84 => k1 z84))
                    (k1 false))
                   (k1 false)))
                 s1 z9 z10 (((List.length (([s3.1, s3.2.1, s3.2.2.1] ++ s3.2.2.2.1) ++ s3.2.2.2.2.1)) : Nat) : Int) 0 s3 s4 z5 z6 z7 z8 z11 (([s3.1, s3.2.1, s3.2.2.1] ++ s3.2.2.2.1) ++ s3.2.2.2.2.1))
                (False /- 942 -/))
               (False /- 61 -/)))
             (False /- 942 -/))
            (False /- 942 -/))
           (False /- 942 -/))
          (False /- 61 -/)))
        (False /- 942 -/))
       (False /- 942 -/))
      (False /- 942 -/))
     (False /- 942 -/))
    (False /- 942 -/)))
structure j3r12 (k1 : Bool → Prop) (s1 : Int) (s2 : Int) (s3 : Int × Int × Int × (List Int) × (List Int) × Unit) (s4 : Int × Int × Int × Int × Int × Unit) : Prop where
  of : tj3r12 k1 s1 s2 s3 s4

def tj3r10 (k1 : Bool → Prop) (s1 : Int) (s2 : Int) (s3 : Int × Int × Int × (List Int) × (List Int) × Unit) (s4 : Int × Int × Int × Int × Int × Unit) : Prop :=
  br ((s2 : Int) == 0)
  (br (decide ((s1 : Int) < 0))
   (j3r12
    (fun z5 => k1 z5)
    s1 1 s3 s4)
   (br (decide ((s1 : Int) > 10000))
    (j3r12
     (fun z6 => k1 z6)
     s1 1 s3 s4)
    (j3r12
     (fun z7 => k1 z7)
     s1 s2 s3 s4)))
  (j3r12
   (fun z8 => k1 z8)
   s1 s2 s3 s4)
structure j3r10 (k1 : Bool → Prop) (s1 : Int) (s2 : Int) (s3 : Int × Int × Int × (List Int) × (List Int) × Unit) (s4 : Int × Int × Int × Int × Int × Unit) : Prop where
  of : tj3r10 k1 s1 s2 s3 s4

def tc3 (x1 : Int × Int × Int × (List Int) × (List Int) × Unit) (x2 : Int × Int × Int × Int × Int × Unit) (x3 : Int) (k1 : Bool → Prop) : Prop :=
  c4 
  (fun z4 => br (!z4)
   (k1 false)
   (c5 x2.1
    (fun z5 => br (true && true)
     (br (eqT (.int .i64) x2.1 x2.1)
      (c6 x2.1
       (fun z6 => br ((z5 : Int) != z6)
        (k1 false)
        (c7 x2
         (fun z7 => br (eqT opT x2 x2)
          (c8 x2
           (fun z8 => br ((z7 : Int) != z8)
            (k1 false)
            (c10 x2
             (fun z9 => br (eqT opT x2 x2)
              (c11 x2
               (fun z10 => c9 z9 z10
                (fun z11 => br (!z11)
                 (k1 false)
                 (c12 x2.1
                  (fun z12 => br (true && true)
                   (br (eqT (.int .i64) x2.1 x2.1)
                    (c13 x2.1
                     (fun z13 => br (!((z12 : Bool) == z13))
                      (k1 false)
                      (c14 x1
                       (fun z14 => c15 x1
                        (fun z15 => br ((z15 : Int) != z14)
                         (k1 false)
                         (br ((z14 : Int) == 0)
                          (c16 x2
                           (fun z16 => j3r10
                            (fun z17 => k1 z17)
                            x3 z16 x1 x2))
                          (j3r10
                           (fun z18 => k1 z18)
                           x3 z14 x1 x2)))))))
                    (False /- 942 -/))
                   (False /- 942 -/))))))
              (False /- 942 -/)))))
          (False /- 942 -/)))))
      (False /- 942 -/))
     (False /- 942 -/))))
structure c3 (x1 : Int × Int × Int × (List Int) × (List Int) × Unit) (x2 : Int × Int × Int × Int × Int × Unit) (x3 : Int) (k1 : Bool → Prop) : Prop where
  of : tc3 x1 x2 x3 k1

end Go.Proofs.Ytomgefbhmpeabaa
