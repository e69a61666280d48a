/- What the functions compute, as plain Lean (printed by a program). -/
import Derived.Test.YtfheeikjlehikaaATypT
namespace Go.Proofs.Ytfheeikjlehikaa
open Go.Abs
set_option linter.unusedVariables false
def tc35 (k1 : Int → Int → Int → (List Int) → Int → Prop) : Prop :=
  k1 0 0 0 [0, 0, 0, 0, 0, 0, 0, 0, 0, 0, 0, 0, 0, 0, 0, 0] 0
structure c35 (k1 : Int → Int → Int → (List Int) → Int → Prop) : Prop where
  of : tc35 k1

def tl174r4 (k1 : Int → Prop) (k2 : (Int × Int × Int × (List Int) × (List Int) × Unit) → Prop) (s1 : List Int) (s2 : Int) (s3 : Int × Int × Int × (List Int) × (List Int) × Unit) : Prop :=
  ∀ (I1 : (List Int) → Int → (Int × Int × Int × (List Int) × (List Int) × Unit) → Prop),
    (∀ (s1 : List Int) (s2 : Int) (s3 : Int × Int × Int × (List Int) × (List Int) × Unit), (br (decide ((s2 : Int) < 16))
    (need False (at? s1 s2) fun y4 =>
     br (decide ((y4 : Int) < 0))
      (k1 4)
      (I1 s1 (IntKind.wrap .i64 (s2 + 1)) s3))
    (k2 s3)) → I1 s1 s2 s3) →
    I1 s1 s2 s3
structure l174r4 (k1 : Int → Prop) (k2 : (Int × Int × Int × (List Int) × (List Int) × Unit) → Prop) (s1 : List Int) (s2 : Int) (s3 : Int × Int × Int × (List Int) × (List Int) × Unit) : Prop where
  of : tl174r4 k1 k2 s1 s2 s3

def tl174r11 (k1 : Int → Prop) (k2 : Prop) (s1 : Int) (s2 : List Int) (s3 : Int) (s4 : Int) : Prop :=
  ∀ (I1 : Int → (List Int) → Int → Int → Prop),
    (∀ (s1 : Int) (s2 : List Int) (s3 : Int) (s4 : Int), (br (decide ((s4 : Int) < s3))
    (need False (at? s2 s4) fun y5 =>
     br (decide ((y5 : Int) ≤ s1))
      (k1 3)
      (I1 y5 s2 s3 (IntKind.wrap .i64 (s4 + 1))))
    (k2)) → I1 s1 s2 s3 s4) →
    I1 s1 s2 s3 s4
structure l174r11 (k1 : Int → Prop) (k2 : Prop) (s1 : Int) (s2 : List Int) (s3 : Int) (s4 : Int) : Prop where
  of : tl174r11 k1 k2 s1 s2 s3 s4

def tc174 (x1 : Int × Int × Int × (List Int) × (List Int) × Unit) (k1 : Int → Prop) : Prop :=
  br (decide ((x1.1 : Int) < 0))
  (k1 4)
  (br (decide ((x1.2.1 : Int) < 0))
   (k1 4)
   (br (decide ((x1.2.2.1 : Int) < 0))
    (k1 4)
    (br (decide (((((List.length x1.2.2.2.2.1) : Nat) : Int) : Int) > 16384))
     (k1 4)
     (l174r4
      (fun z2 => k1 z2)
      (fun z3 => l174r11
       (fun z4 => k1 z4)
       (k1 0)
       (IntKind.wrap .i64 (z3.1 - 1)) z3.2.2.2.2.1 (((List.length z3.2.2.2.2.1) : Nat) : Int) 0)
      x1.2.2.2.1 0 x1))))
structure c174 (x1 : Int × Int × Int × (List Int) × (List Int) × Unit) (k1 : Int → Prop) : Prop where
  of : tc174 x1 k1

def tc218 (x1 : Int) (x2 : Int) (x3 : Int) (k1 : Bool → Prop) : Prop :=
  br (decide ((x1 : Int) ≥ x2))
  (k1 (decide ((x1 : Int) ≤ x3)))
  (k1 false)
structure c218 (x1 : Int) (x2 : Int) (x3 : Int) (k1 : Bool → Prop) : Prop where
  of : tc218 x1 x2 x3 k1

def tc219 (x1 : Int) (k1 : (Bool × Bool × Bool × Bool × Unit) → Prop) : Prop :=
  br ((x1 : Int) == 0)
  (k1 (false, false, false, false, ()))
  (br ((x1 : Int) == 22)
   (k1 (false, false, false, false, ()))
   (br ((x1 : Int) == 1)
    (k1 (true, true, true, false, ()))
    (br ((x1 : Int) == 2)
     (k1 (true, true, true, false, ()))
     (br ((x1 : Int) == 3)
      (k1 (true, true, true, false, ()))
      (br ((x1 : Int) == 4)
       (k1 (true, true, true, false, ()))
       (br ((x1 : Int) == 5)
        (k1 (true, true, true, false, ()))
        (br ((x1 : Int) == 6)
         (k1 (true, true, true, false, ()))
         (br ((x1 : Int) == 7)
          (k1 (true, true, true, false, ()))
          (br ((x1 : Int) == 15)
           (k1 (true, true, true, false, ()))
           (br ((x1 : Int) == 8)
            (k1 (true, true, false, true, ()))
            (br ((x1 : Int) == 9)
             (k1 (true, true, false, true, ()))
             (br ((x1 : Int) == 10)
              (k1 (true, true, false, true, ()))
              (br ((x1 : Int) == 12)
               (k1 (true, true, false, true, ()))
               (br ((x1 : Int) == 11)
                (k1 (true, false, false, true, ()))
                (br ((x1 : Int) == 13)
                 (k1 (false, true, true, true, ()))
                 (br ((x1 : Int) == 16)
                  (k1 (false, true, true, true, ()))
                  (br ((x1 : Int) == 17)
                   (k1 (false, true, true, true, ()))
                   (br ((x1 : Int) == 18)
                    (k1 (false, true, true, true, ()))
                    (br ((x1 : Int) == 14)
                     (k1 (true, false, true, true, ()))
                     (br ((x1 : Int) == 19)
                      (k1 (false, false, false, true, ()))
                      (br ((x1 : Int) == 20)
                       (k1 (false, false, false, true, ()))
                       (br ((x1 : Int) == 24)
                        (k1 (false, false, false, true, ()))
                        (k1 (false, true, false, false, ()))))))))))))))))))))))))
structure c219 (x1 : Int) (k1 : (Bool × Bool × Bool × Bool × Unit) → Prop) : Prop where
  of : tc219 x1 k1

def tj175s6 (k1 : Int → Prop) (k2 : (Int × Int × Int × Int × Int × Unit) → Prop) (s1 : Bool) (s2 : Int × Int × Int × Int × Int × Unit) : Prop :=
  br (s1)
  (k1 3)
  (k2 s2)
structure j175s6 (k1 : Int → Prop) (k2 : (Int × Int × Int × Int × Int × Unit) → Prop) (s1 : Bool) (s2 : Int × Int × Int × Int × Int × Unit) : Prop where
  of : tj175s6 k1 k2 s1 s2

def tj175s8 (k1 : Int → Prop) (k2 : Prop) (s1 : Bool) : Prop :=
  br (s1)
  (k1 4)
  (k2)
structure j175s8 (k1 : Int → Prop) (k2 : Prop) (s1 : Bool) : Prop where
  of : tj175s8 k1 k2 s1

def tj175r10 (k1 : Int → Prop) : Prop :=
  k1 0
structure j175r10 (k1 : Int → Prop) : Prop where
  of : tj175r10 k1

def tj175r8 (k1 : Int → Prop) (s1 : Int × Int × Int × Int × Int × Unit) : Prop :=
  br ((s1.1 : Int) == 9)
  (c218 s1.2.2.2.2.1 0 31
   (fun z2 => br (!z2)
    (j175s8
     (fun z3 => k1 z3)
     (j175r10
      (fun z4 => k1 z4)
      )
     true)
    (br ((s1.1 : Int) == 14)
     (c218 s1.2.2.2.2.1 0 4095
      (fun z5 => br (!z5)
       (j175s8
        (fun z6 => k1 z6)
        (j175r10
         (fun z7 => k1 z7)
         )
        true)
       (br ((s1.1 : Int) == 24)
        (c218 s1.2.2.2.2.1 1 6
         (fun z8 => j175s8
          (fun z9 => k1 z9)
          (j175r10
           (fun z10 => k1 z10)
           )
          (!z8)))
        (j175s8
         (fun z11 => k1 z11)
         (j175r10
          (fun z12 => k1 z12)
          )
         false))))
     (br ((s1.1 : Int) == 24)
      (c218 s1.2.2.2.2.1 1 6
       (fun z13 => j175s8
        (fun z14 => k1 z14)
        (j175r10
         (fun z15 => k1 z15)
         )
        (!z13)))
      (j175s8
       (fun z16 => k1 z16)
       (j175r10
        (fun z17 => k1 z17)
        )
       false)))))
  (br ((s1.1 : Int) == 10)
   (c218 s1.2.2.2.2.1 0 31
    (fun z18 => br (!z18)
     (j175s8
      (fun z19 => k1 z19)
      (j175r10
       (fun z20 => k1 z20)
       )
      true)
     (br ((s1.1 : Int) == 14)
      (c218 s1.2.2.2.2.1 0 4095
       (fun z21 => br (!z21)
        (j175s8
         (fun z22 => k1 z22)
         (j175r10
          (fun z23 => k1 z23)
          )
         true)
        (br ((s1.1 : Int) == 24)
         (c218 s1.2.2.2.2.1 1 6
          (fun z24 => j175s8
           (fun z25 => k1 z25)
           (j175r10
            (fun z26 => k1 z26)
            )
           (!z24)))
         (j175s8
          (fun z27 => k1 z27)
          (j175r10
           (fun z28 => k1 z28)
           )
          false))))
      (br ((s1.1 : Int) == 24)
       (c218 s1.2.2.2.2.1 1 6
        (fun z29 => j175s8
         (fun z30 => k1 z30)
         (j175r10
          (fun z31 => k1 z31)
          )
         (!z29)))
       (j175s8
        (fun z32 => k1 z32)
        (j175r10
         (fun z33 => k1 z33)
         )
        false)))))
   (br ((s1.1 : Int) == 14)
    (c218 s1.2.2.2.2.1 0 4095
     (fun z34 => br (!z34)
      (j175s8
       (fun z35 => k1 z35)
       (j175r10
        (fun z36 => k1 z36)
        )
       true)
      (br ((s1.1 : Int) == 24)
       (c218 s1.2.2.2.2.1 1 6
        (fun z37 => j175s8
         (fun z38 => k1 z38)
         (j175r10
          (fun z39 => k1 z39)
          )
         (!z37)))
       (j175s8
        (fun z40 => k1 z40)
        (j175r10
         (fun z41 => k1 z41)
         )
        false))))
    (br ((s1.1 : Int) == 24)
     (c218 s1.2.2.2.2.1 1 6
      (fun z42 => j175s8
       (fun z43 => k1 z43)
       (j175r10
        (fun z44 => k1 z44)
        )
       (!z42)))
     (j175s8
      (fun z45 => k1 z45)
      (j175r10
       (fun z46 => k1 z46)
       )
      false))))
structure j175r8 (k1 : Int → Prop) (s1 : Int × Int × Int × Int × Int × Unit) : Prop where
  of : tj175r8 k1 s1

def tc175 (x1 : Int × Int × Int × Int × Int × Unit) (k1 : Int → Prop) : Prop :=
  c218 x1.1 0 24
  (fun z2 => br (!z2)
   (k1 1)
   (c218 x1.2.1 0 15
    (fun z3 => br (!z3)
     (k1 4)
     (c218 x1.2.2.1 0 15
      (fun z4 => br (!z4)
       (k1 4)
       (c218 x1.2.2.2.1 0 15
        (fun z5 => br (!z5)
         (k1 4)
         (c218 x1.2.2.2.2.1 (-2147483648) 2147483647
          (fun z6 => br (!z6)
           (k1 4)
           (c219 x1.1
            (fun z7 => br (!z7.1)
             (br ((x1.2.1 : Int) != 0)
              (j175s6
               (fun z8 => k1 z8)
               (fun z9 => j175r8
                (fun z10 => k1 z10)
                z9)
               true x1)
              (br (!z7.2.1)
               (br ((x1.2.2.1 : Int) != 0)
                (j175s6
                 (fun z11 => k1 z11)
                 (fun z12 => j175r8
                  (fun z13 => k1 z13)
                  z12)
                 true x1)
                (br (!z7.2.2.1)
                 (br ((x1.2.2.2.1 : Int) != 0)
                  (j175s6
                   (fun z14 => k1 z14)
                   (fun z15 => j175r8
                    (fun z16 => k1 z16)
                    z15)
                   true x1)
                  (br (!z7.2.2.2.1)
                   (j175s6
                    (fun z17 => k1 z17)
                    (fun z18 => j175r8
                     (fun z19 => k1 z19)
                     z18)
                    ((x1.2.2.2.2.1 : Int) != 0) x1)
                   (j175s6
                    (fun z20 => k1 z20)
                    (fun z21 => j175r8
                     (fun z22 => k1 z22)
                     z21)
                    false x1)))
                 (br (!z7.2.2.2.1)
                  (j175s6
                   (fun z23 => k1 z23)
                   (fun z24 => j175r8
                    (fun z25 => k1 z25)
                    z24)
                   ((x1.2.2.2.2.1 : Int) != 0) x1)
                  (j175s6
                   (fun z26 => k1 z26)
                   (fun z27 => j175r8
                    (fun z28 => k1 z28)
                    z27)
                   false x1))))
               (br (!z7.2.2.1)
                (br ((x1.2.2.2.1 : Int) != 0)
                 (j175s6
                  (fun z29 => k1 z29)
                  (fun z30 => j175r8
                   (fun z31 => k1 z31)
                   z30)
                  true x1)
                 (br (!z7.2.2.2.1)
                  (j175s6
                   (fun z32 => k1 z32)
                   (fun z33 => j175r8
                    (fun z34 => k1 z34)
                    z33)
                   ((x1.2.2.2.2.1 : Int) != 0) x1)
                  (j175s6
                   (fun z35 => k1 z35)
                   (fun z36 => j175r8
                    (fun z37 => k1 z37)
                    z36)
                   false x1)))
                (br (!z7.2.2.2.1)
                 (j175s6
                  (fun z38 => k1 z38)
                  (fun z39 => j175r8
                   (fun z40 => k1 z40)
                   z39)
                  ((x1.2.2.2.2.1 : Int) != 0) x1)
                 (j175s6
                  (fun z41 => k1 z41)
                  (fun z42 => j175r8
                   (fun z43 => k1 z43)
                   z42)
                  false x1)))))
             (br (!z7.2.1)
              (br ((x1.2.2.1 : Int) != 0)
               (j175s6
                (fun z44 => k1 z44)
                (fun z45 => j175r8
                 (fun z46 => k1 z46)
                 z45)
                true x1)
               (br (!z7.2.2.1)
                (br ((x1.2.2.2.1 : Int) != 0)
                 (j175s6
                  (fun z47 => k1 z47)
                  (fun z48 => j175r8
                   (fun z49 => k1 z49)
                   z48)
                  true x1)
                 (br (!z7.2.2.2.1)
                  (j175s6
                   (fun z50 => k1 z50)
                   (fun z51 => j175r8
                    (fun z52 => k1 z52)
                    z51)
                   ((x1.2.2.2.2.1 : Int) != 0) x1)
                  (j175s6
                   (fun z53 => k1 z53)
                   (fun z54 => j175r8
                    (fun z55 => k1 z55)
                    z54)
                   false x1)))
                (br (!z7.2.2.2.1)
                 (j175s6
                  (fun z56 => k1 z56)
                  (fun z57 => j175r8
                   (fun z58 => k1 z58)
                   z57)
                  ((x1.2.2.2.2.1 : Int) != 0) x1)
                 (j175s6
                  (fun z59 => k1 z59)
                  (fun z60 => j175r8
                   (fun z61 => k1 z61)
                   z60)
                  false x1))))
              (br (!z7.2.2.1)
               (br ((x1.2.2.2.1 : Int) != 0)
                (j175s6
                 (fun z62 => k1 z62)
                 (fun z63 => j175r8
                  (fun z64 => k1 z64)
                  z63)
                 true x1)
                (br (!z7.2.2.2.1)
                 (j175s6
                  (fun z65 => k1 z65)
                  (fun z66 => j175r8
                   (fun z67 => k1 z67)
                   z66)
                  ((x1.2.2.2.2.1 : Int) != 0) x1)
                 (j175s6
                  (fun z68 => k1 z68)
                  (fun z69 => j175r8
                   (fun z70 => k1 z70)
                   z69)
                  false x1)))
               (br (!z7.2.2.2.1)
                (j175s6
                 (fun z71 => k1 z71)
                 (fun z72 => j175r8
                  (fun z73 => k1 z73)
                  z72)
                 ((x1.2.2.2.2.1 : Int) != 0) x1)
                (j175s6
                 (fun z74 => k1 z74)
                 (fun z75 => j175r8
                  (fun z76 => k1 z76)
                  z75)
                 false x1)))))))))))))))
structure c175 (x1 : Int × Int × Int × Int × Int × Unit) (k1 : Int → Prop) : Prop where
  of : tc175 x1 k1

def tc176 (x1 : Int) (k1 : Int → Prop) : Prop :=
  br ((x1 : Int) == 3)
  (k1 3)
  (br ((x1 : Int) == 12)
   (k1 3)
   (br ((x1 : Int) == 14)
    (k1 4)
    (br ((x1 : Int) == 15)
     (k1 4)
     (br ((x1 : Int) == 4)
      (k1 8)
      (br ((x1 : Int) == 5)
       (k1 8)
       (k1 1))))))
structure c176 (x1 : Int) (k1 : Int → Prop) : Prop where
  of : tc176 x1 k1

def tl264r1 (k1 : (List Int) → Prop) (s1 : List Int) (s2 : Int) (s3 : Int) (s4 : List Int) : Prop :=
  ∀ (I1 : (List Int) → Int → Int → (List Int) → Prop),
    (∀ (s1 : List Int) (s2 : Int) (s3 : Int) (s4 : List Int), (br (decide ((s3 : Int) < s2))
    (need False (at? s1 s3) fun y5 =>
     br ((y5 : Int) != 0)
      (br (roomB ((List.length s4) + 1) 8)
       (I1 s1 s2 (IntKind.wrap .i64 (s3 + 1)) (s4 ++ [y5]))
       (False /- 61 -/))
      (I1 s1 s2 (IntKind.wrap .i64 (s3 + 1)) s4))
    (k1 s4)) → I1 s1 s2 s3 s4) →
    I1 s1 s2 s3 s4
structure l264r1 (k1 : (List Int) → Prop) (s1 : List Int) (s2 : Int) (s3 : Int) (s4 : List Int) : Prop where
  of : tl264r1 k1 s1 s2 s3 s4

def tc264 (x1 : List Int) (k1 : (List Int) → Prop) : Prop :=
  l264r1
  (fun z2 => k1 z2)
  x1 (((List.length x1) : Nat) : Int) 0 []
structure c264 (x1 : List Int) (k1 : (List Int) → Prop) : Prop where
  of : tc264 x1 k1

def tj220r30 (k1 : (List Int) → Prop) (s1 : List Int) : Prop :=
  k1 s1
structure j220r30 (k1 : (List Int) → Prop) (s1 : List Int) : Prop where
  of : tj220r30 k1 s1

def tl264r1v2 (k1 : (List Int) → Prop) (k2 : (List Int) → Prop) (s1 : List Int) (s2 : Int) (s3 : Int) (s4 : List Int) : Prop :=
  ∀ (I1 : (List Int) → Int → Int → (List Int) → Prop) (I2 : (List Int) → Int → Int → (List Int) → Prop),
    (∀ (s1 : List Int) (s2 : Int) (s3 : Int) (s4 : List Int), (br (decide ((s3 : Int) < s2))
    (need False (at? s1 s3) fun y5 =>
     br ((y5 : Int) != 0)
      (br (roomB ((List.length s4) + 1) 8)
       (I2 s1 s2 (IntKind.wrap .i64 (s3 + 1)) (s4 ++ [y5]))
       (False /- 61 -/))
      (I1 s1 s2 (IntKind.wrap .i64 (s3 + 1)) s4))
    (k1 s4)) → I1 s1 s2 s3 s4) →
    (∀ (s6 : List Int) (s7 : Int) (s8 : Int) (s9 : List Int), (br (decide ((s8 : Int) < s7))
    (need False (at? s6 s8) fun y10 =>
     br ((y10 : Int) != 0)
      (br (roomB ((List.length s9) + 1) 8)
       (I2 s6 s7 (IntKind.wrap .i64 (s8 + 1)) (s9 ++ [y10]))
       (False /- 61 -/))
      (I2 s6 s7 (IntKind.wrap .i64 (s8 + 1)) s9))
    (k2 s9)) → I2 s6 s7 s8 s9) →
    I1 s1 s2 s3 s4
structure l264r1v2 (k1 : (List Int) → Prop) (k2 : (List Int) → Prop) (s1 : List Int) (s2 : Int) (s3 : Int) (s4 : List Int) : Prop where
  of : tl264r1v2 k1 k2 s1 s2 s3 s4

def tc264v2 (x1 : List Int) (x2 : List Int) (k1 : (List Int) → Prop) (k2 : (List Int) → Prop) : Prop :=
  l264r1v2
  (fun z3 => k1 z3)
  (fun z4 => k2 z4)
  x1 (((List.length x1) : Nat) : Int) 0 x2
structure c264v2 (x1 : List Int) (x2 : List Int) (k1 : (List Int) → Prop) (k2 : (List Int) → Prop) : Prop where
  of : tc264v2 x1 x2 k1 k2

def tj220s19 (k1 : (List Int) → Prop) (s1 : Int) (s2 : Bool) (s3 : Int × Int × Int × Int × Int × Unit) (s4 : List Int) : Prop :=
  br (s2)
  (c264v2 [s3.2.2.1, s3.2.2.2.1] s4
   (fun z5 => k1 z5)
   (fun z6 => k1 z6))
  (br ((s1 : Int) == 8)
   (c264v2 [s3.2.2.1] s4
    (fun z7 => k1 z7)
    (fun z8 => k1 z8))
   (br ((s1 : Int) == 9)
    (c264v2 [s3.2.2.1] s4
     (fun z9 => k1 z9)
     (fun z10 => k1 z10))
    (br ((s1 : Int) == 10)
     (c264v2 [s3.2.2.1] s4
      (fun z11 => k1 z11)
      (fun z12 => k1 z12))
     (br ((s1 : Int) == 12)
      (c264v2 [s3.2.2.1] s4
       (fun z13 => k1 z13)
       (fun z14 => k1 z14))
      (br ((s1 : Int) == 21)
       (c264v2 [s3.2.2.1] s4
        (fun z15 => k1 z15)
        (fun z16 => k1 z16))
       (br ((s1 : Int) == 23)
        (c264v2 [s3.2.2.1] s4
         (fun z17 => k1 z17)
         (fun z18 => k1 z18))
        (br ((s1 : Int) == 14)
         (c264v2 [s3.2.2.2.1] s4
          (fun z19 => k1 z19)
          (fun z20 => k1 z20))
         (k1 s4))))))))
structure j220s19 (k1 : (List Int) → Prop) (s1 : Int) (s2 : Bool) (s3 : Int × Int × Int × Int × Int × Unit) (s4 : List Int) : Prop where
  of : tj220s19 k1 s1 s2 s3 s4

def tc220 (x1 : Int × Int × Int × Int × Int × Unit) (k1 : (List Int) → Prop) : Prop :=
  br ((x1.1 : Int) == 0)
  (c264 [1]
   (fun z2 => j220r30
    (fun z3 => k1 z3)
    z2))
  (br ((x1.1 : Int) == 22)
   (c264 [15]
    (fun z4 => j220r30
     (fun z5 => k1 z5)
     z4))
   (br ((x1.1 : Int) == 1)
    (j220s19
     (fun z6 => j220r30
      (fun z7 => k1 z7)
      z6)
     x1.1 true x1 [])
    (br ((x1.1 : Int) == 2)
     (j220s19
      (fun z8 => j220r30
       (fun z9 => k1 z9)
       z8)
      x1.1 true x1 [])
     (br ((x1.1 : Int) == 3)
      (j220s19
       (fun z10 => j220r30
        (fun z11 => k1 z11)
        z10)
       x1.1 true x1 [])
      (br ((x1.1 : Int) == 4)
       (j220s19
        (fun z12 => j220r30
         (fun z13 => k1 z13)
         z12)
        x1.1 true x1 [])
       (br ((x1.1 : Int) == 5)
        (j220s19
         (fun z14 => j220r30
          (fun z15 => k1 z15)
          z14)
         x1.1 true x1 [])
        (br ((x1.1 : Int) == 6)
         (j220s19
          (fun z16 => j220r30
           (fun z17 => k1 z17)
           z16)
          x1.1 true x1 [])
         (br ((x1.1 : Int) == 7)
          (j220s19
           (fun z18 => j220r30
            (fun z19 => k1 z19)
            z18)
           x1.1 true x1 [])
          (br ((x1.1 : Int) == 13)
           (j220s19
            (fun z20 => j220r30
             (fun z21 => k1 z21)
             z20)
            x1.1 true x1 [])
           (br ((x1.1 : Int) == 15)
            (j220s19
             (fun z22 => j220r30
              (fun z23 => k1 z23)
              z22)
             x1.1 true x1 [])
            (br ((x1.1 : Int) == 16)
             (j220s19
              (fun z24 => j220r30
               (fun z25 => k1 z25)
               z24)
              x1.1 true x1 [])
             (br ((x1.1 : Int) == 17)
              (j220s19
               (fun z26 => j220r30
                (fun z27 => k1 z27)
                z26)
               x1.1 true x1 [])
              (j220s19
               (fun z28 => j220r30
                (fun z29 => k1 z29)
                z28)
               x1.1 ((x1.1 : Int) == 18) x1 [])))))))))))))
structure c220 (x1 : Int × Int × Int × Int × Int × Unit) (k1 : (List Int) → Prop) : Prop where
  of : tc220 x1 k1

def tl177r3 (k1 : Int → Int → (Int × Int × Int × (List Int) × (List Int) × Unit) → (Int × Int × Int × Int × Int × Unit) → Prop) (s1 : Int) (s2 : Int) (s3 : Int) (s4 : Int) (s5 : Int × Int × Int × (List Int) × (List Int) × Unit) (s6 : Int × Int × Int × Int × Int × Unit) (s7 : List Int) : Prop :=
  ∀ (I1 : Int → Int → Int → Int → (Int × Int × Int × (List Int) × (List Int) × Unit) → (Int × Int × Int × Int × Int × Unit) → (List Int) → Prop),
    (∀ (s1 : Int) (s2 : Int) (s3 : Int) (s4 : Int) (s5 : Int × Int × Int × (List Int) × (List Int) × Unit) (s6 : Int × Int × Int × Int × Int × Unit) (s7 : List Int), (br (decide ((s4 : Int) < s3))
    (br (decide ((0 : Int) ≤ s4 ∧ (s4 : Int) < (((List.length s7) : Nat) : Int)))
     (need False (s7)[(Int.toNat s4)]? fun y8 =>
      br (decide ((0 : Int) ≤ y8 ∧ (y8 : Int) < 16))
       (need False (s5.2.2.2.1)[(Int.toNat y8)]? fun y9 =>
        I1 s1 (maxI s2 y9) s3 (IntKind.wrap .i64 (s4 + 1)) s5 s6 s7)
       (False /- 116 -/))
     (False /- 39 -/))
    (k1 s1 s2 s5 s6)) → I1 s1 s2 s3 s4 s5 s6 s7) →
    I1 s1 s2 s3 s4 s5 s6 s7
structure l177r3 (k1 : Int → Int → (Int × Int × Int × (List Int) × (List Int) × Unit) → (Int × Int × Int × Int × Int × Unit) → Prop) (s1 : Int) (s2 : Int) (s3 : Int) (s4 : Int) (s5 : Int × Int × Int × (List Int) × (List Int) × Unit) (s6 : Int × Int × Int × Int × Int × Unit) (s7 : List Int) : Prop where
  of : tl177r3 k1 s1 s2 s3 s4 s5 s6 s7

def tc178 (x1 : Int) (k1 : Bool → Prop) : Prop :=
  br ((x1 : Int) == 4)
  (k1 true)
  (k1 ((x1 : Int) == 5))
structure c178 (x1 : Int) (k1 : Bool → Prop) : Prop where
  of : tc178 x1 k1

def tc179 (x1 : Int × Int × Int × Int × Int × Unit) (k1 : Int → Prop) : Prop :=
  br ((x1.1 : Int) == 20)
  (k1 15)
  (br ((x1.1 : Int) == 21)
   (k1 15)
   (br ((x1.1 : Int) == 0)
    (k1 0)
    (br ((x1.1 : Int) == 13)
     (k1 0)
     (br ((x1.1 : Int) == 16)
      (k1 0)
      (br ((x1.1 : Int) == 17)
       (k1 0)
       (br ((x1.1 : Int) == 18)
        (k1 0)
        (br ((x1.1 : Int) == 19)
         (k1 0)
         (br ((x1.1 : Int) == 22)
          (k1 0)
          (br ((x1.1 : Int) == 23)
           (k1 0)
           (br ((x1.1 : Int) == 24)
            (k1 0)
            (k1 x1.2.1)))))))))))
structure c179 (x1 : Int × Int × Int × Int × Int × Unit) (k1 : Int → Prop) : Prop where
  of : tc179 x1 k1

def tl81r2 (k1 : Int → Prop) (k2 : Prop) (s1 : List Int) (s2 : Int) (s3 : Int) (s4 : Int) : Prop :=
  ∀ (I1 : (List Int) → Int → Int → Int → Prop),
    (∀ (s1 : List Int) (s2 : Int) (s3 : Int) (s4 : Int), (br (decide ((s4 : Int) < s3))
    (need False (at? s1 s4) fun y5 =>
     br ((s2 : Int) == y5)
      (k1 s4)
      (I1 s1 s2 s3 (IntKind.wrap .i64 (s4 + 1))))
    (k2)) → I1 s1 s2 s3 s4) →
    I1 s1 s2 s3 s4
structure l81r2 (k1 : Int → Prop) (k2 : Prop) (s1 : List Int) (s2 : Int) (s3 : Int) (s4 : Int) : Prop where
  of : tl81r2 k1 k2 s1 s2 s3 s4

def tc81 (x1 : List Int) (x2 : Int) (k1 : Int → Prop) : Prop :=
  l81r2
  (fun z3 => k1 z3)
  (k1 (-1))
  x1 x2 (((List.length x1) : Nat) : Int) 0
structure c81 (x1 : List Int) (x2 : Int) (k1 : Int → Prop) : Prop where
  of : tc81 x1 x2 k1

def tc94 (x1 : List Int) (x2 : Int) (k1 : Bool → Prop) : Prop :=
  c81 x1 x2
  (fun z3 => k1 (decide ((z3 : Int) ≥ 0)))
structure c94 (x1 : List Int) (x2 : Int) (k1 : Bool → Prop) : Prop where
  of : tc94 x1 x2 k1

def tl177r12 (k1 : Int → Prop) (s1 : Int) (s2 : Int) (s3 : Int × Int × Int × (List Int) × (List Int) × Unit) : Prop :=
  ∀ (I1 : Int → Int → (Int × Int × Int × (List Int) × (List Int) × Unit) → Prop),
    (∀ (s1 : Int) (s2 : Int) (s3 : Int × Int × Int × (List Int) × (List Int) × Unit), (c94 s3.2.2.2.2.1 (IntKind.wrap .i64 (s2 + s1))
    (fun z4 => br (z4)
     (I1 s1 (IntKind.wrap .i64 (s2 + 1)) s3)
     (k1 s2))) → I1 s1 s2 s3) →
    I1 s1 s2 s3
structure l177r12 (k1 : Int → Prop) (s1 : Int) (s2 : Int) (s3 : Int × Int × Int × (List Int) × (List Int) × Unit) : Prop where
  of : tl177r12 k1 s1 s2 s3

def tc177 (x1 : Int × Int × Int × (List Int) × (List Int) × Unit) (x2 : Int × Int × Int × Int × Int × Unit) (x3 : Int) (k1 : Int → Prop) : Prop :=
  c220 x2
  (fun z4 => l177r3
   (fun z5 z6 z7 z8 => c178 z8.1
    (fun z9 => br (z9)
     (c179 z8
      (fun z10 => br ((z10 : Int) != 0)
       (br (decide ((0 : Int) ≤ z10 ∧ (z10 : Int) < 16))
        (need False (z7.2.2.2.1)[(Int.toNat z10)]? fun y11 =>
         l177r12
          (fun z12 => k1 z12)
          z5 (maxI (maxI z6 z7.2.1) (IntKind.wrap .i64 ((IntKind.wrap .i64 (y11 + 1)) - z5))) z7)
        (False /- 116 -/))
       (k1 (maxI z6 z7.2.1))))
     (c179 z8
      (fun z13 => br ((z13 : Int) != 0)
       (br (decide ((0 : Int) ≤ z13 ∧ (z13 : Int) < 16))
        (need False (z7.2.2.2.1)[(Int.toNat z13)]? fun y14 =>
         l177r12
          (fun z15 => k1 z15)
          z5 (maxI z6 (IntKind.wrap .i64 ((IntKind.wrap .i64 (y14 + 1)) - z5))) z7)
        (False /- 116 -/))
       (k1 z6)))))
   x3 x1.1 (((List.length z4) : Nat) : Int) 0 x1 x2 z4)
structure c177 (x1 : Int × Int × Int × (List Int) × (List Int) × Unit) (x2 : Int × Int × Int × Int × Int × Unit) (x3 : Int) (k1 : Int → Prop) : Prop where
  of : tc177 x1 x2 x3 k1

def tl102r18 (k1 : Int → Int → Int → Int → Int → (List Int) → (List Int) → (Int × Int × Int × Int × Int × Unit) → Int → Int → Int → (List Int) → (List Int) → (List Int) → Prop) (s1 : Int) (s2 : Int) (s3 : Int) (s4 : Int) (s5 : Int) (s6 : Int) (s7 : Int) (s8 : List Int) (s9 : List Int) (s10 : Int × Int × Int × Int × Int × Unit) (s11 : Int) (s12 : Int) (s13 : Int) (s14 : List Int) (s15 : List Int) (s16 : List Int) (s17 : List Int) : Prop :=
  ∀ (I1 : Int → Int → Int → Int → Int → Int → Int → (List Int) → (List Int) → (Int × Int × Int × Int × Int × Unit) → Int → Int → Int → (List Int) → (List Int) → (List Int) → (List Int) → Prop),
    (∀ (s1 : Int) (s2 : Int) (s3 : Int) (s4 : Int) (s5 : Int) (s6 : Int) (s7 : Int) (s8 : List Int) (s9 : List Int) (s10 : Int × Int × Int × Int × Int × Unit) (s11 : Int) (s12 : Int) (s13 : Int) (s14 : List Int) (s15 : List Int) (s16 : List Int) (s17 : List Int), (br (decide ((s4 : Int) < s3))
    (br (decide ((0 : Int) ≤ s4 ∧ (s4 : Int) < (((List.length s17) : Nat) : Int)))
     (need False (s17)[(Int.toNat s4)]? fun y18 =>
      br (decide ((y18 : Int) ≥ s5))
       (br (roomB ((List.length s16) + 1) 8)
        (I1 s1 s2 s3 (IntKind.wrap .i64 (s4 + 1)) s5 s6 s7 s8 s9 s10 s11 s12 s13 s14 s15 (s16 ++ [y18]) s17)
        (False /- 61 -/))
       (I1 s1 s2 s3 (IntKind.wrap .i64 (s4 + 1)) s5 s6 s7 s8 s9 s10 s11 s12 s13 s14 s15 s16 s17))
     (False /- 39 -/))
    (k1 s1 s2 s5 s6 s7 s8 s9 s10 s11 s12 s13 s14 s15 s16)) → I1 s1 s2 s3 s4 s5 s6 s7 s8 s9 s10 s11 s12 s13 s14 s15 s16 s17) →
    I1 s1 s2 s3 s4 s5 s6 s7 s8 s9 s10 s11 s12 s13 s14 s15 s16 s17
structure l102r18 (k1 : Int → Int → Int → Int → Int → (List Int) → (List Int) → (Int × Int × Int × Int × Int × Unit) → Int → Int → Int → (List Int) → (List Int) → (List Int) → Prop) (s1 : Int) (s2 : Int) (s3 : Int) (s4 : Int) (s5 : Int) (s6 : Int) (s7 : Int) (s8 : List Int) (s9 : List Int) (s10 : Int × Int × Int × Int × Int × Unit) (s11 : Int) (s12 : Int) (s13 : Int) (s14 : List Int) (s15 : List Int) (s16 : List Int) (s17 : List Int) : Prop where
  of : tl102r18 k1 s1 s2 s3 s4 s5 s6 s7 s8 s9 s10 s11 s12 s13 s14 s15 s16 s17

def tc265 (x1 : Int) (k1 : Bool → Prop) : Prop :=
  k1 ((x1 : Int) != x1)
structure c265 (x1 : Int) (k1 : Bool → Prop) : Prop where
  of : tc265 x1 k1

def tc221 (x1 : Int) (x2 : Int) (k1 : Bool → Prop) : Prop :=
  c265 x1
  (fun z3 => br (z3)
   (c265 x2
    (fun z4 => br (!z4)
     (k1 true)
     (k1 (decide ((x1 : Int) < x2)))))
   (k1 (decide ((x1 : Int) < x2))))
structure c221 (x1 : Int) (x2 : Int) (k1 : Bool → Prop) : Prop where
  of : tc221 x1 x2 k1

def tl180r3 (k1 : (List Int) → Int → Int → Int → Prop) (s1 : List Int) (s2 : Int) (s3 : Int) (s4 : Int) (s5 : Int) : Prop :=
  ∀ (I1 : (List Int) → Int → Int → Int → Int → Prop),
    (∀ (s1 : List Int) (s2 : Int) (s3 : Int) (s4 : Int) (s5 : Int), (br (decide ((s4 : Int) < s5))
    (need False (at? s1 (IntKind.wrap .i64 (shrI .u64 (IntKind.wrap .u64 (IntKind.wrap .i64 (s4 + s5))) 1))) fun y6 =>
     c221 y6 s2
      (fun z7 => br (z7)
       (I1 s1 s2 s3 (IntKind.wrap .i64 ((IntKind.wrap .i64 (shrI .u64 (IntKind.wrap .u64 (IntKind.wrap .i64 (s4 + s5))) 1)) + 1)) s5)
       (I1 s1 s2 s3 s4 (IntKind.wrap .i64 (shrI .u64 (IntKind.wrap .u64 (IntKind.wrap .i64 (s4 + s5))) 1)))))
    (k1 s1 s2 s3 s4)) → I1 s1 s2 s3 s4 s5) →
    I1 s1 s2 s3 s4 s5
structure l180r3 (k1 : (List Int) → Int → Int → Int → Prop) (s1 : List Int) (s2 : Int) (s3 : Int) (s4 : Int) (s5 : Int) : Prop where
  of : tl180r3 k1 s1 s2 s3 s4 s5

def tc222 (x1 : Int) (k1 : Bool → Prop) : Prop :=
  k1 ((x1 : Int) != x1)
structure c222 (x1 : Int) (k1 : Bool → Prop) : Prop where
  of : tc222 x1 k1

def tc180 (x1 : List Int) (x2 : Int) (k1 : Int → Bool → Prop) : Prop :=
  l180r3
  (fun z3 z4 z5 z6 => br (decide ((z6 : Int) < z5))
   (need False (at? z3 z6) fun y7 =>
    br ((y7 : Int) == z4)
     (k1 z6 true)
     (need False (at? z3 z6) fun y8 =>
      c222 y8
       (fun z9 => br (z9)
        (c222 z4
         (fun z10 => k1 z6 z10))
        (k1 z6 false))))
   (k1 z6 false))
  x1 x2 (((List.length x1) : Nat) : Int) 0 (((List.length x1) : Nat) : Int)
structure c180 (x1 : List Int) (x2 : Int) (k1 : Int → Bool → Prop) : Prop where
  of : tc180 x1 x2 k1

def tc102 (x1 : Int) (x2 : Int) (x3 : Int) (x4 : List Int) (x5 : Int × Int × Int × Int × Int × Unit) (x6 : Int) (k1 : Int → Int → Int → (List Int) → Int → Int → (List Int) → Prop) : Prop :=
  c174 (x1, x2, x3, x4, [], ())
  (fun z7 => br ((z7 : Int) != 0)
   (k1 0 0 0 [0, 0, 0, 0, 0, 0, 0, 0, 0, 0, 0, 0, 0, 0, 0, 0] 0 z7 [])
   (c175 x5
    (fun z8 => br ((z8 : Int) != 0)
     (k1 0 0 0 [0, 0, 0, 0, 0, 0, 0, 0, 0, 0, 0, 0, 0, 0, 0, 0] 0 z8 [])
     (br (decide ((x6 : Int) < 0))
      (k1 0 0 0 [0, 0, 0, 0, 0, 0, 0, 0, 0, 0, 0, 0, 0, 0, 0, 0] 0 1 [])
      (br (decide ((x6 : Int) > 10000))
       (k1 0 0 0 [0, 0, 0, 0, 0, 0, 0, 0, 0, 0, 0, 0, 0, 0, 0, 0] 0 1 [])
       (c176 x5.1
        (fun z9 => c177 (x1, x2, x3, x4, [], ()) x5 (IntKind.wrap .i64 (z9 + x6))
         (fun z10 => c178 x5.1
          (fun z11 => br (z11)
           (l102r18
            (fun z12 z13 z14 z15 z16 z17 z18 z19 z20 z21 z22 z23 z24 z25 => c179 z19
             (fun z26 => br ((z26 : Int) != 0)
              (br (decide ((0 : Int) ≤ z26 ∧ (z26 : Int) < 16))
               (need False (z17)[(Int.toNat z26)]? fun y27 =>
                br (decide ((z13 : Int) ≥ z14))
                 (c180 z25 z13
                  (fun z28 z29 => br (decide ((0 : Int) ≤ z28 ∧ (z28 : Int) ≤ (((List.length z25) : Nat) : Int)))
                   (br (roomB ((List.length z25) + 1) 8)
                    (k1 z14 z15 z16 (List.set z17 (Int.toNat z26) z13) z12 0 (((List.take (Int.toNat z28) z25) ++ [z13]) ++ (List.drop (Int.toNat z28) z25)))
                    (False /- 955 -/))
                   (False /- 956 -/)))
                 (k1 z14 z15 z16 (List.set z17 (Int.toNat z26) z13) z12 0 z25))
               (False /- 116 -/))
              (k1 z14 z15 z16 z17 z12 0 z25)))
            z10 (IntKind.wrap .i64 (z10 + (IntKind.wrap .i64 (z9 + x6)))) 0 0 (IntKind.wrap .i64 ((IntKind.wrap .i64 (z10 + 1)) + x6)) (IntKind.wrap .i64 (z10 + (IntKind.wrap .i64 (z9 + x6)))) (maxI x3 (IntKind.wrap .i64 (z10 + (IntKind.wrap .i64 (z9 + x6))))) x4 [] x5 0 0 0 [0, 0, 0, 0, 0, 0, 0, 0, 0, 0, 0, 0, 0, 0, 0, 0] [] [] [])
           (l102r18
            (fun z30 z31 z32 z33 z34 z35 z36 z37 z38 z39 z40 z41 z42 z43 => c179 z37
             (fun z44 => br ((z44 : Int) != 0)
              (br (decide ((0 : Int) ≤ z44 ∧ (z44 : Int) < 16))
               (need False (z35)[(Int.toNat z44)]? fun y45 =>
                br (decide ((z31 : Int) ≥ z32))
                 (c180 z43 z31
                  (fun z46 z47 => br (decide ((0 : Int) ≤ z46 ∧ (z46 : Int) ≤ (((List.length z43) : Nat) : Int)))
                   (br (roomB ((List.length z43) + 1) 8)
                    (k1 z32 z33 z34 (List.set z35 (Int.toNat z44) z31) z30 0 (((List.take (Int.toNat z46) z43) ++ [z31]) ++ (List.drop (Int.toNat z46) z43)))
                    (False /- 955 -/))
                   (False /- 956 -/)))
                 (k1 z32 z33 z34 (List.set z35 (Int.toNat z44) z31) z30 0 z43))
               (False /- 116 -/))
              (k1 z32 z33 z34 z35 z30 0 z43)))
            z10 (IntKind.wrap .i64 (z10 + (IntKind.wrap .i64 (z9 + x6)))) 0 0 (IntKind.wrap .i64 ((IntKind.wrap .i64 (z10 + 1)) + x6)) x2 (maxI x3 (IntKind.wrap .i64 (z10 + (IntKind.wrap .i64 (z9 + x6))))) x4 [] x5 0 0 0 [0, 0, 0, 0, 0, 0, 0, 0, 0, 0, 0, 0, 0, 0, 0, 0] [] [] []))))))))))
structure c102 (x1 : Int) (x2 : Int) (x3 : Int) (x4 : List Int) (x5 : Int × Int × Int × Int × Int × Unit) (x6 : Int) (k1 : Int → Int → Int → (List Int) → Int → Int → (List Int) → Prop) : Prop where
  of : tc102 x1 x2 x3 x4 x5 x6 k1

def tc36 (x1 : Int × Int × Int × Int × Int × Unit) (x2 : Int) (x3 : Int) (x4 : Int) (x5 : Int) (x6 : List Int) (x7 : Int) (k1 : Int → Int → Int → Int → Int → (List Int) → Int → Prop) (k2 : Int → Int → Int → Int → Int → (List Int) → Int → (List Int) → Prop) : Prop :=
  (c102 x3 x4 x5 x6 x1 x2
   (fun z8 z9 z10 z11 z12 z13 z14 => br (((eqT (.int .i64) z8 z8) && ((eqT (.int .i64) z9 z9) && ((eqT (.int .i64) z10 z10) && ((eqT (.arr 16 (.int .i64)) z11 z11) && true)))) && ((eqT (.int .i64) z12 z12) && ((eqT (.int .i64) z13 z13) && true)))
    (br ((eqT (.int .i64) z8 z8) && ((eqT (.int .i64) z9 z9) && ((eqT (.int .i64) z10 z10) && ((eqT (.arr 16 (.int .i64)) z11 z11) && true))))
     (br (eqT (.int .i64) z12 z12)
      (br (eqT (.int .i64) z13 z13)
       (br (eqT (.int .i64) z12 z12)
        (br (eqT (.int .i64) z13 z13)
         (br ((z13 : Int) != 0)
          (k1 0 z13 x3 x4 x5 x6 x7)
          (k2 z12 0 z8 z9 z10 z11 (IntKind.wrap .i64 (x7 + 1)) z14))
         (False /- 942 -/))
        (False /- 942 -/))
       (False /- 942 -/))
      (False /- 942 -/))
     (False /- 942 -/))
    (False /- 942 -/))) ∧
  (br (true)
   (br (true)
    (br (true && true)
     (br ((eqT (.int .i64) x3 x3) && ((eqT (.int .i64) x4 x4) && ((eqT (.int .i64) x5 x5) && ((eqT (.arr 16 (.int .i64)) x6 x6) && true))))
      (br (eqT opT x1 x1)
       (br (eqT (.int .i64) x2 x2)
        (c102 x3 x4 x5 x6 x1 x2
         (fun z15 z16 z17 z18 z19 z20 z21 => br (eqT (.int .i64) z19 z19)
          (br (eqT (.int .i64) z20 z20)
           (br ((z20 : Int) != 0)
            (k1 0 z20 x3 x4 x5 x6 x7)
            (k2 z19 0 z15 z16 z17 z18 (IntKind.wrap .i64 (x7 + 1)) z21))
           (False /- 942 -/))
          (False /- 942 -/)))
        (False /- 942 -/))
       (False /- 942 -/))
      (False /- 942 -/))
     (False /- 942 -/))
    (False /- 942 -/))
   (False /- 942 -/))
structure c36 (x1 : Int × Int × Int × Int × Int × Unit) (x2 : Int) (x3 : Int) (x4 : Int) (x5 : Int) (x6 : List Int) (x7 : Int) (k1 : Int → Int → Int → Int → Int → (List Int) → Int → Prop) (k2 : Int → Int → Int → Int → Int → (List Int) → Int → (List Int) → Prop) : Prop where
  of : tc36 x1 x2 x3 x4 x5 x6 x7 k1 k2

def tl37r4 (k1 : Int → Prop) (k2 : (Int × Int × Int × Int × Int × Unit) → Prop) (s1 : Int) (s2 : Int) (s3 : Int × Int × Int × Int × Int × Unit) (s4 : List Int) : Prop :=
  ∀ (I1 : Int → Int → (Int × Int × Int × Int × Int × Unit) → (List Int) → Prop),
    (∀ (s1 : Int) (s2 : Int) (s3 : Int × Int × Int × Int × Int × Unit) (s4 : List Int), (br (decide ((s2 : Int) < s1))
    (br (decide ((0 : Int) ≤ s2 ∧ (s2 : Int) < (((List.length s4) : Nat) : Int)))
     (need False (s4)[(Int.toNat s2)]? fun y5 =>
      br (decide ((y5 : Int) < 0))
       (k1 4)
       (br (decide ((y5 : Int) > 15))
        (k1 4)
        (I1 s1 (IntKind.wrap .i64 (s2 + 1)) s3 s4)))
     (False /- 39 -/))
    (k2 s3)) → I1 s1 s2 s3 s4) →
    I1 s1 s2 s3 s4
structure l37r4 (k1 : Int → Prop) (k2 : (Int × Int × Int × Int × Int × Unit) → Prop) (s1 : Int) (s2 : Int) (s3 : Int × Int × Int × Int × Int × Unit) (s4 : List Int) : Prop where
  of : tl37r4 k1 k2 s1 s2 s3 s4

def tc103 (k1 : (List (List UInt8)) → Prop) : Prop :=
  k1 [[], [(68 : UInt8), (65 : UInt8), (66 : UInt8)], [(68 : UInt8), (65 : UInt8), (66 : UInt8)], [(68 : UInt8), (65 : UInt8), (66 : UInt8)], [(68 : UInt8), (65 : UInt8), (66 : UInt8)], [(68 : UInt8), (65 : UInt8), (66 : UInt8)], [(68 : UInt8), (65 : UInt8), (66 : UInt8)], [(68 : UInt8), (65 : UInt8), (66 : UInt8)], [(68 : UInt8), (65 : UInt8), (78 : UInt8)], [(68 : UInt8), (65 : UInt8), (78 : UInt8)], [(68 : UInt8), (65 : UInt8), (78 : UInt8)], [(68 : UInt8), (78 : UInt8)], [(68 : UInt8), (65 : UInt8), (78 : UInt8)], [(65 : UInt8), (66 : UInt8), (78 : UInt8)], [(68 : UInt8), (66 : UInt8), (78 : UInt8)], [(68 : UInt8), (65 : UInt8), (66 : UInt8)], [(65 : UInt8), (66 : UInt8), (78 : UInt8)], [(65 : UInt8), (66 : UInt8), (78 : UInt8)], [(65 : UInt8), (66 : UInt8), (78 : UInt8)], [(78 : UInt8)], [(78 : UInt8)], [(65 : UInt8)], [], [(65 : UInt8)], [(78 : UInt8)]]
structure c103 (k1 : (List (List UInt8)) → Prop) : Prop where
  of : tc103 k1

def tl104r2 (k1 : Bool → Prop) (k2 : Prop) (s1 : List UInt8) (s2 : Int) (s3 : Int) (s4 : Int) : Prop :=
  ∀ (I1 : (List UInt8) → Int → Int → Int → Prop),
    (∀ (s1 : List UInt8) (s2 : Int) (s3 : Int) (s4 : Int), (br (decide ((s4 : Int) < s3))
    (need False (at? s1 s4) fun y5 =>
     br (((UInt8.toNat y5 : Int) : Int) == s2)
      (k1 true)
      (I1 s1 s2 s3 (IntKind.wrap .i64 (s4 + 1))))
    (k2)) → I1 s1 s2 s3 s4) →
    I1 s1 s2 s3 s4
structure l104r2 (k1 : Bool → Prop) (k2 : Prop) (s1 : List UInt8) (s2 : Int) (s3 : Int) (s4 : Int) : Prop where
  of : tl104r2 k1 k2 s1 s2 s3 s4

def tc104 (x1 : List UInt8) (x2 : Int) (k1 : Bool → Prop) : Prop :=
  l104r2
  (fun z3 => k1 z3)
  (k1 false)
  x1 x2 (((List.length x1) : Nat) : Int) 0
structure c104 (x1 : List UInt8) (x2 : Int) (k1 : Bool → Prop) : Prop where
  of : tc104 x1 x2 k1

def tl37r13 (k1 : Int → Prop) (k2 : (Int × Int × Int × Int × Int × Unit) → Prop) (s1 : List UInt8) (s2 : Int) (s3 : Int) (s4 : Int × Int × Int × Int × Int × Unit) (s5 : List Int) : Prop :=
  ∀ (I1 : (List UInt8) → Int → Int → (Int × Int × Int × Int × Int × Unit) → (List Int) → Prop),
    (∀ (s1 : List UInt8) (s2 : Int) (s3 : Int) (s4 : Int × Int × Int × Int × Int × Unit) (s5 : List Int), (br (decide ((s3 : Int) < s2))
    (br (decide ((0 : Int) ≤ s3 ∧ (s3 : Int) < (((List.length s5) : Nat) : Int)))
     (need False (s5)[(Int.toNat s3)]? fun y6 =>
      br ((y6 : Int) != 0)
       (need False (at? [(68 : UInt8), (65 : UInt8), (66 : UInt8), (78 : UInt8)] s3) fun y7 =>
        c104 s1 (UInt8.toNat y7 : Int)
         (fun z8 => br (!z8)
          (k1 3)
          (I1 s1 s2 (IntKind.wrap .i64 (s3 + 1)) s4 s5)))
       (I1 s1 s2 (IntKind.wrap .i64 (s3 + 1)) s4 s5))
     (False /- 39 -/))
    (k2 s4)) → I1 s1 s2 s3 s4 s5) →
    I1 s1 s2 s3 s4 s5
structure l37r13 (k1 : Int → Prop) (k2 : (Int × Int × Int × Int × Int × Unit) → Prop) (s1 : List UInt8) (s2 : Int) (s3 : Int) (s4 : Int × Int × Int × Int × Int × Unit) (s5 : List Int) : Prop where
  of : tl37r13 k1 k2 s1 s2 s3 s4 s5

def tc37 (x1 : Int × Int × Int × Int × Int × Unit) (k1 : Int → Prop) : Prop :=
  br (decide ((x1.1 : Int) < 0))
  (k1 1)
  (br (decide ((x1.1 : Int) > 24))
   (k1 1)
   (l37r4
    (fun z2 => k1 z2)
    (fun z3 => br (decide ((z3.2.2.2.2.1 : Int) < (-2147483648)))
     (k1 4)
     (br (decide ((z3.2.2.2.2.1 : Int) > 2147483647))
      (k1 4)
      (c103 
       (fun z4 => br (true && true)
        (br (eqT (.int .i64) z3.1 z3.1)
         (br (decide ((0 : Int) ≤ z3.1 ∧ (z3.1 : Int) < (((List.length z4) : Nat) : Int)))
          (need False (z4)[(Int.toNat z3.1)]? fun y5 =>
           l37r13
            (fun z6 => k1 z6)
            (fun z7 => br ((z7.1 : Int) == 9)
             (br (decide ((z7.2.2.2.2.1 : Int) < 0))
              (k1 4)
              (br (decide ((z7.2.2.2.2.1 : Int) > 31))
               (k1 4)
               (k1 0)))
             (br ((z7.1 : Int) == 10)
              (br (decide ((z7.2.2.2.2.1 : Int) < 0))
               (k1 4)
               (br (decide ((z7.2.2.2.2.1 : Int) > 31))
                (k1 4)
                (k1 0)))
              (br ((z7.1 : Int) == 14)
               (br (decide ((z7.2.2.2.2.1 : Int) < 0))
                (k1 4)
                (br (decide ((z7.2.2.2.2.1 : Int) > 4095))
                 (k1 4)
                 (k1 0)))
               (br ((z7.1 : Int) == 24)
                (br (decide ((z7.2.2.2.2.1 : Int) < 1))
                 (k1 4)
                 (br (decide ((z7.2.2.2.2.1 : Int) > 6))
                  (k1 4)
                  (k1 0)))
                (br (decide ((z7.2.2.2.2.1 : Int) < (-2147483648)))
                 (k1 4)
                 (br (decide ((z7.2.2.2.2.1 : Int) > 2147483647))
                  (k1 4)
                  (k1 0)))))))
            y5 ((4 : Nat) : Int) 0 z3 [z3.2.1, z3.2.2.1, z3.2.2.2.1, z3.2.2.2.2.1])
          (False /- 39 -/))
         (False /- 942 -/))
        (False /- 942 -/)))))
    ((3 : Nat) : Int) 0 x1 [x1.2.1, x1.2.2.1, x1.2.2.2.1]))
structure c37 (x1 : Int × Int × Int × Int × Int × Unit) (k1 : Int → Prop) : Prop where
  of : tc37 x1 k1

def tl102r18v2 (k1 : Int → Int → (List Int) → Int → Int → Int → (List Int) → (Int × Int × Int × Int × Int × Unit) → Int → Int → Int → (List Int) → (List Int) → (List Int) → Prop) (s1 : Int) (s2 : Int) (s3 : Int) (s4 : Int) (s5 : List Int) (s6 : Int) (s7 : Int) (s8 : Int) (s9 : List Int) (s10 : Int × Int × Int × Int × Int × Unit) (s11 : Int) (s12 : Int) (s13 : Int) (s14 : List Int) (s15 : List Int) (s16 : List Int) : Prop :=
  ∀ (I1 : Int → Int → Int → Int → (List Int) → Int → Int → Int → (List Int) → (Int × Int × Int × Int × Int × Unit) → Int → Int → Int → (List Int) → (List Int) → (List Int) → Prop),
    (∀ (s1 : Int) (s2 : Int) (s3 : Int) (s4 : Int) (s5 : List Int) (s6 : Int) (s7 : Int) (s8 : Int) (s9 : List Int) (s10 : Int × Int × Int × Int × Int × Unit) (s11 : Int) (s12 : Int) (s13 : Int) (s14 : List Int) (s15 : List Int) (s16 : List Int), (br (decide ((s4 : Int) < s3))
    (br (decide ((0 : Int) ≤ s4 ∧ (s4 : Int) < (((List.length s5) : Nat) : Int)))
     (need False (s5)[(Int.toNat s4)]? fun y17 =>
      br (decide ((y17 : Int) ≥ s6))
       (br (roomB ((List.length s16) + 1) 8)
        (I1 s1 s2 s3 (IntKind.wrap .i64 (s4 + 1)) s5 s6 s7 s8 s9 s10 s11 s12 s13 s14 s15 (s16 ++ [y17]))
        (False /- 61 -/))
       (I1 s1 s2 s3 (IntKind.wrap .i64 (s4 + 1)) s5 s6 s7 s8 s9 s10 s11 s12 s13 s14 s15 s16))
     (False /- 39 -/))
    (k1 s1 s2 s5 s6 s7 s8 s9 s10 s11 s12 s13 s14 s15 s16)) → I1 s1 s2 s3 s4 s5 s6 s7 s8 s9 s10 s11 s12 s13 s14 s15 s16) →
    I1 s1 s2 s3 s4 s5 s6 s7 s8 s9 s10 s11 s12 s13 s14 s15 s16
structure l102r18v2 (k1 : Int → Int → (List Int) → Int → Int → Int → (List Int) → (Int × Int × Int × Int × Int × Unit) → Int → Int → Int → (List Int) → (List Int) → (List Int) → Prop) (s1 : Int) (s2 : Int) (s3 : Int) (s4 : Int) (s5 : List Int) (s6 : Int) (s7 : Int) (s8 : Int) (s9 : List Int) (s10 : Int × Int × Int × Int × Int × Unit) (s11 : Int) (s12 : Int) (s13 : Int) (s14 : List Int) (s15 : List Int) (s16 : List Int) : Prop where
  of : tl102r18v2 k1 s1 s2 s3 s4 s5 s6 s7 s8 s9 s10 s11 s12 s13 s14 s15 s16

def tc102v2 (x1 : Int) (x2 : Int) (x3 : Int) (x4 : List Int) (x5 : Int × Int × Int × Int × Int × Unit) (x6 : Int) (x7 : List Int) (k1 : Int → Int → Int → (List Int) → Int → Int → (List Int) → (List Int) → Prop) : Prop :=
  c174 (x1, x2, x3, x4, x7, ())
  (fun z8 => br ((z8 : Int) != 0)
   (k1 0 0 0 [0, 0, 0, 0, 0, 0, 0, 0, 0, 0, 0, 0, 0, 0, 0, 0] 0 z8 x7 [])
   (c175 x5
    (fun z9 => br ((z9 : Int) != 0)
     (k1 0 0 0 [0, 0, 0, 0, 0, 0, 0, 0, 0, 0, 0, 0, 0, 0, 0, 0] 0 z9 x7 [])
     (br (decide ((x6 : Int) < 0))
      (k1 0 0 0 [0, 0, 0, 0, 0, 0, 0, 0, 0, 0, 0, 0, 0, 0, 0, 0] 0 1 x7 [])
      (br (decide ((x6 : Int) > 10000))
       (k1 0 0 0 [0, 0, 0, 0, 0, 0, 0, 0, 0, 0, 0, 0, 0, 0, 0, 0] 0 1 x7 [])
       (c176 x5.1
        (fun z10 => c177 (x1, x2, x3, x4, x7, ()) x5 (IntKind.wrap .i64 (z10 + x6))
         (fun z11 => c178 x5.1
          (fun z12 => br (z12)
           (l102r18v2
            (fun z13 z14 z15 z16 z17 z18 z19 z20 z21 z22 z23 z24 z25 z26 => c179 z20
             (fun z27 => br ((z27 : Int) != 0)
              (br (decide ((0 : Int) ≤ z27 ∧ (z27 : Int) < 16))
               (need False (z19)[(Int.toNat z27)]? fun y28 =>
                br (decide ((z14 : Int) ≥ z16))
                 (c180 z26 z14
                  (fun z29 z30 => br (decide ((0 : Int) ≤ z29 ∧ (z29 : Int) ≤ (((List.length z26) : Nat) : Int)))
                   (br (roomB ((List.length z26) + 1) 8)
                    (k1 z16 z17 z18 (List.set z19 (Int.toNat z27) z14) z13 0 z15 (((List.take (Int.toNat z29) z26) ++ [z14]) ++ (List.drop (Int.toNat z29) z26)))
                    (False /- 955 -/))
                   (False /- 956 -/)))
                 (k1 z16 z17 z18 (List.set z19 (Int.toNat z27) z14) z13 0 z15 z26))
               (False /- 116 -/))
              (k1 z16 z17 z18 z19 z13 0 z15 z26)))
            z11 (IntKind.wrap .i64 (z11 + (IntKind.wrap .i64 (z10 + x6)))) (((List.length x7) : Nat) : Int) 0 x7 (IntKind.wrap .i64 ((IntKind.wrap .i64 (z11 + 1)) + x6)) (IntKind.wrap .i64 (z11 + (IntKind.wrap .i64 (z10 + x6)))) (maxI x3 (IntKind.wrap .i64 (z11 + (IntKind.wrap .i64 (z10 + x6))))) x4 x5 0 0 0 [0, 0, 0, 0, 0, 0, 0, 0, 0, 0, 0, 0, 0, 0, 0, 0] [] [])
           (l102r18v2
            (fun z31 z32 z33 z34 z35 z36 z37 z38 z39 z40 z41 z42 z43 z44 => c179 z38
             (fun z45 => br ((z45 : Int) != 0)
              (br (decide ((0 : Int) ≤ z45 ∧ (z45 : Int) < 16))
               (need False (z37)[(Int.toNat z45)]? fun y46 =>
                br (decide ((z32 : Int) ≥ z34))
                 (c180 z44 z32
                  (fun z47 z48 => br (decide ((0 : Int) ≤ z47 ∧ (z47 : Int) ≤ (((List.length z44) : Nat) : Int)))
                   (br (roomB ((List.length z44) + 1) 8)
                    (k1 z34 z35 z36 (List.set z37 (Int.toNat z45) z32) z31 0 z33 (((List.take (Int.toNat z47) z44) ++ [z32]) ++ (List.drop (Int.toNat z47) z44)))
                    (False /- 955 -/))
                   (False /- 956 -/)))
                 (k1 z34 z35 z36 (List.set z37 (Int.toNat z45) z32) z31 0 z33 z44))
               (False /- 116 -/))
              (k1 z34 z35 z36 z37 z31 0 z33 z44)))
            z11 (IntKind.wrap .i64 (z11 + (IntKind.wrap .i64 (z10 + x6)))) (((List.length x7) : Nat) : Int) 0 x7 (IntKind.wrap .i64 ((IntKind.wrap .i64 (z11 + 1)) + x6)) x2 (maxI x3 (IntKind.wrap .i64 (z11 + (IntKind.wrap .i64 (z10 + x6))))) x4 x5 0 0 0 [0, 0, 0, 0, 0, 0, 0, 0, 0, 0, 0, 0, 0, 0, 0, 0] [] []))))))))))
structure c102v2 (x1 : Int) (x2 : Int) (x3 : Int) (x4 : List Int) (x5 : Int × Int × Int × Int × Int × Unit) (x6 : Int) (x7 : List Int) (k1 : Int → Int → Int → (List Int) → Int → Int → (List Int) → (List Int) → Prop) : Prop where
  of : tc102v2 x1 x2 x3 x4 x5 x6 x7 k1

def tc36v2 (x1 : Int × Int × Int × Int × Int × Unit) (x2 : Int) (x3 : Int) (x4 : Int) (x5 : Int) (x6 : List Int) (x7 : Int) (x8 : List Int) (k1 : Int → Int → Int → Int → Int → (List Int) → Int → (List Int) → Prop) (k2 : Int → Int → Int → Int → Int → (List Int) → Int → (List Int) → (List Int) → Prop) : Prop :=
  (c102v2 x3 x4 x5 x6 x1 x2 x8
   (fun z9 z10 z11 z12 z13 z14 z15 z16 => br (((eqT (.int .i64) z9 z9) && ((eqT (.int .i64) z10 z10) && ((eqT (.int .i64) z11 z11) && ((eqT (.arr 16 (.int .i64)) z12 z12) && true)))) && ((eqT (.int .i64) z13 z13) && ((eqT (.int .i64) z14 z14) && true)))
    (br ((eqT (.int .i64) z9 z9) && ((eqT (.int .i64) z10 z10) && ((eqT (.int .i64) z11 z11) && ((eqT (.arr 16 (.int .i64)) z12 z12) && true))))
     (br (eqT (.int .i64) z13 z13)
      (br (eqT (.int .i64) z14 z14)
       (br (eqT (.int .i64) z13 z13)
        (br (eqT (.int .i64) z14 z14)
         (br ((z14 : Int) != 0)
          (k1 0 z14 x3 x4 x5 x6 x7 z15)
          (k2 z13 0 z9 z10 z11 z12 (IntKind.wrap .i64 (x7 + 1)) z15 z16))
         (False /- 942 -/))
        (False /- 942 -/))
       (False /- 942 -/))
      (False /- 942 -/))
     (False /- 942 -/))
    (False /- 942 -/))) ∧
  (br (true)
   (br (true)
    (br (true && true)
     (br ((eqT (.int .i64) x3 x3) && ((eqT (.int .i64) x4 x4) && ((eqT (.int .i64) x5 x5) && ((eqT (.arr 16 (.int .i64)) x6 x6) && true))))
      (br (eqT opT x1 x1)
       (br (eqT (.int .i64) x2 x2)
        (c102v2 x3 x4 x5 x6 x1 x2 x8
         (fun z17 z18 z19 z20 z21 z22 z23 z24 => br (eqT (.int .i64) z21 z21)
          (br (eqT (.int .i64) z22 z22)
           (br ((z22 : Int) != 0)
            (k1 0 z22 x3 x4 x5 x6 x7 z23)
            (k2 z21 0 z17 z18 z19 z20 (IntKind.wrap .i64 (x7 + 1)) z23 z24))
           (False /- 942 -/))
          (False /- 942 -/)))
        (False /- 942 -/))
       (False /- 942 -/))
      (False /- 942 -/))
     (False /- 942 -/))
    (False /- 942 -/))
   (False /- 942 -/))
structure c36v2 (x1 : Int × Int × Int × Int × Int × Unit) (x2 : Int) (x3 : Int) (x4 : Int) (x5 : Int) (x6 : List Int) (x7 : Int) (x8 : List Int) (k1 : Int → Int → Int → Int → Int → (List Int) → Int → (List Int) → Prop) (k2 : Int → Int → Int → Int → Int → (List Int) → Int → (List Int) → (List Int) → Prop) : Prop where
  of : tc36v2 x1 x2 x3 x4 x5 x6 x7 x8 k1 k2

def tc105 (x1 : Int) (k1 : Int → Prop) : Prop :=
  br (decide ((x1 : Int) < 0))
  (k1 1)
  (br (decide ((x1 : Int) ≥ ((25 : Nat) : Int)))
   (k1 1)
   (br (decide ((0 : Int) ≤ x1 ∧ (x1 : Int) < ((25 : Nat) : Int)))
    (need False ([1, 1, 1, 3, 8, 8, 1, 1, 1, 1, 1, 1, 3, 1, 4, 4, 1, 1, 1, 1, 1, 1, 1, 1, 1])[(Int.toNat x1)]? fun y2 =>
     k1 y2)
    (False /- 39 -/)))
structure c105 (x1 : Int) (k1 : Int → Prop) : Prop where
  of : tc105 x1 k1

def tl106r6 (k1 : (List Int) → Prop) (s1 : List Int) (s2 : Int) (s3 : Int) (s4 : Int × Int × Int × Int × Int × Unit) (s5 : List Int) : Prop :=
  ∀ (I1 : (List Int) → Int → Int → (Int × Int × Int × Int × Int × Unit) → (List Int) → Prop),
    (∀ (s1 : List Int) (s2 : Int) (s3 : Int) (s4 : Int × Int × Int × Int × Int × Unit) (s5 : List Int), (br (decide ((s3 : Int) < s2))
    (need False (at? s1 s3) fun y6 =>
     br ((y6 : Int) == 65)
      (br ((s4.2.2.1 : Int) != 0)
       (br (roomB ((List.length s5) + 1) 8)
        (I1 s1 s2 (IntKind.wrap .i64 (s3 + 1)) s4 (s5 ++ [s4.2.2.1]))
        (False /- 61 -/))
       (I1 s1 s2 (IntKind.wrap .i64 (s3 + 1)) s4 s5))
      (br ((y6 : Int) == 66)
       (br ((s4.2.2.2.1 : Int) != 0)
        (br (roomB ((List.length s5) + 1) 8)
         (I1 s1 s2 (IntKind.wrap .i64 (s3 + 1)) s4 (s5 ++ [s4.2.2.2.1]))
         (False /- 61 -/))
        (I1 s1 s2 (IntKind.wrap .i64 (s3 + 1)) s4 s5))
       (br ((y6 : Int) == 70)
        (br (roomB ((List.length s5) + 1) 8)
         (I1 s1 s2 (IntKind.wrap .i64 (s3 + 1)) s4 (s5 ++ [15]))
         (False /- 61 -/))
        (br (roomB ((List.length s5) + 1) 8)
         (I1 s1 s2 (IntKind.wrap .i64 (s3 + 1)) s4 (s5 ++ [1]))
         (False /- 61 -/)))))
    (k1 s5)) → I1 s1 s2 s3 s4 s5) →
    I1 s1 s2 s3 s4 s5
structure l106r6 (k1 : (List Int) → Prop) (s1 : List Int) (s2 : Int) (s3 : Int) (s4 : Int × Int × Int × Int × Int × Unit) (s5 : List Int) : Prop where
  of : tl106r6 k1 s1 s2 s3 s4 s5

def tc106 (x1 : Int × Int × Int × Int × Int × Unit) (k1 : (List Int) → Prop) : Prop :=
  br (decide ((x1.1 : Int) < 0))
  (k1 [])
  (br (decide ((x1.1 : Int) ≥ ((25 : Nat) : Int)))
   (k1 [])
   (br (decide ((0 : Int) ≤ x1.1 ∧ (x1.1 : Int) < ((25 : Nat) : Int)))
    (need False ([[(49 : UInt8)], [(65 : UInt8), (66 : UInt8)], [(65 : UInt8), (66 : UInt8)], [(65 : UInt8), (66 : UInt8)], [(65 : UInt8), (66 : UInt8)], [(65 : UInt8), (66 : UInt8)], [(65 : UInt8), (66 : UInt8)], [(65 : UInt8), (66 : UInt8)], [(65 : UInt8)], [(65 : UInt8)], [(65 : UInt8)], [], [(65 : UInt8)], [(65 : UInt8), (66 : UInt8)], [(66 : UInt8)], [(65 : UInt8), (66 : UInt8)], [(65 : UInt8), (66 : UInt8)], [(65 : UInt8), (66 : UInt8)], [(65 : UInt8), (66 : UInt8)], [], [], [(65 : UInt8)], [(70 : UInt8)], [(65 : UInt8)], []])[(Int.toNat x1.1)]? fun y2 =>
     l106r6
      (fun z3 => k1 z3)
      (List.map (fun b : UInt8 => (b.toNat : Int)) y2) (((List.length (List.map (fun b : UInt8 => (b.toNat : Int)) y2)) : Nat) : Int) 0 x1 [])
    (False /- 39 -/)))
structure c106 (x1 : Int × Int × Int × Int × Int × Unit) (k1 : (List Int) → Prop) : Prop where
  of : tc106 x1 k1

def tl38r4 (k1 : Int → Int → Int → (Int × Int × Int × (List Int) × (List Int) × Unit) → (Int × Int × Int × Int × Int × Unit) → Int → Int → Int → (List Int) → (List Int) → Prop) (s1 : Int) (s2 : Int) (s3 : Int) (s4 : Int) (s5 : Int) (s6 : Int × Int × Int × (List Int) × (List Int) × Unit) (s7 : Int × Int × Int × Int × Int × Unit) (s8 : Int) (s9 : Int) (s10 : Int) (s11 : List Int) (s12 : List Int) (s13 : List Int) : Prop :=
  ∀ (I1 : Int → Int → Int → Int → Int → (Int × Int × Int × (List Int) × (List Int) × Unit) → (Int × Int × Int × Int × Int × Unit) → Int → Int → Int → (List Int) → (List Int) → (List Int) → Prop),
    (∀ (s1 : Int) (s2 : Int) (s3 : Int) (s4 : Int) (s5 : Int) (s6 : Int × Int × Int × (List Int) × (List Int) × Unit) (s7 : Int × Int × Int × Int × Int × Unit) (s8 : Int) (s9 : Int) (s10 : Int) (s11 : List Int) (s12 : List Int) (s13 : List Int), (br (decide ((s5 : Int) < s4))
    (br (decide ((0 : Int) ≤ s5 ∧ (s5 : Int) < (((List.length s13) : Nat) : Int)))
     (need False (s13)[(Int.toNat s5)]? fun y14 =>
      br (decide ((0 : Int) ≤ y14 ∧ (y14 : Int) < 16))
       (need False (s6.2.2.2.1)[(Int.toNat y14)]? fun y15 =>
        I1 s1 s2 (maxI s3 y15) s4 (IntKind.wrap .i64 (s5 + 1)) s6 s7 s8 s9 s10 s11 s12 s13)
       (False /- 116 -/))
     (False /- 39 -/))
    (k1 s1 s2 s3 s6 s7 s8 s9 s10 s11 s12)) → I1 s1 s2 s3 s4 s5 s6 s7 s8 s9 s10 s11 s12 s13) →
    I1 s1 s2 s3 s4 s5 s6 s7 s8 s9 s10 s11 s12 s13
structure l38r4 (k1 : Int → Int → Int → (Int × Int × Int × (List Int) × (List Int) × Unit) → (Int × Int × Int × Int × Int × Unit) → Int → Int → Int → (List Int) → (List Int) → Prop) (s1 : Int) (s2 : Int) (s3 : Int) (s4 : Int) (s5 : Int) (s6 : Int × Int × Int × (List Int) × (List Int) × Unit) (s7 : Int × Int × Int × Int × Int × Unit) (s8 : Int) (s9 : Int) (s10 : Int) (s11 : List Int) (s12 : List Int) (s13 : List Int) : Prop where
  of : tl38r4 k1 s1 s2 s3 s4 s5 s6 s7 s8 s9 s10 s11 s12 s13

def tc111 (x1 : Int) (x2 : Int) (x3 : Int) (k1 : Bool → Prop) : Prop :=
  br (decide ((x1 : Int) ≥ x2))
  (k1 (decide ((x1 : Int) ≤ x3)))
  (k1 false)
structure c111 (x1 : Int) (x2 : Int) (x3 : Int) (k1 : Bool → Prop) : Prop where
  of : tc111 x1 x2 x3 k1

def tc107 (x1 : Int × Int × Int × Int × Int × Unit) (k1 : Int → Prop) : Prop :=
  br ((x1.1 : Int) == 20)
  (k1 15)
  (br ((x1.1 : Int) == 21)
   (k1 15)
   (c111 x1.1 0 24
    (fun z2 => br (z2)
     (c103 
      (fun z3 => br (true && true)
       (br (eqT (.int .i64) x1.1 x1.1)
        (br (decide ((0 : Int) ≤ x1.1 ∧ (x1.1 : Int) < (((List.length z3) : Nat) : Int)))
         (need False (z3)[(Int.toNat x1.1)]? fun y4 =>
          c104 y4 68
           (fun z5 => br (z5)
            (k1 x1.2.1)
            (c111 x1.1 0 24
             (fun z6 => br (z6)
              (k1 0)
              (k1 x1.2.1)))))
         (False /- 39 -/))
        (False /- 942 -/))
       (False /- 942 -/)))
     (c111 x1.1 0 24
      (fun z7 => br (z7)
       (k1 0)
       (k1 x1.2.1))))))
structure c107 (x1 : Int × Int × Int × Int × Int × Unit) (k1 : Int → Prop) : Prop where
  of : tc107 x1 k1

def tl108r4 (k1 : Bool → Prop) (k2 : Int → Int → (Int × Int × Int × (List Int) × (List Int) × Unit) → (Int × Int × Int × Int × Int × Unit) → Prop) (s1 : Int) (s2 : Int) (s3 : Int) (s4 : Int) (s5 : Int × Int × Int × (List Int) × (List Int) × Unit) (s6 : Int × Int × Int × Int × Int × Unit) (s7 : List Int) : Prop :=
  ∀ (I1 : Int → Int → Int → Int → (Int × Int × Int × (List Int) × (List Int) × Unit) → (Int × Int × Int × Int × Int × Unit) → (List Int) → Prop),
    (∀ (s1 : Int) (s2 : Int) (s3 : Int) (s4 : Int) (s5 : Int × Int × Int × (List Int) × (List Int) × Unit) (s6 : Int × Int × Int × Int × Int × Unit) (s7 : List Int), (br (decide ((s4 : Int) < s3))
    (br (decide ((0 : Int) ≤ s4 ∧ (s4 : Int) < (((List.length s7) : Nat) : Int)))
     (need False (s7)[(Int.toNat s4)]? fun y8 =>
      br (decide ((0 : Int) ≤ y8 ∧ (y8 : Int) < 16))
       (need False (s5.2.2.2.1)[(Int.toNat y8)]? fun y9 =>
        br (decide ((s1 : Int) < y9))
         (k1 false)
         (I1 s1 s2 s3 (IntKind.wrap .i64 (s4 + 1)) s5 s6 s7))
       (False /- 116 -/))
     (False /- 39 -/))
    (k2 s1 s2 s5 s6)) → I1 s1 s2 s3 s4 s5 s6 s7) →
    I1 s1 s2 s3 s4 s5 s6 s7
structure l108r4 (k1 : Bool → Prop) (k2 : Int → Int → (Int × Int × Int × (List Int) × (List Int) × Unit) → (Int × Int × Int × Int × Int × Unit) → Prop) (s1 : Int) (s2 : Int) (s3 : Int) (s4 : Int) (s5 : Int × Int × Int × (List Int) × (List Int) × Unit) (s6 : Int × Int × Int × Int × Int × Unit) (s7 : List Int) : Prop where
  of : tl108r4 k1 k2 s1 s2 s3 s4 s5 s6 s7

def tl108r15 (k1 : Bool → Prop) (k2 : Int → Int → Int → (Int × Int × Int × (List Int) × (List Int) × Unit) → Prop) (s1 : Int) (s2 : Int) (s3 : Int) (s4 : List Int) (s5 : Int) (s6 : Int) (s7 : Int × Int × Int × (List Int) × (List Int) × Unit) : Prop :=
  ∀ (I1 : Int → Int → Int → (List Int) → Int → Int → (Int × Int × Int × (List Int) × (List Int) × Unit) → Prop),
    (∀ (s1 : Int) (s2 : Int) (s3 : Int) (s4 : List Int) (s5 : Int) (s6 : Int) (s7 : Int × Int × Int × (List Int) × (List Int) × Unit), (br (decide ((s6 : Int) < s5))
    (need False (at? s4 s6) fun y8 =>
     br ((y8 : Int) == (IntKind.wrap .i64 (s1 + s2)))
      (k1 false)
      (I1 s1 s2 s3 s4 s5 (IntKind.wrap .i64 (s6 + 1)) s7))
    (k2 s1 s2 s3 s7)) → I1 s1 s2 s3 s4 s5 s6 s7) →
    I1 s1 s2 s3 s4 s5 s6 s7
structure l108r15 (k1 : Bool → Prop) (k2 : Int → Int → Int → (Int × Int × Int × (List Int) × (List Int) × Unit) → Prop) (s1 : Int) (s2 : Int) (s3 : Int) (s4 : List Int) (s5 : Int) (s6 : Int) (s7 : Int × Int × Int × (List Int) × (List Int) × Unit) : Prop where
  of : tl108r15 k1 k2 s1 s2 s3 s4 s5 s6 s7

def tc108 (x1 : Int × Int × Int × (List Int) × (List Int) × Unit) (x2 : Int × Int × Int × Int × Int × Unit) (x3 : Int) (x4 : Int) (k1 : Bool → Prop) : Prop :=
  br (decide ((x3 : Int) < x1.1))
  (k1 false)
  (c106 x2
   (fun z5 => l108r4
    (fun z6 => k1 z6)
    (fun z7 z8 z9 z10 => br ((z10.1 : Int) == 4)
     (br (decide ((z7 : Int) < z9.2.1))
      (k1 false)
      (c107 z10
       (fun z11 => br ((z11 : Int) == 0)
        (k1 true)
        (l108r15
         (fun z12 => k1 z12)
         (fun z13 z14 z15 z16 => br (decide ((0 : Int) ≤ z15 ∧ (z15 : Int) < 16))
          (need False (z16.2.2.2.1)[(Int.toNat z15)]? fun y17 =>
           k1 (decide (((IntKind.wrap .i64 (z13 + z14)) : Int) > y17)))
          (False /- 116 -/))
         z7 z8 z11 z9.2.2.2.2.1 (((List.length z9.2.2.2.2.1) : Nat) : Int) 0 z9))))
     (br ((z10.1 : Int) == 5)
      (br (decide ((z7 : Int) < z9.2.1))
       (k1 false)
       (c107 z10
        (fun z18 => br ((z18 : Int) == 0)
         (k1 true)
         (l108r15
          (fun z19 => k1 z19)
          (fun z20 z21 z22 z23 => br (decide ((0 : Int) ≤ z22 ∧ (z22 : Int) < 16))
           (need False (z23.2.2.2.1)[(Int.toNat z22)]? fun y24 =>
            k1 (decide (((IntKind.wrap .i64 (z20 + z21)) : Int) > y24)))
           (False /- 116 -/))
          z7 z8 z18 z9.2.2.2.2.1 (((List.length z9.2.2.2.2.1) : Nat) : Int) 0 z9))))
      (c107 z10
       (fun z25 => br ((z25 : Int) == 0)
        (k1 true)
        (l108r15
         (fun z26 => k1 z26)
         (fun z27 z28 z29 z30 => br (decide ((0 : Int) ≤ z29 ∧ (z29 : Int) < 16))
          (need False (z30.2.2.2.1)[(Int.toNat z29)]? fun y31 =>
           k1 (decide (((IntKind.wrap .i64 (z27 + z28)) : Int) > y31)))
          (False /- 116 -/))
         z7 z8 z25 z9.2.2.2.2.1 (((List.length z9.2.2.2.2.1) : Nat) : Int) 0 z9)))))
    x3 x4 (((List.length z5) : Nat) : Int) 0 x1 x2 z5))
structure c108 (x1 : Int × Int × Int × (List Int) × (List Int) × Unit) (x2 : Int × Int × Int × Int × Int × Unit) (x3 : Int) (x4 : Int) (k1 : Bool → Prop) : Prop where
  of : tc108 x1 x2 x3 x4 k1

def tl38r13 (k1 : Int → Int → Int → (Int × Int × Int × (List Int) × (List Int) × Unit) → (Int × Int × Int × Int × Int × Unit) → Int → Int → Int → (List Int) → (List Int) → Prop) (s1 : Int) (s2 : Int) (s3 : Int) (s4 : Int × Int × Int × (List Int) × (List Int) × Unit) (s5 : Int × Int × Int × Int × Int × Unit) (s6 : Int) (s7 : Int) (s8 : Int) (s9 : List Int) (s10 : List Int) : Prop :=
  ∀ (I1 : Int → Int → Int → (Int × Int × Int × (List Int) × (List Int) × Unit) → (Int × Int × Int × Int × Int × Unit) → Int → Int → Int → (List Int) → (List Int) → Prop),
    (∀ (s1 : Int) (s2 : Int) (s3 : Int) (s4 : Int × Int × Int × (List Int) × (List Int) × Unit) (s5 : Int × Int × Int × Int × Int × Unit) (s6 : Int) (s7 : Int) (s8 : Int) (s9 : List Int) (s10 : List Int), (c108 s4 s5 s3 s2
    (fun z11 => br (!z11)
     (I1 s1 s2 (IntKind.wrap .i64 (s3 + 1)) s4 s5 s6 s7 s8 s9 s10)
     (k1 s1 s2 s3 s4 s5 s6 s7 s8 s9 s10))) → I1 s1 s2 s3 s4 s5 s6 s7 s8 s9 s10) →
    I1 s1 s2 s3 s4 s5 s6 s7 s8 s9 s10
structure l38r13 (k1 : Int → Int → Int → (Int × Int × Int × (List Int) × (List Int) × Unit) → (Int × Int × Int × Int × Int × Unit) → Int → Int → Int → (List Int) → (List Int) → Prop) (s1 : Int) (s2 : Int) (s3 : Int) (s4 : Int × Int × Int × (List Int) × (List Int) × Unit) (s5 : Int × Int × Int × Int × Int × Unit) (s6 : Int) (s7 : Int) (s8 : Int) (s9 : List Int) (s10 : List Int) : Prop where
  of : tl38r13 k1 s1 s2 s3 s4 s5 s6 s7 s8 s9 s10

def tl38r25 (k1 : Int → Int → Int → Int → Int → Int → (List Int) → (List Int) → Int → Int → Int → (List Int) → (List Int) → (List Int) → Prop) (s1 : Int) (s2 : Int) (s3 : Int) (s4 : Int) (s5 : Int) (s6 : Int) (s7 : List Int) (s8 : List Int) (s9 : Int) (s10 : Int) (s11 : Int) (s12 : List Int) (s13 : List Int) (s14 : List Int) : Prop :=
  ∀ (I1 : Int → Int → Int → Int → Int → Int → (List Int) → (List Int) → Int → Int → Int → (List Int) → (List Int) → (List Int) → Prop),
    (∀ (s1 : Int) (s2 : Int) (s3 : Int) (s4 : Int) (s5 : Int) (s6 : Int) (s7 : List Int) (s8 : List Int) (s9 : Int) (s10 : Int) (s11 : Int) (s12 : List Int) (s13 : List Int) (s14 : List Int), (br (decide ((s3 : Int) > 0))
    (br (decide ((0 : Int) ≤ (IntKind.wrap .i64 (s3 - 1)) ∧ ((IntKind.wrap .i64 (s3 - 1)) : Int) < (((List.length s14) : Nat) : Int)))
     (need False (s14)[(Int.toNat (IntKind.wrap .i64 (s3 - 1)))]? fun y15 =>
      br (decide ((y15 : Int) > (IntKind.wrap .i64 (s2 + s1))))
       (I1 s1 s2 (IntKind.wrap .i64 (s3 - 1)) s4 s5 s6 s7 s8 s9 s10 s11 s12 s13 s14)
       (k1 s1 s2 s3 s4 s5 s6 s7 s8 s9 s10 s11 s12 s13 s14))
     (False /- 39 -/))
    (k1 s1 s2 s3 s4 s5 s6 s7 s8 s9 s10 s11 s12 s13 s14)) → I1 s1 s2 s3 s4 s5 s6 s7 s8 s9 s10 s11 s12 s13 s14) →
    I1 s1 s2 s3 s4 s5 s6 s7 s8 s9 s10 s11 s12 s13 s14
structure l38r25 (k1 : Int → Int → Int → Int → Int → Int → (List Int) → (List Int) → Int → Int → Int → (List Int) → (List Int) → (List Int) → Prop) (s1 : Int) (s2 : Int) (s3 : Int) (s4 : Int) (s5 : Int) (s6 : Int) (s7 : List Int) (s8 : List Int) (s9 : Int) (s10 : Int) (s11 : Int) (s12 : List Int) (s13 : List Int) (s14 : List Int) : Prop where
  of : tl38r25 k1 s1 s2 s3 s4 s5 s6 s7 s8 s9 s10 s11 s12 s13 s14

def tl38r29 (k1 : Int → Int → Int → Int → (List Int) → (List Int) → Int → Int → Int → (List Int) → (List Int) → Prop) (s1 : Int) (s2 : Nat) (s3 : Nat) (s4 : Nat) (s5 : Int) (s6 : Int) (s7 : Int) (s8 : Int) (s9 : Int) (s10 : List Int) (s11 : List Int) (s12 : Int) (s13 : Int) (s14 : Int) (s15 : List Int) (s16 : List Int) (s17 : List Int) : Prop :=
  ∀ (I1 : Int → Nat → Nat → Nat → Int → Int → Int → Int → Int → (List Int) → (List Int) → Int → Int → Int → (List Int) → (List Int) → (List Int) → Prop),
    (∀ (s1 : Int) (s2 : Nat) (s3 : Nat) (s4 : Nat) (s5 : Int) (s6 : Int) (s7 : Int) (s8 : Int) (s9 : Int) (s10 : List Int) (s11 : List Int) (s12 : Int) (s13 : Int) (s14 : Int) (s15 : List Int) (s16 : List Int) (s17 : List Int), (br (decide ((s6 : Int) < s5))
    (br (decide ((0 : Int) ≤ s6 ∧ (s6 : Int) < ((s3 : Nat) : Int)))
     (need False (s17)[(s2 + (Int.toNat s6))]? fun y18 =>
      br (decide ((y18 : Int) ≥ s12))
       (br (roomB ((List.length s16) + 1) 8)
        (I1 s1 s2 s3 s4 s5 (IntKind.wrap .i64 (s6 + 1)) s7 s8 s9 s10 s11 s12 s13 s14 s15 (s16 ++ [y18]) s17)
        (False /- 61 -/))
       (I1 s1 s2 s3 s4 s5 (IntKind.wrap .i64 (s6 + 1)) s7 s8 s9 s10 s11 s12 s13 s14 s15 s16 s17))
     (False /- 41 -/))
    (k1 s1 s7 s8 s9 s10 s11 s12 s13 s14 s15 s16)) → I1 s1 s2 s3 s4 s5 s6 s7 s8 s9 s10 s11 s12 s13 s14 s15 s16 s17) →
    I1 s1 s2 s3 s4 s5 s6 s7 s8 s9 s10 s11 s12 s13 s14 s15 s16 s17
structure l38r29 (k1 : Int → Int → Int → Int → (List Int) → (List Int) → Int → Int → Int → (List Int) → (List Int) → Prop) (s1 : Int) (s2 : Nat) (s3 : Nat) (s4 : Nat) (s5 : Int) (s6 : Int) (s7 : Int) (s8 : Int) (s9 : Int) (s10 : List Int) (s11 : List Int) (s12 : Int) (s13 : Int) (s14 : Int) (s15 : List Int) (s16 : List Int) (s17 : List Int) : Prop where
  of : tl38r29 k1 s1 s2 s3 s4 s5 s6 s7 s8 s9 s10 s11 s12 s13 s14 s15 s16 s17

def tl38r29v2 (k1 : Int → Int → Int → Int → (List Int) → (List Int) → Int → Int → Int → (List Int) → (List Int) → Prop) (s1 : Int) (s2 : Int) (s3 : Int) (s4 : Int) (s5 : Int) (s6 : Int) (s7 : List Int) (s8 : List Int) (s9 : Int) (s10 : Int) (s11 : Int) (s12 : List Int) (s13 : List Int) (s14 : List Int) : Prop :=
  ∀ (I1 : Int → Int → Int → Int → Int → Int → (List Int) → (List Int) → Int → Int → Int → (List Int) → (List Int) → (List Int) → Prop),
    (∀ (s1 : Int) (s2 : Int) (s3 : Int) (s4 : Int) (s5 : Int) (s6 : Int) (s7 : List Int) (s8 : List Int) (s9 : Int) (s10 : Int) (s11 : Int) (s12 : List Int) (s13 : List Int) (s14 : List Int), (br (decide ((s3 : Int) < s2))
    (br (decide ((0 : Int) ≤ s3 ∧ (s3 : Int) < (((List.length s14) : Nat) : Int)))
     (need False (s14)[(Int.toNat s3)]? fun y15 =>
      br (decide ((y15 : Int) ≥ s9))
       (br (roomB ((List.length s13) + 1) 8)
        (I1 s1 s2 (IntKind.wrap .i64 (s3 + 1)) s4 s5 s6 s7 s8 s9 s10 s11 s12 (s13 ++ [y15]) s14)
        (False /- 61 -/))
       (I1 s1 s2 (IntKind.wrap .i64 (s3 + 1)) s4 s5 s6 s7 s8 s9 s10 s11 s12 s13 s14))
     (False /- 39 -/))
    (k1 s1 s4 s5 s6 s7 s8 s9 s10 s11 s12 s13)) → I1 s1 s2 s3 s4 s5 s6 s7 s8 s9 s10 s11 s12 s13 s14) →
    I1 s1 s2 s3 s4 s5 s6 s7 s8 s9 s10 s11 s12 s13 s14
structure l38r29v2 (k1 : Int → Int → Int → Int → (List Int) → (List Int) → Int → Int → Int → (List Int) → (List Int) → Prop) (s1 : Int) (s2 : Int) (s3 : Int) (s4 : Int) (s5 : Int) (s6 : Int) (s7 : List Int) (s8 : List Int) (s9 : Int) (s10 : Int) (s11 : Int) (s12 : List Int) (s13 : List Int) (s14 : List Int) : Prop where
  of : tl38r29v2 k1 s1 s2 s3 s4 s5 s6 s7 s8 s9 s10 s11 s12 s13 s14

def tj38r20 (k1 : Int → Int → Int → Int → (List Int) → (List Int) → Prop) (s1 : Int) (s2 : Int) (s3 : Int × Int × Int × (List Int) × (List Int) × Unit) (s4 : Int × Int × Int × Int × Int × Unit) (s5 : Int) (s6 : Int) (s7 : Int) (s8 : List Int) (s9 : List Int) (s10 : Int) (s11 : Int) (s12 : Int) (s13 : List Int) (s14 : List Int) : Prop :=
  br (List.isEmpty s3.2.2.2.2.1)
  (c107 s4
   (fun z15 => br ((z15 : Int) != 0)
    (br (decide ((0 : Int) ≤ z15 ∧ (z15 : Int) < 16))
     (need False (s13)[(Int.toNat z15)]? fun y16 =>
      l38r25
       (fun z17 z18 z19 z20 z21 z22 z23 z24 z25 z26 z27 z28 z29 z30 => br (decide ((0 : Int) ≤ 0 ∧ (0 : Int) ≤ z19 ∧ (z19 : Int) ≤ z19 ∧ (z19 : Int) ≤ (((List.length z30) : Nat) : Int)))
        (br (decide ((0 : Int) ≤ z19 ∧ (z19 : Int) ≤ (((List.length z30) : Nat) : Int) ∧ ((((List.length z30) : Nat) : Int) : Int) ≤ (((List.length z30) : Nat) : Int) ∧ ((((List.length z30) : Nat) : Int) : Int) ≤ (((List.length z30) : Nat) : Int)))
         (br (eqT (.int .i64) z19 z19)
          (br (eqT (.int .i64) z19 z19)
           (br (decide ((0 : Int) ≤ 0 ∧ (0 : Int) ≤ z19 ∧ (z19 : Int) ≤ z19 ∧ (z19 : Int) ≤ (((List.length z30) : Nat) : Int)))
            (br (true && ((decide ((Int.toNat (z19 - 0)) = (Int.toNat (z19 - 0)))) && (decide ((Int.toNat (z19 - 0)) = (Int.toNat (z19 - 0))))))
             (br (eqT (.int .i64) z19 z19)
              (br (decide ((0 : Int) ≤ z19 ∧ (z19 : Int) ≤ (((List.length z30) : Nat) : Int) ∧ ((((List.length z30) : Nat) : Int) : Int) ≤ (((List.length z30) : Nat) : Int) ∧ ((((List.length z30) : Nat) : Int) : Int) ≤ (((List.length z30) : Nat) : Int)))
               (br ((decide ((Int.toNat z19) = (Int.toNat z19))) && ((decide ((Int.toNat ((((List.length z30) : Nat) : Int) - z19)) = (Int.toNat ((((List.length z30) : Nat) : Int) - z19)))) && (decide ((Int.toNat ((((List.length z30) : Nat) : Int) - z19)) = (Int.toNat ((((List.length z30) : Nat) : Int) - z19))))))
                (br (List.isEmpty (List.take (Int.toNat ((((List.length z30) : Nat) : Int) - z19)) (List.drop (Int.toNat z19) z30)))
                 (br (eqT (.int .i64) z19 z19)
                  (br (eqT (.int .i64) z19 z19)
                   (br (decide ((0 : Int) ≤ 0 ∧ (0 : Int) ≤ z19 ∧ (z19 : Int) ≤ z19 ∧ (z19 : Int) ≤ (((List.length z30) : Nat) : Int)))
                    (br (true && ((decide ((Int.toNat (z19 - 0)) = (Int.toNat (z19 - 0)))) && (decide ((Int.toNat (z19 - 0)) = (Int.toNat (z19 - 0))))))
                     (br (decide (((Int.toNat (z19 - 0)) + 1) ≤ (Int.toNat (z19 - 0))))
                      (l38r29
                       (fun z31 z32 z33 z34 z35 z36 z37 z38 z39 z40 z41 => k1 z31 z37 z38 z39 z40 z41)
                       z18 0 ((Int.toNat (z19 - 0)) + 1) (Int.toNat (z19 - 0)) ((((Int.toNat (z19 - 0)) + 1) : Nat) : Int) 0 z20 z21 z22 z23 z24 z25 z26 z27 z28 z29 (((List.take (0 + (Int.toNat (z19 - 0))) z30) ++ [(IntKind.wrap .i64 (z18 + z17))]) ++ (List.drop ((0 + (Int.toNat (z19 - 0))) + 1) z30)))
                      (br (roomB ((Int.toNat (z19 - 0)) + 1) 8)
                       (l38r29v2
                        (fun z42 z43 z44 z45 z46 z47 z48 z49 z50 z51 z52 => k1 z42 z48 z49 z50 z51 z52)
                        z18 (((List.length ((List.take (Int.toNat (z19 - 0)) (List.drop 0 z30)) ++ [(IntKind.wrap .i64 (z18 + z17))])) : Nat) : Int) 0 z20 z21 z22 z23 z24 z25 z26 z27 z28 z29 ((List.take (Int.toNat (z19 - 0)) (List.drop 0 z30)) ++ [(IntKind.wrap .i64 (z18 + z17))]))
                       (False /- 65 -/)))
                     (False /- 942 -/))
                    (False /- 82 -/))
                   (False /- 942 -/))
                  (False /- 942 -/))
                 (br (roomB (1 + (List.length (List.take (Int.toNat ((((List.length z30) : Nat) : Int) - z19)) (List.drop (Int.toNat z19) z30)))) 8)
                  (br (eqT (.int .i64) z19 z19)
                   (br (eqT (.int .i64) z19 z19)
                    (br (decide ((0 : Int) ≤ 0 ∧ (0 : Int) ≤ z19 ∧ (z19 : Int) ≤ z19 ∧ (z19 : Int) ≤ (((List.length z30) : Nat) : Int)))
                     (br (true && ((decide ((Int.toNat (z19 - 0)) = (Int.toNat (z19 - 0)))) && (decide ((Int.toNat (z19 - 0)) = (Int.toNat (z19 - 0))))))
                      (br (decide (((Int.toNat (z19 - 0)) + (List.length ([(IntKind.wrap .i64 (z18 + z17))] ++ (List.take (Int.toNat ((((List.length z30) : Nat) : Int) - z19)) (List.drop (Int.toNat z19) z30))))) ≤ (Int.toNat (z19 - 0))))
                       (l38r29
                        (fun z53 z54 z55 z56 z57 z58 z59 z60 z61 z62 z63 => k1 z53 z59 z60 z61 z62 z63)
                        z18 0 ((Int.toNat (z19 - 0)) + (List.length ([(IntKind.wrap .i64 (z18 + z17))] ++ (List.take (Int.toNat ((((List.length z30) : Nat) : Int) - z19)) (List.drop (Int.toNat z19) z30))))) (Int.toNat (z19 - 0)) ((((Int.toNat (z19 - 0)) + (List.length ([(IntKind.wrap .i64 (z18 + z17))] ++ (List.take (Int.toNat ((((List.length z30) : Nat) : Int) - z19)) (List.drop (Int.toNat z19) z30))))) : Nat) : Int) 0 z20 z21 z22 z23 z24 z25 z26 z27 z28 z29 (((List.take (0 + (Int.toNat (z19 - 0))) z30) ++ ([(IntKind.wrap .i64 (z18 + z17))] ++ (List.take (Int.toNat ((((List.length z30) : Nat) : Int) - z19)) (List.drop (Int.toNat z19) z30)))) ++ (List.drop ((0 + (Int.toNat (z19 - 0))) + (List.length ([(IntKind.wrap .i64 (z18 + z17))] ++ (List.take (Int.toNat ((((List.length z30) : Nat) : Int) - z19)) (List.drop (Int.toNat z19) z30))))) z30)))
                       (br (roomB ((Int.toNat (z19 - 0)) + (List.length ([(IntKind.wrap .i64 (z18 + z17))] ++ (List.take (Int.toNat ((((List.length z30) : Nat) : Int) - z19)) (List.drop (Int.toNat z19) z30))))) 8)
                        (l38r29v2
                         (fun z64 z65 z66 z67 z68 z69 z70 z71 z72 z73 z74 => k1 z64 z70 z71 z72 z73 z74)
                         z18 (((List.length ((List.take (Int.toNat (z19 - 0)) (List.drop 0 z30)) ++ ([(IntKind.wrap .i64 (z18 + z17))] ++ (List.take (Int.toNat ((((List.length z30) : Nat) : Int) - z19)) (List.drop (Int.toNat z19) z30))))) : Nat) : Int) 0 z20 z21 z22 z23 z24 z25 z26 z27 z28 z29 ((List.take (Int.toNat (z19 - 0)) (List.drop 0 z30)) ++ ([(IntKind.wrap .i64 (z18 + z17))] ++ (List.take (Int.toNat ((((List.length z30) : Nat) : Int) - z19)) (List.drop (Int.toNat z19) z30)))))
                        (False /- 65 -/)))
                      (False /- 942 -/))
                     (False /- 82 -/))
                    (False /- 942 -/))
                   (False /- 942 -/))
                  (False /- 61 -/)))
                (False /- 942 -/))
               (False /- 82 -/))
              (False /- 942 -/))
             (False /- 942 -/))
            (False /- 82 -/))
           (False /- 942 -/))
          (False /- 942 -/))
         (False /- 82 -/))
        (False /- 82 -/))
       s1 s2 0 s5 s6 s7 s8 s9 s10 s11 s12 (List.set s13 (Int.toNat z15) (IntKind.wrap .i64 (s2 + s1))) s14 [])
     (False /- 116 -/))
    (l38r29v2
     (fun z75 z76 z77 z78 z79 z80 z81 z82 z83 z84 z85 => k1 z75 z81 z82 z83 z84 z85)
     s2 0 0 s5 s6 s7 s8 s9 s10 s11 s12 s13 s14 [])))
  (br (roomB (List.length s3.2.2.2.2.1) 8)
   (c107 s4
    (fun z86 => br ((z86 : Int) != 0)
     (br (decide ((0 : Int) ≤ z86 ∧ (z86 : Int) < 16))
      (need False (s13)[(Int.toNat z86)]? fun y87 =>
       l38r25
        (fun z88 z89 z90 z91 z92 z93 z94 z95 z96 z97 z98 z99 z100 z101 => br (decide ((0 : Int) ≤ 0 ∧ (0 : Int) ≤ z90 ∧ (z90 : Int) ≤ z90 ∧ (z90 : Int) ≤ (((List.length z101) : Nat) : Int)))
         (br (decide ((0 : Int) ≤ z90 ∧ (z90 : Int) ≤ (((List.length z101) : Nat) : Int) ∧ ((((List.length z101) : Nat) : Int) : Int) ≤ (((List.length z101) : Nat) : Int) ∧ ((((List.length z101) : Nat) : Int) : Int) ≤ (((List.length z101) : Nat) : Int)))
          (br (eqT (.int .i64) z90 z90)
           (br (eqT (.int .i64) z90 z90)
            (br (decide ((0 : Int) ≤ 0 ∧ (0 : Int) ≤ z90 ∧ (z90 : Int) ≤ z90 ∧ (z90 : Int) ≤ (((List.length z101) : Nat) : Int)))
             (br (true && ((decide ((Int.toNat (z90 - 0)) = (Int.toNat (z90 - 0)))) && (decide ((Int.toNat (z90 - 0)) = (Int.toNat (z90 - 0))))))
              (br (eqT (.int .i64) z90 z90)
               (br (decide ((0 : Int) ≤ z90 ∧ (z90 : Int) ≤ (((List.length z101) : Nat) : Int) ∧ ((((List.length z101) : Nat) : Int) : Int) ≤ (((List.length z101) : Nat) : Int) ∧ ((((List.length z101) : Nat) : Int) : Int) ≤ (((List.length z101) : Nat) : Int)))
                (br ((decide ((Int.toNat z90) = (Int.toNat z90))) && ((decide ((Int.toNat ((((List.length z101) : Nat) : Int) - z90)) = (Int.toNat ((((List.length z101) : Nat) : Int) - z90)))) && (decide ((Int.toNat ((((List.length z101) : Nat) : Int) - z90)) = (Int.toNat ((((List.length z101) : Nat) : Int) - z90))))))
                 (br (List.isEmpty (List.take (Int.toNat ((((List.length z101) : Nat) : Int) - z90)) (List.drop (Int.toNat z90) z101)))
                  (br (eqT (.int .i64) z90 z90)
                   (br (eqT (.int .i64) z90 z90)
                    (br (decide ((0 : Int) ≤ 0 ∧ (0 : Int) ≤ z90 ∧ (z90 : Int) ≤ z90 ∧ (z90 : Int) ≤ (((List.length z101) : Nat) : Int)))
                     (br (true && ((decide ((Int.toNat (z90 - 0)) = (Int.toNat (z90 - 0)))) && (decide ((Int.toNat (z90 - 0)) = (Int.toNat (z90 - 0))))))
                      (br (decide (((Int.toNat (z90 - 0)) + 1) ≤ (Int.toNat (z90 - 0))))
                       (l38r29
                        (fun z102 z103 z104 z105 z106 z107 z108 z109 z110 z111 z112 => k1 z102 z108 z109 z110 z111 z112)
                        z89 0 ((Int.toNat (z90 - 0)) + 1) (Int.toNat (z90 - 0)) ((((Int.toNat (z90 - 0)) + 1) : Nat) : Int) 0 z91 z92 z93 z94 z95 z96 z97 z98 z99 z100 (((List.take (0 + (Int.toNat (z90 - 0))) z101) ++ [(IntKind.wrap .i64 (z89 + z88))]) ++ (List.drop ((0 + (Int.toNat (z90 - 0))) + 1) z101)))
                       (br (roomB ((Int.toNat (z90 - 0)) + 1) 8)
                        (l38r29v2
                         (fun z113 z114 z115 z116 z117 z118 z119 z120 z121 z122 z123 => k1 z113 z119 z120 z121 z122 z123)
                         z89 (((List.length ((List.take (Int.toNat (z90 - 0)) (List.drop 0 z101)) ++ [(IntKind.wrap .i64 (z89 + z88))])) : Nat) : Int) 0 z91 z92 z93 z94 z95 z96 z97 z98 z99 z100 ((List.take (Int.toNat (z90 - 0)) (List.drop 0 z101)) ++ [(IntKind.wrap .i64 (z89 + z88))]))
                        (False /- 65 -/)))
                      (False /- 942 -/))
                     (False /- 82 -/))
                    (False /- 942 -/))
                   (False /- 942 -/))
                  (br (roomB (1 + (List.length (List.take (Int.toNat ((((List.length z101) : Nat) : Int) - z90)) (List.drop (Int.toNat z90) z101)))) 8)
                   (br (eqT (.int .i64) z90 z90)
                    (br (eqT (.int .i64) z90 z90)
                     (br (decide ((0 : Int) ≤ 0 ∧ (0 : Int) ≤ z90 ∧ (z90 : Int) ≤ z90 ∧ (z90 : Int) ≤ (((List.length z101) : Nat) : Int)))
                      (br (true && ((decide ((Int.toNat (z90 - 0)) = (Int.toNat (z90 - 0)))) && (decide ((Int.toNat (z90 - 0)) = (Int.toNat (z90 - 0))))))
                       (br (decide (((Int.toNat (z90 - 0)) + (List.length ([(IntKind.wrap .i64 (z89 + z88))] ++ (List.take (Int.toNat ((((List.length z101) : Nat) : Int) - z90)) (List.drop (Int.toNat z90) z101))))) ≤ (Int.toNat (z90 - 0))))
                        (l38r29
                         (fun z124 z125 z126 z127 z128 z129 z130 z131 z132 z133 z134 => k1 z124 z130 z131 z132 z133 z134)
                         z89 0 ((Int.toNat (z90 - 0)) + (List.length ([(IntKind.wrap .i64 (z89 + z88))] ++ (List.take (Int.toNat ((((List.length z101) : Nat) : Int) - z90)) (List.drop (Int.toNat z90) z101))))) (Int.toNat (z90 - 0)) ((((Int.toNat (z90 - 0)) + (List.length ([(IntKind.wrap .i64 (z89 + z88))] ++ (List.take (Int.toNat ((((List.length z101) : Nat) : Int) - z90)) (List.drop (Int.toNat z90) z101))))) : Nat) : Int) 0 z91 z92 z93 z94 z95 z96 z97 z98 z99 z100 (((List.take (0 + (Int.toNat (z90 - 0))) z101) ++ ([(IntKind.wrap .i64 (z89 + z88))] ++ (List.take (Int.toNat ((((List.length z101) : Nat) : Int) - z90)) (List.drop (Int.toNat z90) z101)))) ++ (List.drop ((0 + (Int.toNat (z90 - 0))) + (List.length ([(IntKind.wrap .i64 (z89 + z88))] ++ (List.take (Int.toNat ((((List.length z101) : Nat) : Int) - z90)) (List.drop (Int.toNat z90) z101))))) z101)))
                        (br (roomB ((Int.toNat (z90 - 0)) + (List.length ([(IntKind.wrap .i64 (z89 + z88))] ++ (List.take (Int.toNat ((((List.length z101) : Nat) : Int) - z90)) (List.drop (Int.toNat z90) z101))))) 8)
                         (l38r29v2
                          (fun z135 z136 z137 z138 z139 z140 z141 z142 z143 z144 z145 => k1 z135 z141 z142 z143 z144 z145)
                          z89 (((List.length ((List.take (Int.toNat (z90 - 0)) (List.drop 0 z101)) ++ ([(IntKind.wrap .i64 (z89 + z88))] ++ (List.take (Int.toNat ((((List.length z101) : Nat) : Int) - z90)) (List.drop (Int.toNat z90) z101))))) : Nat) : Int) 0 z91 z92 z93 z94 z95 z96 z97 z98 z99 z100 ((List.take (Int.toNat (z90 - 0)) (List.drop 0 z101)) ++ ([(IntKind.wrap .i64 (z89 + z88))] ++ (List.take (Int.toNat ((((List.length z101) : Nat) : Int) - z90)) (List.drop (Int.toNat z90) z101)))))
                         (False /- 65 -/)))
                       (False /- 942 -/))
                      (False /- 82 -/))
                     (False /- 942 -/))
                    (False /- 942 -/))
                   (False /- 61 -/)))
                 (False /- 942 -/))
                (False /- 82 -/))
               (False /- 942 -/))
              (False /- 942 -/))
             (False /- 82 -/))
            (False /- 942 -/))
           (False /- 942 -/))
          (False /- 82 -/))
         (False /- 82 -/))
        s1 s2 (((List.length s3.2.2.2.2.1) : Nat) : Int) s5 s6 s7 s8 s9 s10 s11 s12 (List.set s13 (Int.toNat z86) (IntKind.wrap .i64 (s2 + s1))) s14 s3.2.2.2.2.1)
      (False /- 116 -/))
     (l38r29v2
      (fun z146 z147 z148 z149 z150 z151 z152 z153 z154 z155 z156 => k1 z146 z152 z153 z154 z155 z156)
      s2 (((List.length s3.2.2.2.2.1) : Nat) : Int) 0 s5 s6 s7 s8 s9 s10 s11 s12 s13 s14 s3.2.2.2.2.1)))
   (False /- 57 -/))
structure j38r20 (k1 : Int → Int → Int → Int → (List Int) → (List Int) → Prop) (s1 : Int) (s2 : Int) (s3 : Int × Int × Int × (List Int) × (List Int) × Unit) (s4 : Int × Int × Int × Int × Int × Unit) (s5 : Int) (s6 : Int) (s7 : Int) (s8 : List Int) (s9 : List Int) (s10 : Int) (s11 : Int) (s12 : Int) (s13 : List Int) (s14 : List Int) : Prop where
  of : tj38r20 k1 s1 s2 s3 s4 s5 s6 s7 s8 s9 s10 s11 s12 s13 s14

def tj38r18 (k1 : Int → Int → Int → Int → (List Int) → (List Int) → Prop) (s1 : Int) (s2 : Int) (s3 : Int × Int × Int × (List Int) × (List Int) × Unit) (s4 : Int × Int × Int × Int × Int × Unit) (s5 : Int) (s6 : Int) (s7 : Int) (s8 : List Int) (s9 : List Int) (s10 : Int) (s11 : Int) (s12 : Int) (s13 : List Int) (s14 : List Int) : Prop :=
  br ((s4.1 : Int) == 4)
  (j38r20
   (fun z15 z16 z17 z18 z19 z20 => k1 z15 z16 z17 z18 z19 z20)
   s1 s2 s3 s4 s5 s6 s7 s8 s9 s10 (IntKind.wrap .i64 (s2 + s1)) s12 s13 s14)
  (br ((s4.1 : Int) == 5)
   (j38r20
    (fun z21 z22 z23 z24 z25 z26 => k1 z21 z22 z23 z24 z25 z26)
    s1 s2 s3 s4 s5 s6 s7 s8 s9 s10 (IntKind.wrap .i64 (s2 + s1)) s12 s13 s14)
   (j38r20
    (fun z27 z28 z29 z30 z31 z32 => k1 z27 z28 z29 z30 z31 z32)
    s1 s2 s3 s4 s5 s6 s7 s8 s9 s10 s11 s12 s13 s14))
structure j38r18 (k1 : Int → Int → Int → Int → (List Int) → (List Int) → Prop) (s1 : Int) (s2 : Int) (s3 : Int × Int × Int × (List Int) × (List Int) × Unit) (s4 : Int × Int × Int × Int × Int × Unit) (s5 : Int) (s6 : Int) (s7 : Int) (s8 : List Int) (s9 : List Int) (s10 : Int) (s11 : Int) (s12 : Int) (s13 : List Int) (s14 : List Int) : Prop where
  of : tj38r18 k1 s1 s2 s3 s4 s5 s6 s7 s8 s9 s10 s11 s12 s13 s14

def tj38r13 (k1 : Int → Int → Int → Int → (List Int) → (List Int) → Prop) (s1 : Int) (s2 : Int) (s3 : Int) (s4 : Int × Int × Int × (List Int) × (List Int) × Unit) (s5 : Int × Int × Int × Int × Int × Unit) (s6 : Int) (s7 : Int) (s8 : Int) (s9 : List Int) (s10 : List Int) : Prop :=
  l38r13
  (fun z11 z12 z13 z14 z15 z16 z17 z18 z19 z20 => br (decide (((IntKind.wrap .i64 (z13 + z12)) : Int) > z14.2.2.1))
   (j38r18
    (fun z21 z22 z23 z24 z25 z26 => k1 z21 z22 z23 z24 z25 z26)
    z12 z13 z14 z15 z16 z17 z18 z19 z20 (IntKind.wrap .i64 ((IntKind.wrap .i64 (z13 + 1)) + z11)) z14.2.1 (IntKind.wrap .i64 (z13 + z12)) z14.2.2.2.1 [])
   (j38r18
    (fun z27 z28 z29 z30 z31 z32 => k1 z27 z28 z29 z30 z31 z32)
    z12 z13 z14 z15 z16 z17 z18 z19 z20 (IntKind.wrap .i64 ((IntKind.wrap .i64 (z13 + 1)) + z11)) z14.2.1 z14.2.2.1 z14.2.2.2.1 []))
  s1 s2 s3 s4 s5 s6 s7 s8 s9 s10
structure j38r13 (k1 : Int → Int → Int → Int → (List Int) → (List Int) → Prop) (s1 : Int) (s2 : Int) (s3 : Int) (s4 : Int × Int × Int × (List Int) × (List Int) × Unit) (s5 : Int × Int × Int × Int × Int × Unit) (s6 : Int) (s7 : Int) (s8 : Int) (s9 : List Int) (s10 : List Int) : Prop where
  of : tj38r13 k1 s1 s2 s3 s4 s5 s6 s7 s8 s9 s10

def tj38r10 (k1 : Int → Int → Int → Int → (List Int) → (List Int) → Prop) (s1 : Int) (s2 : Int) (s3 : Int) (s4 : Int × Int × Int × (List Int) × (List Int) × Unit) (s5 : Int × Int × Int × Int × Int × Unit) (s6 : Int) (s7 : Int) (s8 : Int) (s9 : List Int) (s10 : List Int) : Prop :=
  c107 s5
  (fun z11 => br ((z11 : Int) != 0)
   (br (decide ((0 : Int) ≤ z11 ∧ (z11 : Int) < 16))
    (need False (s4.2.2.2.1)[(Int.toNat z11)]? fun y12 =>
     j38r13
      (fun z13 z14 z15 z16 z17 z18 => k1 z13 z14 z15 z16 z17 z18)
      s1 s2 (maxI s3 (IntKind.wrap .i64 ((IntKind.wrap .i64 (y12 - s2)) + 1))) s4 s5 s6 s7 s8 s9 s10)
    (False /- 116 -/))
   (j38r13
    (fun z19 z20 z21 z22 z23 z24 => k1 z19 z20 z21 z22 z23 z24)
    s1 s2 s3 s4 s5 s6 s7 s8 s9 s10))
structure j38r10 (k1 : Int → Int → Int → Int → (List Int) → (List Int) → Prop) (s1 : Int) (s2 : Int) (s3 : Int) (s4 : Int × Int × Int × (List Int) × (List Int) × Unit) (s5 : Int × Int × Int × Int × Int × Unit) (s6 : Int) (s7 : Int) (s8 : Int) (s9 : List Int) (s10 : List Int) : Prop where
  of : tj38r10 k1 s1 s2 s3 s4 s5 s6 s7 s8 s9 s10

def tc38 (x1 : Int × Int × Int × (List Int) × (List Int) × Unit) (x2 : Int × Int × Int × Int × Int × Unit) (x3 : Int) (k1 : Int → Int → Int → (List Int) → Int → (List Int) → Prop) : Prop :=
  c105 x2.1
  (fun z4 => c106 x2
   (fun z5 => l38r4
    (fun z6 z7 z8 z9 z10 z11 z12 z13 z14 z15 => br ((z10.1 : Int) == 4)
     (j38r10
      (fun z16 z17 z18 z19 z20 z21 => k1 z17 z18 z19 z20 z16 z21)
      z6 z7 (maxI z8 z9.2.1) z9 z10 z11 z12 z13 z14 z15)
     (br ((z10.1 : Int) == 5)
      (j38r10
       (fun z22 z23 z24 z25 z26 z27 => k1 z23 z24 z25 z26 z22 z27)
       z6 z7 (maxI z8 z9.2.1) z9 z10 z11 z12 z13 z14 z15)
      (j38r10
       (fun z28 z29 z30 z31 z32 z33 => k1 z29 z30 z31 z32 z28 z33)
       z6 z7 z8 z9 z10 z11 z12 z13 z14 z15)))
    x3 (IntKind.wrap .i64 (z4 + x3)) x1.1 (((List.length z5) : Nat) : Int) 0 x1 x2 0 0 0 [0, 0, 0, 0, 0, 0, 0, 0, 0, 0, 0, 0, 0, 0, 0, 0] [] z5))
structure c38 (x1 : Int × Int × Int × (List Int) × (List Int) × Unit) (x2 : Int × Int × Int × Int × Int × Unit) (x3 : Int) (k1 : Int → Int → Int → (List Int) → Int → (List Int) → Prop) : Prop where
  of : tc38 x1 x2 x3 k1

def tl39r7 (k1 : Int → Int → Int → (List Int) → Int → (List Int) → (List Int) → Prop) (s1 : Int) (s2 : Int) (s3 : Int) (s4 : Int) (s5 : Int) (s6 : List Int) (s7 : Int) (s8 : List Int) (s9 : List Int) : Prop :=
  ∀ (I1 : Int → Int → Int → Int → Int → (List Int) → Int → (List Int) → (List Int) → Prop),
    (∀ (s1 : Int) (s2 : Int) (s3 : Int) (s4 : Int) (s5 : Int) (s6 : List Int) (s7 : Int) (s8 : List Int) (s9 : List Int), (br (decide ((s2 : Int) < s1))
    (br (decide ((0 : Int) ≤ s2 ∧ (s2 : Int) < (((List.length s8) : Nat) : Int)))
     (need False (s8)[(Int.toNat s2)]? fun y10 =>
      br (decide ((y10 : Int) ≥ s3))
       (br (roomB ((List.length s9) + 1) 8)
        (I1 s1 (IntKind.wrap .i64 (s2 + 1)) s3 s4 s5 s6 s7 s8 (s9 ++ [y10]))
        (False /- 61 -/))
       (I1 s1 (IntKind.wrap .i64 (s2 + 1)) s3 s4 s5 s6 s7 s8 s9))
     (False /- 39 -/))
    (k1 s3 s4 s5 s6 s7 s8 s9)) → I1 s1 s2 s3 s4 s5 s6 s7 s8 s9) →
    I1 s1 s2 s3 s4 s5 s6 s7 s8 s9
structure l39r7 (k1 : Int → Int → Int → (List Int) → Int → (List Int) → (List Int) → Prop) (s1 : Int) (s2 : Int) (s3 : Int) (s4 : Int) (s5 : Int) (s6 : List Int) (s7 : Int) (s8 : List Int) (s9 : List Int) : Prop where
  of : tl39r7 k1 s1 s2 s3 s4 s5 s6 s7 s8 s9

def tc39 (x1 : Int) (x2 : Int) (x3 : Int) (x4 : Int) (x5 : List Int) (x6 : Int) (x7 : List Int) (k1 : Int → Int → Int → Int → (List Int) → Int → (List Int) → Prop) (k2 : Int → Int → Int → Int → (List Int) → Int → (List Int) → (List Int) → Prop) : Prop :=
  br (decide ((x1 : Int) < 0))
  (k1 4 x2 x3 x4 x5 x6 x7)
  (br (decide ((x1 : Int) > 100))
   (k1 4 x2 x3 x4 x5 x6 x7)
   (l39r7
    (fun z8 z9 z10 z11 z12 z13 z14 => k2 0 z8 z9 z10 z11 z12 z13 z14)
    (((List.length x7) : Nat) : Int) 0 (IntKind.wrap .i64 (x2 + x1)) x3 (maxI x4 (IntKind.wrap .i64 (x2 + x1))) x5 x6 x7 []))
structure c39 (x1 : Int) (x2 : Int) (x3 : Int) (x4 : Int) (x5 : List Int) (x6 : Int) (x7 : List Int) (k1 : Int → Int → Int → Int → (List Int) → Int → (List Int) → Prop) (k2 : Int → Int → Int → Int → (List Int) → Int → (List Int) → (List Int) → Prop) : Prop where
  of : tc39 x1 x2 x3 x4 x5 x6 x7 k1 k2

def tc41 (x1 : Int) (x2 : Int) (x3 : Int) (x4 : List Int) (x5 : Int) (x6 : List Int) (k1 : Int → Int → Int → Int → (List Int) → Int → (List Int) → Prop) : Prop :=
  k1 x3 x1 x2 x3 x4 x5 x6
structure c41 (x1 : Int) (x2 : Int) (x3 : Int) (x4 : List Int) (x5 : Int) (x6 : List Int) (k1 : Int → Int → Int → Int → (List Int) → Int → (List Int) → Prop) : Prop where
  of : tc41 x1 x2 x3 x4 x5 x6 k1

def tc42 (x1 : Int) (x2 : Int) (x3 : Int) (x4 : List Int) (x5 : Int) (x6 : List Int) (k1 : Int → Int → Int → Int → (List Int) → Int → (List Int) → Prop) : Prop :=
  k1 x5 x1 x2 x3 x4 x5 x6
structure c42 (x1 : Int) (x2 : Int) (x3 : Int) (x4 : List Int) (x5 : Int) (x6 : List Int) (k1 : Int → Int → Int → Int → (List Int) → Int → (List Int) → Prop) : Prop where
  of : tc42 x1 x2 x3 x4 x5 x6 k1

def tj6r33 (k1 : Bool → Prop) (k2 : (List Int) → (List Int) → Int → (List (Int × Int × Int × Int × Int × Unit)) → Int → Int → Int → Int → Int → (List Int) → Int → (List Int) → Int → Int → Int → (List Int) → (List Int) → Prop) (s1 : List Int) (s2 : List Int) (s3 : Int) (s4 : List (Int × Int × Int × Int × Int × Unit)) (s5 : Int) (s6 : Int) (s7 : Int) (s8 : Int) (s9 : Int) (s10 : List Int) (s11 : Int) (s12 : List Int) (s13 : Int) (s14 : Int) (s15 : Int) (s16 : List Int) (s17 : List Int) : Prop :=
  c41 s7 s8 s9 s10 s11 s12
  (fun z18 z19 z20 z21 z22 z23 z24 => br (true && true)
   (br (eqT (.int .i64) s15 s15)
    (br ((z18 : Int) != s15)
     (k1 false)
     (c42 z19 z20 z21 z22 z23 z24
      (fun z25 z26 z27 z28 z29 z30 z31 => br (eqT (.int .i64) s3 s3)
       (br ((z25 : Int) != s3)
        (k1 false)
        (k2 s1 s2 s3 s4 s5 s6 z26 z27 z28 z29 z30 z31 s13 s14 s15 s16 s17))
       (False /- 942 -/))))
    (False /- 942 -/))
   (False /- 942 -/))
structure j6r33 (k1 : Bool → Prop) (k2 : (List Int) → (List Int) → Int → (List (Int × Int × Int × Int × Int × Unit)) → Int → Int → Int → Int → Int → (List Int) → Int → (List Int) → Int → Int → Int → (List Int) → (List Int) → Prop) (s1 : List Int) (s2 : List Int) (s3 : Int) (s4 : List (Int × Int × Int × Int × Int × Unit)) (s5 : Int) (s6 : Int) (s7 : Int) (s8 : Int) (s9 : Int) (s10 : List Int) (s11 : Int) (s12 : List Int) (s13 : Int) (s14 : Int) (s15 : Int) (s16 : List Int) (s17 : List Int) : Prop where
  of : tj6r33 k1 k2 s1 s2 s3 s4 s5 s6 s7 s8 s9 s10 s11 s12 s13 s14 s15 s16 s17

def tl40r5 (k1 : (List Int) → Int → Int → Int → (List Int) → Int → Int → Int → (List Int) → (List Int) → (List Int) → Prop) (s1 : Int) (s2 : Int) (s3 : List Int) (s4 : Int) (s5 : Int) (s6 : Int) (s7 : List Int) (s8 : Int) (s9 : Int) (s10 : Int) (s11 : List Int) (s12 : List Int) (s13 : List Int) : Prop :=
  ∀ (I1 : Int → Int → (List Int) → Int → Int → Int → (List Int) → Int → Int → Int → (List Int) → (List Int) → (List Int) → Prop),
    (∀ (s1 : Int) (s2 : Int) (s3 : List Int) (s4 : Int) (s5 : Int) (s6 : Int) (s7 : List Int) (s8 : Int) (s9 : Int) (s10 : Int) (s11 : List Int) (s12 : List Int) (s13 : List Int), (br (decide ((s2 : Int) < s1))
    (br (decide ((0 : Int) ≤ s2 ∧ (s2 : Int) < (((List.length s3) : Nat) : Int)))
     (need False (s3)[(Int.toNat s2)]? fun y14 =>
      br (decide ((y14 : Int) ≥ s4))
       (br (roomB ((List.length s13) + 1) 8)
        (I1 s1 (IntKind.wrap .i64 (s2 + 1)) s3 s4 s5 s6 s7 s8 s9 s10 s11 s12 (s13 ++ [y14]))
        (False /- 61 -/))
       (I1 s1 (IntKind.wrap .i64 (s2 + 1)) s3 s4 s5 s6 s7 s8 s9 s10 s11 s12 s13))
     (False /- 39 -/))
    (k1 s3 s4 s5 s6 s7 s8 s9 s10 s11 s12 s13)) → I1 s1 s2 s3 s4 s5 s6 s7 s8 s9 s10 s11 s12 s13) →
    I1 s1 s2 s3 s4 s5 s6 s7 s8 s9 s10 s11 s12 s13
structure l40r5 (k1 : (List Int) → Int → Int → Int → (List Int) → Int → Int → Int → (List Int) → (List Int) → (List Int) → Prop) (s1 : Int) (s2 : Int) (s3 : List Int) (s4 : Int) (s5 : Int) (s6 : Int) (s7 : List Int) (s8 : Int) (s9 : Int) (s10 : Int) (s11 : List Int) (s12 : List Int) (s13 : List Int) : Prop where
  of : tl40r5 k1 s1 s2 s3 s4 s5 s6 s7 s8 s9 s10 s11 s12 s13

def tc40 (x1 : Int) (x2 : Int) (x3 : Int) (x4 : List Int) (x5 : Int) (x6 : List Int) (k1 : Int → Int → Int → (List Int) → (List Int) → (List Int) → Prop) : Prop :=
  l40r5
  (fun z7 z8 z9 z10 z11 z12 z13 z14 z15 z16 z17 => k1 z8 z9 z10 z11 z7 z17)
  (((List.length x6) : Nat) : Int) 0 x6 (IntKind.wrap .i64 (x1 + x5)) x2 (maxI x3 (IntKind.wrap .i64 (x1 + x5))) x4 0 0 0 [0, 0, 0, 0, 0, 0, 0, 0, 0, 0, 0, 0, 0, 0, 0, 0] [] []
structure c40 (x1 : Int) (x2 : Int) (x3 : Int) (x4 : List Int) (x5 : Int) (x6 : List Int) (k1 : Int → Int → Int → (List Int) → (List Int) → (List Int) → Prop) : Prop where
  of : tc40 x1 x2 x3 x4 x5 x6 k1

def tj6r25 (k1 : Bool → Prop) (k2 : (List Int) → (List Int) → Int → (List (Int × Int × Int × Int × Int × Unit)) → Int → Int → Int → Int → Int → (List Int) → Int → (List Int) → Int → Int → Int → (List Int) → (List Int) → Prop) (s1 : List Int) (s2 : List Int) (s3 : Int) (s4 : Int) (s5 : List (Int × Int × Int × Int × Int × Unit)) (s6 : Int) (s7 : Int) (s8 : Int) (s9 : Int) (s10 : Int) (s11 : List Int) (s12 : Int) (s13 : List Int) (s14 : Int) (s15 : Int) (s16 : Int) (s17 : List Int) (s18 : List Int) : Prop :=
  br (decide ((s4 : Int) < (((List.length s2) : Nat) : Int)))
  (need False (at? s2 s4) fun y19 =>
   br (decide ((y19 : Int) < 0))
    (need False (at? s2 s4) fun y20 =>
     c39 y20 s8 s9 s10 s11 s12 s13
      (fun z21 z22 z23 z24 z25 z26 z27 => br ((z21 : Int) != 4)
       (k1 false)
       (j6r33
        (fun z28 => k1 z28)
        (fun z29 z30 z31 z32 z33 z34 z35 z36 z37 z38 z39 z40 z41 z42 z43 z44 z45 => k2 z29 z30 z31 z32 z33 z34 z35 z36 z37 z38 z39 z40 z41 z42 z43 z44 z45)
        s1 s2 s3 s5 s6 s7 z22 z23 z24 z25 z26 z27 s14 s15 s16 s17 s18))
      (fun z46 z47 z48 z49 z50 z51 z52 z53 => br ((z46 : Int) != 4)
       (k1 false)
       (j6r33
        (fun z54 => k1 z54)
        (fun z55 z56 z57 z58 z59 z60 z61 z62 z63 z64 z65 z66 z67 z68 z69 z70 z71 => k2 z55 z56 z57 z58 z59 z60 z61 z62 z63 z64 z65 z66 z67 z68 z69 z70 z71)
        s1 s2 s3 s5 s6 s7 z47 z48 z49 z50 z51 z53 s14 s15 s16 s17 s18)))
    (need False (at? s2 s4) fun y72 =>
     br (decide ((y72 : Int) > 100))
      (need False (at? s2 s4) fun y73 =>
       c39 y73 s8 s9 s10 s11 s12 s13
        (fun z74 z75 z76 z77 z78 z79 z80 => br ((z74 : Int) != 4)
         (k1 false)
         (j6r33
          (fun z81 => k1 z81)
          (fun z82 z83 z84 z85 z86 z87 z88 z89 z90 z91 z92 z93 z94 z95 z96 z97 z98 => k2 z82 z83 z84 z85 z86 z87 z88 z89 z90 z91 z92 z93 z94 z95 z96 z97 z98)
          s1 s2 s3 s5 s6 s7 z75 z76 z77 z78 z79 z80 s14 s15 s16 s17 s18))
        (fun z99 z100 z101 z102 z103 z104 z105 z106 => br ((z99 : Int) != 4)
         (k1 false)
         (j6r33
          (fun z107 => k1 z107)
          (fun z108 z109 z110 z111 z112 z113 z114 z115 z116 z117 z118 z119 z120 z121 z122 z123 z124 => k2 z108 z109 z110 z111 z112 z113 z114 z115 z116 z117 z118 z119 z120 z121 z122 z123 z124)
          s1 s2 s3 s5 s6 s7 z100 z101 z102 z103 z104 z106 s14 s15 s16 s17 s18)))
      (need False (at? s2 s4) fun y125 =>
       c39 y125 s8 s9 s10 s11 s12 s13
        (fun z126 z127 z128 z129 z130 z131 z132 => br ((z126 : Int) != 0)
         (k1 false)
         (need False (at? s2 s4) fun y133 =>
          c40 s14 s15 s16 s17 y133 s18
           (fun z134 z135 z136 z137 z138 z139 => j6r33
            (fun z140 => k1 z140)
            (fun z141 z142 z143 z144 z145 z146 z147 z148 z149 z150 z151 z152 z153 z154 z155 z156 z157 => k2 z141 z142 z143 z144 z145 z146 z147 z148 z149 z150 z151 z152 z153 z154 z155 z156 z157)
            s1 s2 s3 s5 s6 s7 z127 z128 z129 z130 z131 z132 z134 z135 z136 z137 z139)))
        (fun z158 z159 z160 z161 z162 z163 z164 z165 => br ((z158 : Int) != 0)
         (k1 false)
         (need False (at? s2 s4) fun y166 =>
          c40 s14 s15 s16 s17 y166 s18
           (fun z167 z168 z169 z170 z171 z172 => j6r33
            (fun z173 => k1 z173)
            (fun z174 z175 z176 z177 z178 z179 z180 z181 z182 z183 z184 z185 z186 z187 z188 z189 z190 => k2 z174 z175 z176 z177 z178 z179 z180 z181 z182 z183 z184 z185 z186 z187 z188 z189 z190)
            s1 s2 s3 s5 s6 s7 z159 z160 z161 z162 z163 z165 z167 z168 z169 z170 z172))))))
  (j6r33
   (fun z191 => k1 z191)
   (fun z192 z193 z194 z195 z196 z197 z198 z199 z200 z201 z202 z203 z204 z205 z206 z207 z208 => k2 z192 z193 z194 z195 z196 z197 z198 z199 z200 z201 z202 z203 z204 z205 z206 z207 z208)
   s1 s2 s3 s5 s6 s7 s8 s9 s10 s11 s12 s13 s14 s15 s16 s17 s18)
structure j6r25 (k1 : Bool → Prop) (k2 : (List Int) → (List Int) → Int → (List (Int × Int × Int × Int × Int × Unit)) → Int → Int → Int → Int → Int → (List Int) → Int → (List Int) → Int → Int → Int → (List Int) → (List Int) → Prop) (s1 : List Int) (s2 : List Int) (s3 : Int) (s4 : Int) (s5 : List (Int × Int × Int × Int × Int × Unit)) (s6 : Int) (s7 : Int) (s8 : Int) (s9 : Int) (s10 : Int) (s11 : List Int) (s12 : Int) (s13 : List Int) (s14 : Int) (s15 : Int) (s16 : Int) (s17 : List Int) (s18 : List Int) : Prop where
  of : tj6r25 k1 k2 s1 s2 s3 s4 s5 s6 s7 s8 s9 s10 s11 s12 s13 s14 s15 s16 s17 s18

def tj6r19 (k1 : Bool → Prop) (k2 : (List Int) → (List Int) → Int → (List (Int × Int × Int × Int × Int × Unit)) → Int → Int → Int → Int → Int → (List Int) → Int → (List Int) → Int → Int → Int → (List Int) → (List Int) → Prop) (s1 : List Int) (s2 : List Int) (s3 : Int) (s4 : Int) (s5 : Int) (s6 : Int) (s7 : Int) (s8 : List (Int × Int × Int × Int × Int × Unit)) (s9 : Int) (s10 : Int) (s11 : Int) (s12 : Int) (s13 : Int) (s14 : List Int) (s15 : Int) (s16 : List Int) (s17 : Int) (s18 : Int) (s19 : Int) (s20 : List Int) (s21 : List Int) (s22 : Int × Int × Int × Int × Int × Unit) : Prop :=
  br ((s6 : Int) == 0)
  (c38 (s17, s18, s19, s20, s21, ()) s22 s5
   (fun z23 z24 z25 z26 z27 z28 => br ((z27 : Int) != s7)
    (k1 false)
    (j6r25
     (fun z29 => k1 z29)
     (fun z30 z31 z32 z33 z34 z35 z36 z37 z38 z39 z40 z41 z42 z43 z44 z45 z46 => k2 z30 z31 z32 z33 z34 z35 z36 z37 z38 z39 z40 z41 z42 z43 z44 z45 z46)
     s1 s2 (IntKind.wrap .i64 (s3 + 1)) s4 s8 s9 s10 s11 s12 s13 s14 s15 s16 z23 z24 z25 z26 z28)))
  (j6r25
   (fun z47 => k1 z47)
   (fun z48 z49 z50 z51 z52 z53 z54 z55 z56 z57 z58 z59 z60 z61 z62 z63 z64 => k2 z48 z49 z50 z51 z52 z53 z54 z55 z56 z57 z58 z59 z60 z61 z62 z63 z64)
   s1 s2 s3 s4 s8 s9 s10 s11 s12 s13 s14 s15 s16 s17 s18 s19 s20 s21)
structure j6r19 (k1 : Bool → Prop) (k2 : (List Int) → (List Int) → Int → (List (Int × Int × Int × Int × Int × Unit)) → Int → Int → Int → Int → Int → (List Int) → Int → (List Int) → Int → Int → Int → (List Int) → (List Int) → Prop) (s1 : List Int) (s2 : List Int) (s3 : Int) (s4 : Int) (s5 : Int) (s6 : Int) (s7 : Int) (s8 : List (Int × Int × Int × Int × Int × Unit)) (s9 : Int) (s10 : Int) (s11 : Int) (s12 : Int) (s13 : Int) (s14 : List Int) (s15 : Int) (s16 : List Int) (s17 : Int) (s18 : Int) (s19 : Int) (s20 : List Int) (s21 : List Int) (s22 : Int × Int × Int × Int × Int × Unit) : Prop where
  of : tj6r19 k1 k2 s1 s2 s3 s4 s5 s6 s7 s8 s9 s10 s11 s12 s13 s14 s15 s16 s17 s18 s19 s20 s21 s22

def tj6r16 (k1 : Bool → Prop) (k2 : (List Int) → (List Int) → Int → (List (Int × Int × Int × Int × Int × Unit)) → Int → Int → Int → Int → Int → (List Int) → Int → (List Int) → Int → Int → Int → (List Int) → (List Int) → Prop) (s1 : List Int) (s2 : List Int) (s3 : Int) (s4 : Int) (s5 : Int) (s6 : Int) (s7 : List (Int × Int × Int × Int × Int × Unit)) (s8 : Int) (s9 : Int) (s10 : Int) (s11 : Int) (s12 : Int) (s13 : List Int) (s14 : Int) (s15 : List Int) (s16 : Int) (s17 : Int) (s18 : Int) (s19 : List Int) (s20 : List Int) (s21 : Int × Int × Int × Int × Int × Unit) : Prop :=
  c36v2 s21 s5 s10 s11 s12 s13 s14 s15
  (fun z22 z23 z24 z25 z26 z27 z28 z29 => br ((z23 : Int) != s6)
   (k1 false)
   (br ((s6 : Int) != 0)
    (br ((z22 : Int) != 0)
     (k1 false)
     (j6r19
      (fun z30 => k1 z30)
      (fun z31 z32 z33 z34 z35 z36 z37 z38 z39 z40 z41 z42 z43 z44 z45 z46 z47 => k2 z31 z32 z33 z34 z35 z36 z37 z38 z39 z40 z41 z42 z43 z44 z45 z46 z47)
      s1 s2 s3 s4 s5 s6 z22 s7 s8 s9 z24 z25 z26 z27 z28 z29 s16 s17 s18 s19 s20 s21))
    (j6r19
     (fun z48 => k1 z48)
     (fun z49 z50 z51 z52 z53 z54 z55 z56 z57 z58 z59 z60 z61 z62 z63 z64 z65 => k2 z49 z50 z51 z52 z53 z54 z55 z56 z57 z58 z59 z60 z61 z62 z63 z64 z65)
     s1 s2 s3 s4 s5 s6 z22 s7 s8 s9 z24 z25 z26 z27 z28 z29 s16 s17 s18 s19 s20 s21)))
  (fun z66 z67 z68 z69 z70 z71 z72 z73 z74 => br ((z67 : Int) != s6)
   (k1 false)
   (br ((s6 : Int) != 0)
    (br ((z66 : Int) != 0)
     (k1 false)
     (j6r19
      (fun z75 => k1 z75)
      (fun z76 z77 z78 z79 z80 z81 z82 z83 z84 z85 z86 z87 z88 z89 z90 z91 z92 => k2 z76 z77 z78 z79 z80 z81 z82 z83 z84 z85 z86 z87 z88 z89 z90 z91 z92)
      s1 s2 s3 s4 s5 s6 z66 s7 s8 s9 z68 z69 z70 z71 z72 z74 s16 s17 s18 s19 s20 s21))
    (j6r19
     (fun z93 => k1 z93)
     (fun z94 z95 z96 z97 z98 z99 z100 z101 z102 z103 z104 z105 z106 z107 z108 z109 z110 => k2 z94 z95 z96 z97 z98 z99 z100 z101 z102 z103 z104 z105 z106 z107 z108 z109 z110)
     s1 s2 s3 s4 s5 s6 z66 s7 s8 s9 z68 z69 z70 z71 z72 z74 s16 s17 s18 s19 s20 s21)))
structure j6r16 (k1 : Bool → Prop) (k2 : (List Int) → (List Int) → Int → (List (Int × Int × Int × Int × Int × Unit)) → Int → Int → Int → Int → Int → (List Int) → Int → (List Int) → Int → Int → Int → (List Int) → (List Int) → Prop) (s1 : List Int) (s2 : List Int) (s3 : Int) (s4 : Int) (s5 : Int) (s6 : Int) (s7 : List (Int × Int × Int × Int × Int × Unit)) (s8 : Int) (s9 : Int) (s10 : Int) (s11 : Int) (s12 : Int) (s13 : List Int) (s14 : Int) (s15 : List Int) (s16 : Int) (s17 : Int) (s18 : Int) (s19 : List Int) (s20 : List Int) (s21 : Int × Int × Int × Int × Int × Unit) : Prop where
  of : tj6r16 k1 k2 s1 s2 s3 s4 s5 s6 s7 s8 s9 s10 s11 s12 s13 s14 s15 s16 s17 s18 s19 s20 s21

def tj6r13 (k1 : Bool → Prop) (k2 : (List Int) → (List Int) → Int → (List (Int × Int × Int × Int × Int × Unit)) → Int → Int → Int → Int → Int → (List Int) → Int → (List Int) → Int → Int → Int → (List Int) → (List Int) → Prop) (s1 : List Int) (s2 : List Int) (s3 : Int) (s4 : Int) (s5 : Int) (s6 : List (Int × Int × Int × Int × Int × Unit)) (s7 : Int) (s8 : Int) (s9 : Int) (s10 : Int) (s11 : Int) (s12 : List Int) (s13 : Int) (s14 : List Int) (s15 : Int) (s16 : Int) (s17 : Int) (s18 : List Int) (s19 : List Int) (s20 : Int × Int × Int × Int × Int × Unit) : Prop :=
  c37 s20
  (fun z21 => br ((z21 : Int) == 0)
   (br (decide ((s5 : Int) < 0))
    (j6r16
     (fun z22 => k1 z22)
     (fun z23 z24 z25 z26 z27 z28 z29 z30 z31 z32 z33 z34 z35 z36 z37 z38 z39 => k2 z23 z24 z25 z26 z27 z28 z29 z30 z31 z32 z33 z34 z35 z36 z37 z38 z39)
     s1 s2 s3 s4 s5 1 s6 s7 s8 s9 s10 s11 s12 s13 s14 s15 s16 s17 s18 s19 s20)
    (br (decide ((s5 : Int) > 10000))
     (j6r16
      (fun z40 => k1 z40)
      (fun z41 z42 z43 z44 z45 z46 z47 z48 z49 z50 z51 z52 z53 z54 z55 z56 z57 => k2 z41 z42 z43 z44 z45 z46 z47 z48 z49 z50 z51 z52 z53 z54 z55 z56 z57)
      s1 s2 s3 s4 s5 1 s6 s7 s8 s9 s10 s11 s12 s13 s14 s15 s16 s17 s18 s19 s20)
     (j6r16
      (fun z58 => k1 z58)
      (fun z59 z60 z61 z62 z63 z64 z65 z66 z67 z68 z69 z70 z71 z72 z73 z74 z75 => k2 z59 z60 z61 z62 z63 z64 z65 z66 z67 z68 z69 z70 z71 z72 z73 z74 z75)
      s1 s2 s3 s4 s5 z21 s6 s7 s8 s9 s10 s11 s12 s13 s14 s15 s16 s17 s18 s19 s20)))
   (j6r16
    (fun z76 => k1 z76)
    (fun z77 z78 z79 z80 z81 z82 z83 z84 z85 z86 z87 z88 z89 z90 z91 z92 z93 => k2 z77 z78 z79 z80 z81 z82 z83 z84 z85 z86 z87 z88 z89 z90 z91 z92 z93)
    s1 s2 s3 s4 s5 z21 s6 s7 s8 s9 s10 s11 s12 s13 s14 s15 s16 s17 s18 s19 s20))
structure j6r13 (k1 : Bool → Prop) (k2 : (List Int) → (List Int) → Int → (List (Int × Int × Int × Int × Int × Unit)) → Int → Int → Int → Int → Int → (List Int) → Int → (List Int) → Int → Int → Int → (List Int) → (List Int) → Prop) (s1 : List Int) (s2 : List Int) (s3 : Int) (s4 : Int) (s5 : Int) (s6 : List (Int × Int × Int × Int × Int × Unit)) (s7 : Int) (s8 : Int) (s9 : Int) (s10 : Int) (s11 : Int) (s12 : List Int) (s13 : Int) (s14 : List Int) (s15 : Int) (s16 : Int) (s17 : Int) (s18 : List Int) (s19 : List Int) (s20 : Int × Int × Int × Int × Int × Unit) : Prop where
  of : tj6r13 k1 k2 s1 s2 s3 s4 s5 s6 s7 s8 s9 s10 s11 s12 s13 s14 s15 s16 s17 s18 s19 s20

def tl6r8 (k1 : Bool → Prop) (k2 : Prop) (s1 : List Int) (s2 : List Int) (s3 : Int) (s4 : List (Int × Int × Int × Int × Int × Unit)) (s5 : Int) (s6 : Int) (s7 : Int) (s8 : Int) (s9 : Int) (s10 : List Int) (s11 : Int) (s12 : List Int) (s13 : Int) (s14 : Int) (s15 : Int) (s16 : List Int) (s17 : List Int) : Prop :=
  ∀ (I1 : (List Int) → (List Int) → Int → (List (Int × Int × Int × Int × Int × Unit)) → Int → Int → Int → Int → Int → (List Int) → Int → (List Int) → Int → Int → Int → (List Int) → (List Int) → Prop),
    (∀ (s1 : List Int) (s2 : List Int) (s3 : Int) (s4 : List (Int × Int × Int × Int × Int × Unit)) (s5 : Int) (s6 : Int) (s7 : Int) (s8 : Int) (s9 : Int) (s10 : List Int) (s11 : Int) (s12 : List Int) (s13 : Int) (s14 : Int) (s15 : Int) (s16 : List Int) (s17 : List Int), (br (decide ((s6 : Int) < s5))
    (need False (at? s4 s6) fun y18 =>
     br (decide ((s6 : Int) < (((List.length s1) : Nat) : Int)))
      (need False (at? s1 s6) fun y19 =>
       j6r13
        (fun z20 => k1 z20)
        (fun z21 z22 z23 z24 z25 z26 z27 z28 z29 z30 z31 z32 z33 z34 z35 z36 z37 => I1 z21 z22 z23 z24 z25 (IntKind.wrap .i64 (z26 + 1)) z27 z28 z29 z30 z31 z32 z33 z34 z35 z36 z37)
        s1 s2 s3 s6 y19 s4 s5 s6 s7 s8 s9 s10 s11 s12 s13 s14 s15 s16 s17 y18)
      (j6r13
       (fun z38 => k1 z38)
       (fun z39 z40 z41 z42 z43 z44 z45 z46 z47 z48 z49 z50 z51 z52 z53 z54 z55 => I1 z39 z40 z41 z42 z43 (IntKind.wrap .i64 (z44 + 1)) z45 z46 z47 z48 z49 z50 z51 z52 z53 z54 z55)
       s1 s2 s3 s6 0 s4 s5 s6 s7 s8 s9 s10 s11 s12 s13 s14 s15 s16 s17 y18))
    (k2)) → I1 s1 s2 s3 s4 s5 s6 s7 s8 s9 s10 s11 s12 s13 s14 s15 s16 s17) →
    I1 s1 s2 s3 s4 s5 s6 s7 s8 s9 s10 s11 s12 s13 s14 s15 s16 s17
structure l6r8 (k1 : Bool → Prop) (k2 : Prop) (s1 : List Int) (s2 : List Int) (s3 : Int) (s4 : List (Int × Int × Int × Int × Int × Unit)) (s5 : Int) (s6 : Int) (s7 : Int) (s8 : Int) (s9 : Int) (s10 : List Int) (s11 : Int) (s12 : List Int) (s13 : Int) (s14 : Int) (s15 : Int) (s16 : List Int) (s17 : List Int) : Prop where
  of : tl6r8 k1 k2 s1 s2 s3 s4 s5 s6 s7 s8 s9 s10 s11 s12 s13 s14 s15 s16 s17

def tj6r2 (k1 : Bool → Prop) (s1 : List (Int × Int × Int × Int × Int × Unit)) (s2 : List Int) (s3 : List Int) (s4 : Int) (s5 : Int) (s6 : Int) (s7 : List Int) (s8 : Int) (s9 : List Int) : Prop :=
  c35 
  (fun z10 z11 z12 z13 z14 => c36 (1, 1, 0, 0, 0, ()) 0 z10 z11 z12 z13 z14
   (fun z15 z16 z17 z18 z19 z20 z21 => br ((z16 : Int) != 0)
    (k1 false)
    (br ((z15 : Int) != 0)
     (k1 false)
     (br (decide ((0 : Int) ≤ 0 ∧ (0 : Int) ≤ (minI (((List.length s1) : Nat) : Int) 60) ∧ ((minI (((List.length s1) : Nat) : Int) 60) : Int) ≤ (((List.length s1) : Nat) : Int)))
      (l6r8
       (fun z22 => k1 z22)
       (k1 true)
       s2 s3 0 (List.drop 0 (List.take (Int.toNat (minI (((List.length s1) : Nat) : Int) 60)) s1)) (((List.length (List.drop 0 (List.take (Int.toNat (minI (((List.length s1) : Nat) : Int) 60)) s1))) : Nat) : Int) 0 s4 s5 s6 s7 s8 s9 0 0 0 [0, 0, 0, 0, 0, 0, 0, 0, 0, 0, 0, 0, 0, 0, 0, 0] [])
      (False /- 79 -/))))
   (fun z23 z24 z25 z26 z27 z28 z29 z30 => br ((z24 : Int) != 0)
    (k1 false)
    (br ((z23 : Int) != 0)
     (k1 false)
     (br (decide ((0 : Int) ≤ 0 ∧ (0 : Int) ≤ (minI (((List.length s1) : Nat) : Int) 60) ∧ ((minI (((List.length s1) : Nat) : Int) 60) : Int) ≤ (((List.length s1) : Nat) : Int)))
      (l6r8
       (fun z31 => k1 z31)
       (k1 true)
       s2 s3 0 (List.drop 0 (List.take (Int.toNat (minI (((List.length s1) : Nat) : Int) 60)) s1)) (((List.length (List.drop 0 (List.take (Int.toNat (minI (((List.length s1) : Nat) : Int) 60)) s1))) : Nat) : Int) 0 s4 s5 s6 s7 s8 s9 0 0 0 [0, 0, 0, 0, 0, 0, 0, 0, 0, 0, 0, 0, 0, 0, 0, 0] [])
      (False /- 79 -/)))))
structure j6r2 (k1 : Bool → Prop) (s1 : List (Int × Int × Int × Int × Int × Unit)) (s2 : List Int) (s3 : List Int) (s4 : Int) (s5 : Int) (s6 : Int) (s7 : List Int) (s8 : Int) (s9 : List Int) : Prop where
  of : tj6r2 k1 s1 s2 s3 s4 s5 s6 s7 s8 s9

def tc6 (x1 : List (Int × Int × Int × Int × Int × Unit)) (x2 : List Int) (x3 : List Int) (k1 : Bool → Prop) : Prop :=
  c35 
  (fun z4 z5 z6 z7 z8 => j6r2
   (fun z9 => k1 z9)
   x1 x2 x3 z4 z5 z6 z7 z8 [])
structure c6 (x1 : List (Int × Int × Int × Int × Int × Unit)) (x2 : List Int) (x3 : List Int) (k1 : Bool → Prop) : Prop where
  of : tc6 x1 x2 x3 k1

end Go.Proofs.Ytfheeikjlehikaa
