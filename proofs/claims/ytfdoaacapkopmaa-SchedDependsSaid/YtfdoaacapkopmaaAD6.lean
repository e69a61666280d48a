/- What the functions compute, as plain Lean (printed by a program). -/
import Derived.Test.YtfdoaacapkopmaaATypT
namespace Go.Proofs.Ytfdoaacapkopmaa
open Go.Abs
set_option linter.unusedVariables false
def tc107 (x1 : Int) (k1 : Bool → Prop) : Prop :=
  br ((x1 : Int) == 14)
  (k1 true)
  (br ((x1 : Int) == 15)
   (k1 true)
   (br ((x1 : Int) == 23)
    (k1 true)
    (br ((x1 : Int) == 4)
     (k1 true)
     (k1 ((x1 : Int) == 5)))))
structure c107 (x1 : Int) (k1 : Bool → Prop) : Prop where
  of : tc107 x1 k1

def tc81 (x1 : Int × Int × Int × Int × Int × Unit) (k1 : Int → Prop) : Prop :=
  br ((x1.1 : Int) == 20)
  (k1 15)
  (br ((x1.1 : Int) == 21)
   (k1 15)
   (br ((x1.1 : Int) == 0)
    (k1 0)
    (br ((x1.1 : Int) == 13)
     (k1 0)
     (br ((x1.1 : Int) == 16)
      (k1 0)
      (br ((x1.1 : Int) == 17)
       (k1 0)
       (br ((x1.1 : Int) == 18)
        (k1 0)
        (br ((x1.1 : Int) == 19)
         (k1 0)
         (br ((x1.1 : Int) == 22)
          (k1 0)
          (br ((x1.1 : Int) == 23)
           (k1 0)
           (br ((x1.1 : Int) == 24)
            (k1 0)
            (k1 x1.2.1)))))))))))
structure c81 (x1 : Int × Int × Int × Int × Int × Unit) (k1 : Int → Prop) : Prop where
  of : tc81 x1 k1

def tl140r1 (k1 : (List Int) → Prop) (s1 : List Int) (s2 : Int) (s3 : Int) (s4 : List Int) : Prop :=
  ∀ (I1 : (List Int) → Int → Int → (List Int) → Prop),
    (∀ (s1 : List Int) (s2 : Int) (s3 : Int) (s4 : List Int), (br (decide (s3 < s2))
    (need False (at? s1 s3) fun y5 =>
     br ((y5 : Int) != 0)
      (br (roomB ((List.length s4) + 1) 8)
       (I1 s1 s2 (IntKind.wrap .i64 (s3 + 1)) (s4 ++ [y5]))
       (False /- 61 -/))
      (I1 s1 s2 (IntKind.wrap .i64 (s3 + 1)) s4))
    (k1 s4)) → I1 s1 s2 s3 s4) →
    I1 s1 s2 s3 s4
structure l140r1 (k1 : (List Int) → Prop) (s1 : List Int) (s2 : Int) (s3 : Int) (s4 : List Int) : Prop where
  of : tl140r1 k1 s1 s2 s3 s4

def tc140 (x1 : List Int) (k1 : (List Int) → Prop) : Prop :=
  l140r1
  (fun z2 => k1 z2)
  x1 (((List.length x1) : Nat) : Int) 0 []
structure c140 (x1 : List Int) (k1 : (List Int) → Prop) : Prop where
  of : tc140 x1 k1

def tc83 (x1 : Int × Int × Int × Int × Int × Unit) (k1 : (List Int) → Prop) : Prop :=
  br ((x1.1 : Int) == 0)
  (c140 [1]
   (fun z2 => k1 z2))
  (br ((x1.1 : Int) == 22)
   (c140 [15]
    (fun z3 => k1 z3))
   (br ((x1.1 : Int) == 1)
    (c140 [x1.2.2.1, x1.2.2.2.1]
     (fun z4 => k1 z4))
    (br ((x1.1 : Int) == 2)
     (c140 [x1.2.2.1, x1.2.2.2.1]
      (fun z5 => k1 z5))
     (br ((x1.1 : Int) == 3)
      (c140 [x1.2.2.1, x1.2.2.2.1]
       (fun z6 => k1 z6))
      (br ((x1.1 : Int) == 4)
       (c140 [x1.2.2.1, x1.2.2.2.1]
        (fun z7 => k1 z7))
       (br ((x1.1 : Int) == 5)
        (c140 [x1.2.2.1, x1.2.2.2.1]
         (fun z8 => k1 z8))
        (br ((x1.1 : Int) == 6)
         (c140 [x1.2.2.1, x1.2.2.2.1]
          (fun z9 => k1 z9))
         (br ((x1.1 : Int) == 7)
          (c140 [x1.2.2.1, x1.2.2.2.1]
           (fun z10 => k1 z10))
          (br ((x1.1 : Int) == 13)
           (c140 [x1.2.2.1, x1.2.2.2.1]
            (fun z11 => k1 z11))
           (br ((x1.1 : Int) == 15)
            (c140 [x1.2.2.1, x1.2.2.2.1]
             (fun z12 => k1 z12))
            (br ((x1.1 : Int) == 16)
             (c140 [x1.2.2.1, x1.2.2.2.1]
              (fun z13 => k1 z13))
             (br ((x1.1 : Int) == 17)
              (c140 [x1.2.2.1, x1.2.2.2.1]
               (fun z14 => k1 z14))
              (br ((x1.1 : Int) == 18)
               (c140 [x1.2.2.1, x1.2.2.2.1]
                (fun z15 => k1 z15))
               (br ((x1.1 : Int) == 8)
                (c140 [x1.2.2.1]
                 (fun z16 => k1 z16))
                (br ((x1.1 : Int) == 9)
                 (c140 [x1.2.2.1]
                  (fun z17 => k1 z17))
                 (br ((x1.1 : Int) == 10)
                  (c140 [x1.2.2.1]
                   (fun z18 => k1 z18))
                  (br ((x1.1 : Int) == 12)
                   (c140 [x1.2.2.1]
                    (fun z19 => k1 z19))
                   (br ((x1.1 : Int) == 21)
                    (c140 [x1.2.2.1]
                     (fun z20 => k1 z20))
                    (br ((x1.1 : Int) == 23)
                     (c140 [x1.2.2.1]
                      (fun z21 => k1 z21))
                     (br ((x1.1 : Int) == 14)
                      (c140 [x1.2.2.2.1]
                       (fun z22 => k1 z22))
                      (k1 [])))))))))))))))))))))
structure c83 (x1 : Int × Int × Int × Int × Int × Unit) (k1 : (List Int) → Prop) : Prop where
  of : tc83 x1 k1

def tl36r7 (k1 : Bool → Prop) (k2 : Int → (Int × Int × Int × Int × Int × Unit) → (Int × Int × Int × Int × Int × Unit) → Prop) (s1 : Int) (s2 : Int) (s3 : Int) (s4 : Int) (s5 : Int × Int × Int × Int × Int × Unit) (s6 : Int × Int × Int × Int × Int × Unit) (s7 : List Int) : Prop :=
  ∀ (I1 : Int → Int → Int → Int → (Int × Int × Int × Int × Int × Unit) → (Int × Int × Int × Int × Int × Unit) → (List Int) → Prop),
    (∀ (s1 : Int) (s2 : Int) (s3 : Int) (s4 : Int) (s5 : Int × Int × Int × Int × Int × Unit) (s6 : Int × Int × Int × Int × Int × Unit) (s7 : List Int), (br (decide (s4 < s3))
    (br (decide (0 ≤ s4 ∧ s4 < (((List.length s7) : Nat) : Int)))
     (need False (s7)[(Int.toNat s4)]? fun y8 =>
      br ((y8 : Int) == s1)
       (k1 true)
       (I1 s1 s2 s3 (IntKind.wrap .i64 (s4 + 1)) s5 s6 s7))
     (False /- 39 -/))
    (k2 s2 s5 s6)) → I1 s1 s2 s3 s4 s5 s6 s7) →
    I1 s1 s2 s3 s4 s5 s6 s7
structure l36r7 (k1 : Bool → Prop) (k2 : Int → (Int × Int × Int × Int × Int × Unit) → (Int × Int × Int × Int × Int × Unit) → Prop) (s1 : Int) (s2 : Int) (s3 : Int) (s4 : Int) (s5 : Int × Int × Int × Int × Int × Unit) (s6 : Int × Int × Int × Int × Int × Unit) (s7 : List Int) : Prop where
  of : tl36r7 k1 k2 s1 s2 s3 s4 s5 s6 s7

def tl36r13 (k1 : Bool → Prop) (k2 : (Int × Int × Int × Int × Int × Unit) → (Int × Int × Int × Int × Int × Unit) → Prop) (s1 : Int) (s2 : Int) (s3 : Int) (s4 : Int × Int × Int × Int × Int × Unit) (s5 : Int × Int × Int × Int × Int × Unit) (s6 : List Int) : Prop :=
  ∀ (I1 : Int → Int → Int → (Int × Int × Int × Int × Int × Unit) → (Int × Int × Int × Int × Int × Unit) → (List Int) → Prop),
    (∀ (s1 : Int) (s2 : Int) (s3 : Int) (s4 : Int × Int × Int × Int × Int × Unit) (s5 : Int × Int × Int × Int × Int × Unit) (s6 : List Int), (br (decide (s3 < s2))
    (br (decide (0 ≤ s3 ∧ s3 < (((List.length s6) : Nat) : Int)))
     (need False (s6)[(Int.toNat s3)]? fun y7 =>
      br ((y7 : Int) == s1)
       (k1 true)
       (I1 s1 s2 (IntKind.wrap .i64 (s3 + 1)) s4 s5 s6))
     (False /- 39 -/))
    (k2 s4 s5)) → I1 s1 s2 s3 s4 s5 s6) →
    I1 s1 s2 s3 s4 s5 s6
structure l36r13 (k1 : Bool → Prop) (k2 : (Int × Int × Int × Int × Int × Unit) → (Int × Int × Int × Int × Int × Unit) → Prop) (s1 : Int) (s2 : Int) (s3 : Int) (s4 : Int × Int × Int × Int × Int × Unit) (s5 : Int × Int × Int × Int × Int × Unit) (s6 : List Int) : Prop where
  of : tl36r13 k1 k2 s1 s2 s3 s4 s5 s6

def tc108 (x1 : Int) (k1 : Bool → Prop) : Prop :=
  br ((x1 : Int) == 12)
  (k1 true)
  (k1 ((x1 : Int) == 13))
structure c108 (x1 : Int) (k1 : Bool → Prop) : Prop where
  of : tc108 x1 k1

def tc36 (x1 : Int × Int × Int × Int × Int × Unit) (x2 : Int × Int × Int × Int × Int × Unit) (k1 : Bool → Prop) : Prop :=
  c107 x1.1
  (fun z3 => br (z3)
   (k1 true)
   (c107 x2.1
    (fun z4 => br (z4)
     (k1 true)
     (c81 x1
      (fun z5 => br (eqT opT x2 x2)
       (c81 x2
        (fun z6 => br ((z5 : Int) != 0)
         (br ((z5 : Int) == z6)
          (k1 true)
          (c83 x2
           (fun z7 => l36r7
            (fun z8 => k1 z8)
            (fun z9 z10 z11 => c83 z10
             (fun z12 => l36r13
              (fun z13 => k1 z13)
              (fun z14 z15 => c108 z14.1
               (fun z16 => br (z16)
                (c108 z15.1
                 (fun z17 => k1 z17))
                (k1 false)))
              z9 (((List.length z12) : Nat) : Int) 0 z10 z11 z12))
            z5 z6 (((List.length z7) : Nat) : Int) 0 x1 x2 z7)))
         (c83 x2
          (fun z18 => l36r7
           (fun z19 => k1 z19)
           (fun z20 z21 z22 => c83 z21
            (fun z23 => l36r13
             (fun z24 => k1 z24)
             (fun z25 z26 => c108 z25.1
              (fun z27 => br (z27)
               (c108 z26.1
                (fun z28 => k1 z28))
               (k1 false)))
             z20 (((List.length z23) : Nat) : Int) 0 z21 z22 z23))
           z5 z6 (((List.length z18) : Nat) : Int) 0 x1 x2 z18))))
       (False /- 942 -/))))))
structure c36 (x1 : Int × Int × Int × Int × Int × Unit) (x2 : Int × Int × Int × Int × Int × Unit) (k1 : Bool → Prop) : Prop where
  of : tc36 x1 x2 k1

def tc103 (x1 : Int) (x2 : Int) (x3 : Int) (k1 : Bool → Prop) : Prop :=
  br (decide (x1 ≥ x2))
  (k1 (decide (x1 ≤ x3)))
  (k1 false)
structure c103 (x1 : Int) (x2 : Int) (x3 : Int) (k1 : Bool → Prop) : Prop where
  of : tc103 x1 x2 x3 k1

def tc104 (x1 : Int) (k1 : (Bool × Bool × Bool × Bool × Unit) → Prop) : Prop :=
  br ((x1 : Int) == 0)
  (k1 (false, false, false, false, ()))
  (br ((x1 : Int) == 22)
   (k1 (false, false, false, false, ()))
   (br ((x1 : Int) == 1)
    (k1 (true, true, true, false, ()))
    (br ((x1 : Int) == 2)
     (k1 (true, true, true, false, ()))
     (br ((x1 : Int) == 3)
      (k1 (true, true, true, false, ()))
      (br ((x1 : Int) == 4)
       (k1 (true, true, true, false, ()))
       (br ((x1 : Int) == 5)
        (k1 (true, true, true, false, ()))
        (br ((x1 : Int) == 6)
         (k1 (true, true, true, false, ()))
         (br ((x1 : Int) == 7)
          (k1 (true, true, true, false, ()))
          (br ((x1 : Int) == 15)
           (k1 (true, true, true, false, ()))
           (br ((x1 : Int) == 8)
            (k1 (true, true, false, true, ()))
            (br ((x1 : Int) == 9)
             (k1 (true, true, false, true, ()))
             (br ((x1 : Int) == 10)
              (k1 (true, true, false, true, ()))
              (br ((x1 : Int) == 12)
               (k1 (true, true, false, true, ()))
               (br ((x1 : Int) == 11)
                (k1 (true, false, false, true, ()))
                (br ((x1 : Int) == 13)
                 (k1 (false, true, true, true, ()))
                 (br ((x1 : Int) == 16)
                  (k1 (false, true, true, true, ()))
                  (br ((x1 : Int) == 17)
                   (k1 (false, true, true, true, ()))
                   (br ((x1 : Int) == 18)
                    (k1 (false, true, true, true, ()))
                    (br ((x1 : Int) == 14)
                     (k1 (true, false, true, true, ()))
                     (br ((x1 : Int) == 19)
                      (k1 (false, false, false, true, ()))
                      (br ((x1 : Int) == 20)
                       (k1 (false, false, false, true, ()))
                       (br ((x1 : Int) == 24)
                        (k1 (false, false, false, true, ()))
                        (k1 (false, true, false, false, ()))))))))))))))))))))))))
structure c104 (x1 : Int) (k1 : (Bool × Bool × Bool × Bool × Unit) → Prop) : Prop where
  of : tc104 x1 k1

def tc25 (x1 : Int × Int × Int × Int × Int × Unit) (k1 : Int → Prop) : Prop :=
  c103 x1.1 0 24
  (fun z2 => br (!z2)
   (k1 1)
   (c103 x1.2.1 0 15
    (fun z3 => br (!z3)
     (k1 4)
     (c103 x1.2.2.1 0 15
      (fun z4 => br (!z4)
       (k1 4)
       (c103 x1.2.2.2.1 0 15
        (fun z5 => br (!z5)
         (k1 4)
         (c103 x1.2.2.2.2.1 (-2147483648) 2147483647
          (fun z6 => br (!z6)
           (k1 4)
           (c104 x1.1
            (fun z7 => br (!z7.1)
             (br ((x1.2.1 : Int) != 0)
              (k1 3)
              (br (!z7.2.1)
               (br ((x1.2.2.1 : Int) != 0)
                (k1 3)
                (br (!z7.2.2.1)
                 (br ((x1.2.2.2.1 : Int) != 0)
                  (k1 3)
                  (br (!z7.2.2.2.1)
                   (br ((x1.2.2.2.2.1 : Int) != 0)
                    (k1 3)
                    (br ((x1.1 : Int) == 9)
                     (c103 x1.2.2.2.2.1 0 31
                      (fun z8 => br (!z8)
                       (k1 4)
                       (br ((x1.1 : Int) == 14)
                        (c103 x1.2.2.2.2.1 0 4095
                         (fun z9 => br (!z9)
                          (k1 4)
                          (br ((x1.1 : Int) == 24)
                           (c103 x1.2.2.2.2.1 1 6
                            (fun z10 => br (!z10)
                             (k1 4)
                             (k1 0)))
                           (k1 0))))
                        (br ((x1.1 : Int) == 24)
                         (c103 x1.2.2.2.2.1 1 6
                          (fun z11 => br (!z11)
                           (k1 4)
                           (k1 0)))
                         (k1 0)))))
                     (br ((x1.1 : Int) == 10)
                      (c103 x1.2.2.2.2.1 0 31
                       (fun z12 => br (!z12)
                        (k1 4)
                        (br ((x1.1 : Int) == 14)
                         (c103 x1.2.2.2.2.1 0 4095
                          (fun z13 => br (!z13)
                           (k1 4)
                           (br ((x1.1 : Int) == 24)
                            (c103 x1.2.2.2.2.1 1 6
                             (fun z14 => br (!z14)
                              (k1 4)
                              (k1 0)))
                            (k1 0))))
                         (br ((x1.1 : Int) == 24)
                          (c103 x1.2.2.2.2.1 1 6
                           (fun z15 => br (!z15)
                            (k1 4)
                            (k1 0)))
                          (k1 0)))))
                      (br ((x1.1 : Int) == 14)
                       (c103 x1.2.2.2.2.1 0 4095
                        (fun z16 => br (!z16)
                         (k1 4)
                         (br ((x1.1 : Int) == 24)
                          (c103 x1.2.2.2.2.1 1 6
                           (fun z17 => br (!z17)
                            (k1 4)
                            (k1 0)))
                          (k1 0))))
                       (br ((x1.1 : Int) == 24)
                        (c103 x1.2.2.2.2.1 1 6
                         (fun z18 => br (!z18)
                          (k1 4)
                          (k1 0)))
                        (k1 0))))))
                   (br ((x1.1 : Int) == 9)
                    (c103 x1.2.2.2.2.1 0 31
                     (fun z19 => br (!z19)
                      (k1 4)
                      (br ((x1.1 : Int) == 14)
                       (c103 x1.2.2.2.2.1 0 4095
                        (fun z20 => br (!z20)
                         (k1 4)
                         (br ((x1.1 : Int) == 24)
                          (c103 x1.2.2.2.2.1 1 6
                           (fun z21 => br (!z21)
                            (k1 4)
                            (k1 0)))
                          (k1 0))))
                       (br ((x1.1 : Int) == 24)
                        (c103 x1.2.2.2.2.1 1 6
                         (fun z22 => br (!z22)
                          (k1 4)
                          (k1 0)))
                        (k1 0)))))
                    (br ((x1.1 : Int) == 10)
                     (c103 x1.2.2.2.2.1 0 31
                      (fun z23 => br (!z23)
                       (k1 4)
                       (br ((x1.1 : Int) == 14)
                        (c103 x1.2.2.2.2.1 0 4095
                         (fun z24 => br (!z24)
                          (k1 4)
                          (br ((x1.1 : Int) == 24)
                           (c103 x1.2.2.2.2.1 1 6
                            (fun z25 => br (!z25)
                             (k1 4)
                             (k1 0)))
                           (k1 0))))
                        (br ((x1.1 : Int) == 24)
                         (c103 x1.2.2.2.2.1 1 6
                          (fun z26 => br (!z26)
                           (k1 4)
                           (k1 0)))
                         (k1 0)))))
                     (br ((x1.1 : Int) == 14)
                      (c103 x1.2.2.2.2.1 0 4095
                       (fun z27 => br (!z27)
                        (k1 4)
                        (br ((x1.1 : Int) == 24)
                         (c103 x1.2.2.2.2.1 1 6
                          (fun z28 => br (!z28)
                           (k1 4)
                           (k1 0)))
                         (k1 0))))
                      (br ((x1.1 : Int) == 24)
                       (c103 x1.2.2.2.2.1 1 6
                        (fun z29 => br (!z29)
                         (k1 4)
                         (k1 0)))
                       (k1 0)))))))
                 (br (!z7.2.2.2.1)
                  (br ((x1.2.2.2.2.1 : Int) != 0)
                   (k1 3)
                   (br ((x1.1 : Int) == 9)
                    (c103 x1.2.2.2.2.1 0 31
                     (fun z30 => br (!z30)
                      (k1 4)
                      (br ((x1.1 : Int) == 14)
                       (c103 x1.2.2.2.2.1 0 4095
                        (fun z31 => br (!z31)
                         (k1 4)
                         (br ((x1.1 : Int) == 24)
                          (c103 x1.2.2.2.2.1 1 6
                           (fun z32 => br (!z32)
                            (k1 4)
                            (k1 0)))
                          (k1 0))))
                       (br ((x1.1 : Int) == 24)
                        (c103 x1.2.2.2.2.1 1 6
                         (fun z33 => br (!z33)
                          (k1 4)
                          (k1 0)))
                        (k1 0)))))
                    (br ((x1.1 : Int) == 10)
                     (c103 x1.2.2.2.2.1 0 31
                      (fun z34 => br (!z34)
                       (k1 4)
                       (br ((x1.1 : Int) == 14)
                        (c103 x1.2.2.2.2.1 0 4095
                         (fun z35 => br (!z35)
                          (k1 4)
                          (br ((x1.1 : Int) == 24)
                           (c103 x1.2.2.2.2.1 1 6
                            (fun z36 => br (!z36)
                             (k1 4)
                             (k1 0)))
                           (k1 0))))
                        (br ((x1.1 : Int) == 24)
                         (c103 x1.2.2.2.2.1 1 6
                          (fun z37 => br (!z37)
                           (k1 4)
                           (k1 0)))
                         (k1 0)))))
                     (br ((x1.1 : Int) == 14)
                      (c103 x1.2.2.2.2.1 0 4095
                       (fun z38 => br (!z38)
                        (k1 4)
                        (br ((x1.1 : Int) == 24)
                         (c103 x1.2.2.2.2.1 1 6
                          (fun z39 => br (!z39)
                           (k1 4)
                           (k1 0)))
                         (k1 0))))
                      (br ((x1.1 : Int) == 24)
                       (c103 x1.2.2.2.2.1 1 6
                        (fun z40 => br (!z40)
                         (k1 4)
                         (k1 0)))
                       (k1 0))))))
                  (br ((x1.1 : Int) == 9)
                   (c103 x1.2.2.2.2.1 0 31
                    (fun z41 => br (!z41)
                     (k1 4)
                     (br ((x1.1 : Int) == 14)
                      (c103 x1.2.2.2.2.1 0 4095
                       (fun z42 => br (!z42)
                        (k1 4)
                        (br ((x1.1 : Int) == 24)
                         (c103 x1.2.2.2.2.1 1 6
                          (fun z43 => br (!z43)
                           (k1 4)
                           (k1 0)))
                         (k1 0))))
                      (br ((x1.1 : Int) == 24)
                       (c103 x1.2.2.2.2.1 1 6
                        (fun z44 => br (!z44)
                         (k1 4)
                         (k1 0)))
                       (k1 0)))))
                   (br ((x1.1 : Int) == 10)
                    (c103 x1.2.2.2.2.1 0 31
                     (fun z45 => br (!z45)
                      (k1 4)
                      (br ((x1.1 : Int) == 14)
                       (c103 x1.2.2.2.2.1 0 4095
                        (fun z46 => br (!z46)
                         (k1 4)
                         (br ((x1.1 : Int) == 24)
                          (c103 x1.2.2.2.2.1 1 6
                           (fun z47 => br (!z47)
                            (k1 4)
                            (k1 0)))
                          (k1 0))))
                       (br ((x1.1 : Int) == 24)
                        (c103 x1.2.2.2.2.1 1 6
                         (fun z48 => br (!z48)
                          (k1 4)
                          (k1 0)))
                        (k1 0)))))
                    (br ((x1.1 : Int) == 14)
                     (c103 x1.2.2.2.2.1 0 4095
                      (fun z49 => br (!z49)
                       (k1 4)
                       (br ((x1.1 : Int) == 24)
                        (c103 x1.2.2.2.2.1 1 6
                         (fun z50 => br (!z50)
                          (k1 4)
                          (k1 0)))
                        (k1 0))))
                     (br ((x1.1 : Int) == 24)
                      (c103 x1.2.2.2.2.1 1 6
                       (fun z51 => br (!z51)
                        (k1 4)
                        (k1 0)))
                      (k1 0))))))))
               (br (!z7.2.2.1)
                (br ((x1.2.2.2.1 : Int) != 0)
                 (k1 3)
                 (br (!z7.2.2.2.1)
                  (br ((x1.2.2.2.2.1 : Int) != 0)
                   (k1 3)
                   (br ((x1.1 : Int) == 9)
                    (c103 x1.2.2.2.2.1 0 31
                     (fun z52 => br (!z52)
                      (k1 4)
                      (br ((x1.1 : Int) == 14)
                       (c103 x1.2.2.2.2.1 0 4095
                        (fun z53 => br (!z53)
                         (k1 4)
                         (br ((x1.1 : Int) == 24)
                          (c103 x1.2.2.2.2.1 1 6
                           (fun z54 => br (!z54)
                            (k1 4)
                            (k1 0)))
                          (k1 0))))
                       (br ((x1.1 : Int) == 24)
                        (c103 x1.2.2.2.2.1 1 6
                         (fun z55 => br (!z55)
                          (k1 4)
                          (k1 0)))
                        (k1 0)))))
                    (br ((x1.1 : Int) == 10)
                     (c103 x1.2.2.2.2.1 0 31
                      (fun z56 => br (!z56)
                       (k1 4)
                       (br ((x1.1 : Int) == 14)
                        (c103 x1.2.2.2.2.1 0 4095
                         (fun z57 => br (!z57)
                          (k1 4)
                          (br ((x1.1 : Int) == 24)
                           (c103 x1.2.2.2.2.1 1 6
                            (fun z58 => br (!z58)
                             (k1 4)
                             (k1 0)))
                           (k1 0))))
                        (br ((x1.1 : Int) == 24)
                         (c103 x1.2.2.2.2.1 1 6
                          (fun z59 => br (!z59)
                           (k1 4)
                           (k1 0)))
                         (k1 0)))))
                     (br ((x1.1 : Int) == 14)
                      (c103 x1.2.2.2.2.1 0 4095
                       (fun z60 => br (!z60)
                        (k1 4)
                        (br ((x1.1 : Int) == 24)
                         (c103 x1.2.2.2.2.1 1 6
                          (fun z61 => br (!z61)
                           (k1 4)
                           (k1 0)))
                         (k1 0))))
                      (br ((x1.1 : Int) == 24)
                       (c103 x1.2.2.2.2.1 1 6
                        (fun z62 => br (!z62)
                         (k1 4)
                         (k1 0)))
                       (k1 0))))))
                  (br ((x1.1 : Int) == 9)
                   (c103 x1.2.2.2.2.1 0 31
                    (fun z63 => br (!z63)
                     (k1 4)
                     (br ((x1.1 : Int) == 14)
                      (c103 x1.2.2.2.2.1 0 4095
                       (fun z64 => br (!z64)
                        (k1 4)
                        (br ((x1.1 : Int) == 24)
                         (c103 x1.2.2.2.2.1 1 6
                          (fun z65 => br (!z65)
                           (k1 4)
                           (k1 0)))
                         (k1 0))))
                      (br ((x1.1 : Int) == 24)
                       (c103 x1.2.2.2.2.1 1 6
                        (fun z66 => br (!z66)
                         (k1 4)
                         (k1 0)))
                       (k1 0)))))
                   (br ((x1.1 : Int) == 10)
                    (c103 x1.2.2.2.2.1 0 31
                     (fun z67 => br (!z67)
                      (k1 4)
                      (br ((x1.1 : Int) == 14)
                       (c103 x1.2.2.2.2.1 0 4095
                        (fun z68 => br (!z68)
                         (k1 4)
                         (br ((x1.1 : Int) == 24)
                          (c103 x1.2.2.2.2.1 1 6
                           (fun z69 => br (!z69)
                            (k1 4)
                            (k1 0)))
                          (k1 0))))
                       (br ((x1.1 : Int) == 24)
                        (c103 x1.2.2.2.2.1 1 6
                         (fun z70 => br (!z70)
                          (k1 4)
                          (k1 0)))
                        (k1 0)))))
                    (br ((x1.1 : Int) == 14)
                     (c103 x1.2.2.2.2.1 0 4095
                      (fun z71 => br (!z71)
                       (k1 4)
                       (br ((x1.1 : Int) == 24)
                        (c103 x1.2.2.2.2.1 1 6
                         (fun z72 => br (!z72)
                          (k1 4)
                          (k1 0)))
                        (k1 0))))
                     (br ((x1.1 : Int) == 24)
                      (c103 x1.2.2.2.2.1 1 6
                       (fun z73 => br (!z73)
                        (k1 4)
                        (k1 0)))
                      (k1 0)))))))
                (br (!z7.2.2.2.1)
                 (br ((x1.2.2.2.2.1 : Int) != 0)
                  (k1 3)
                  (br ((x1.1 : Int) == 9)
                   (c103 x1.2.2.2.2.1 0 31
                    (fun z74 => br (!z74)
                     (k1 4)
                     (br ((x1.1 : Int) == 14)
                      (c103 x1.2.2.2.2.1 0 4095
                       (fun z75 => br (!z75)
                        (k1 4)
                        (br ((x1.1 : Int) == 24)
                         (c103 x1.2.2.2.2.1 1 6
                          (fun z76 => br (!z76)
                           (k1 4)
                           (k1 0)))
                         (k1 0))))
                      (br ((x1.1 : Int) == 24)
                       (c103 x1.2.2.2.2.1 1 6
                        (fun z77 => br (!z77)
                         (k1 4)
                         (k1 0)))
                       (k1 0)))))
                   (br ((x1.1 : Int) == 10)
                    (c103 x1.2.2.2.2.1 0 31
                     (fun z78 => br (!z78)
                      (k1 4)
                      (br ((x1.1 : Int) == 14)
                       (c103 x1.2.2.2.2.1 0 4095
                        (fun z79 => br (!z79)
                         (k1 4)
                         (br ((x1.1 : Int) == 24)
                          (c103 x1.2.2.2.2.1 1 6
                           (fun z80 => br (!z80)
                            (k1 4)
                            (k1 0)))
                          (k1 0))))
                       (br ((x1.1 : Int) == 24)
                        (c103 x1.2.2.2.2.1 1 6
                         (fun z81 => br (!z81)
                          (k1 4)
                          (k1 0)))
                        (k1 0)))))
                    (br ((x1.1 : Int) == 14)
                     (c103 x1.2.2.2.2.1 0 4095
                      (fun z82 => br (!z82)
                       (k1 4)
                       (br ((x1.1 : Int) == 24)
                        (c103 x1.2.2.2.2.1 1 6
                         (fun z83 => br (!z83)
                          (k1 4)
                          (k1 0)))
                        (k1 0))))
                     (br ((x1.1 : Int) == 24)
                      (c103 x1.2.2.2.2.1 1 6
                       (fun z84 => br (!z84)
                        (k1 4)
                        (k1 0)))
                      (k1 0))))))
                 (br ((x1.1 : Int) == 9)
                  (c103 x1.2.2.2.2.1 0 31
                   (fun z85 => br (!z85)
                    (k1 4)
                    (br ((x1.1 : Int) == 14)
                     (c103 x1.2.2.2.2.1 0 4095
                      (fun z86 => br (!z86)
                       (k1 4)
                       (br ((x1.1 : Int) == 24)
                        (c103 x1.2.2.2.2.1 1 6
                         (fun z87 => br (!z87)
                          (k1 4)
                          (k1 0)))
                        (k1 0))))
                     (br ((x1.1 : Int) == 24)
                      (c103 x1.2.2.2.2.1 1 6
                       (fun z88 => br (!z88)
                        (k1 4)
                        (k1 0)))
                      (k1 0)))))
                  (br ((x1.1 : Int) == 10)
                   (c103 x1.2.2.2.2.1 0 31
                    (fun z89 => br (!z89)
                     (k1 4)
                     (br ((x1.1 : Int) == 14)
                      (c103 x1.2.2.2.2.1 0 4095
                       (fun z90 => br (!z90)
                        (k1 4)
                        (br ((x1.1 : Int) == 24)
                         (c103 x1.2.2.2.2.1 1 6
                          (fun z91 => br (!z91)
                           (k1 4)
                           (k1 0)))
                         (k1 0))))
                      (br ((x1.1 : Int) == 24)
                       (c103 x1.2.2.2.2.1 1 6
                        (fun z92 => br (!z92)
                         (k1 4)
                         (k1 0)))
                       (k1 0)))))
                   (br ((x1.1 : Int) == 14)
                    (c103 x1.2.2.2.2.1 0 4095
                     (fun z93 => br (!z93)
                      (k1 4)
                      (br ((x1.1 : Int) == 24)
                       (c103 x1.2.2.2.2.1 1 6
                        (fun z94 => br (!z94)
                         (k1 4)
                         (k1 0)))
                       (k1 0))))
                    (br ((x1.1 : Int) == 24)
                     (c103 x1.2.2.2.2.1 1 6
                      (fun z95 => br (!z95)
                       (k1 4)
                       (k1 0)))
                     (k1 0)))))))))
             (br (!z7.2.1)
              (br ((x1.2.2.1 : Int) != 0)
               (k1 3)
               (br (!z7.2.2.1)
                (br ((x1.2.2.2.1 : Int) != 0)
                 (k1 3)
                 (br (!z7.2.2.2.1)
                  (br ((x1.2.2.2.2.1 : Int) != 0)
                   (k1 3)
                   (br ((x1.1 : Int) == 9)
                    (c103 x1.2.2.2.2.1 0 31
                     (fun z96 => br (!z96)
                      (k1 4)
                      (br ((x1.1 : Int) == 14)
                       (c103 x1.2.2.2.2.1 0 4095
                        (fun z97 => br (!z97)
                         (k1 4)
                         (br ((x1.1 : Int) == 24)
                          (c103 x1.2.2.2.2.1 1 6
                           (fun z98 => br (!z98)
                            (k1 4)
                            (k1 0)))
                          (k1 0))))
                       (br ((x1.1 : Int) == 24)
                        (c103 x1.2.2.2.2.1 1 6
                         (fun z99 => br (!z99)
                          (k1 4)
                          (k1 0)))
                        (k1 0)))))
                    (br ((x1.1 : Int) == 10)
                     (c103 x1.2.2.2.2.1 0 31
                      (fun z100 => br (!z100)
                       (k1 4)
                       (br ((x1.1 : Int) == 14)
                        (c103 x1.2.2.2.2.1 0 4095
                         (fun z101 => br (!z101)
                          (k1 4)
                          (br ((x1.1 : Int) == 24)
                           (c103 x1.2.2.2.2.1 1 6
                            (fun z102 => br (!z102)
                             (k1 4)
                             (k1 0)))
                           (k1 0))))
                        (br ((x1.1 : Int) == 24)
                         (c103 x1.2.2.2.2.1 1 6
                          (fun z103 => br (!z103)
                           (k1 4)
                           (k1 0)))
                         (k1 0)))))
                     (br ((x1.1 : Int) == 14)
                      (c103 x1.2.2.2.2.1 0 4095
                       (fun z104 => br (!z104)
                        (k1 4)
                        (br ((x1.1 : Int) == 24)
                         (c103 x1.2.2.2.2.1 1 6
                          (fun z105 => br (!z105)
                           (k1 4)
                           (k1 0)))
                         (k1 0))))
                      (br ((x1.1 : Int) == 24)
                       (c103 x1.2.2.2.2.1 1 6
                        (fun z106 => br (!z106)
                         (k1 4)
                         (k1 0)))
                       (k1 0))))))
                  (br ((x1.1 : Int) == 9)
                   (c103 x1.2.2.2.2.1 0 31
                    (fun z107 => br (!z107)
                     (k1 4)
                     (br ((x1.1 : Int) == 14)
                      (c103 x1.2.2.2.2.1 0 4095
                       (fun z108 => br (!z108)
                        (k1 4)
                        (br ((x1.1 : Int) == 24)
                         (c103 x1.2.2.2.2.1 1 6
                          (fun z109 => br (!z109)
                           (k1 4)
                           (k1 0)))
                         (k1 0))))
                      (br ((x1.1 : Int) == 24)
                       (c103 x1.2.2.2.2.1 1 6
                        (fun z110 => br (!z110)
                         (k1 4)
                         (k1 0)))
                       (k1 0)))))
                   (br ((x1.1 : Int) == 10)
                    (c103 x1.2.2.2.2.1 0 31
                     (fun z111 => br (!z111)
                      (k1 4)
                      (br ((x1.1 : Int) == 14)
                       (c103 x1.2.2.2.2.1 0 4095
                        (fun z112 => br (!z112)
                         (k1 4)
                         (br ((x1.1 : Int) == 24)
                          (c103 x1.2.2.2.2.1 1 6
                           (fun z113 => br (!z113)
                            (k1 4)
                            (k1 0)))
                          (k1 0))))
                       (br ((x1.1 : Int) == 24)
                        (c103 x1.2.2.2.2.1 1 6
                         (fun z114 => br (!z114)
                          (k1 4)
                          (k1 0)))
                        (k1 0)))))
                    (br ((x1.1 : Int) == 14)
                     (c103 x1.2.2.2.2.1 0 4095
                      (fun z115 => br (!z115)
                       (k1 4)
                       (br ((x1.1 : Int) == 24)
                        (c103 x1.2.2.2.2.1 1 6
                         (fun z116 => br (!z116)
                          (k1 4)
                          (k1 0)))
                        (k1 0))))
                     (br ((x1.1 : Int) == 24)
                      (c103 x1.2.2.2.2.1 1 6
                       (fun z117 => br (!z117)
                        (k1 4)
                        (k1 0)))
                      (k1 0)))))))
                (br (!z7.2.2.2.1)
                 (br ((x1.2.2.2.2.1 : Int) != 0)
                  (k1 3)
                  (br ((x1.1 : Int) == 9)
                   (c103 x1.2.2.2.2.1 0 31
                    (fun z118 => br (!z118)
                     (k1 4)
                     (br ((x1.1 : Int) == 14)
                      (c103 x1.2.2.2.2.1 0 4095
                       (fun z119 => br (!z119)
                        (k1 4)
                        (br ((x1.1 : Int) == 24)
                         (c103 x1.2.2.2.2.1 1 6
                          (fun z120 => br (!z120)
                           (k1 4)
                           (k1 0)))
                         (k1 0))))
                      (br ((x1.1 : Int) == 24)
                       (c103 x1.2.2.2.2.1 1 6
                        (fun z121 => br (!z121)
                         (k1 4)
                         (k1 0)))
                       (k1 0)))))
                   (br ((x1.1 : Int) == 10)
                    (c103 x1.2.2.2.2.1 0 31
                     (fun z122 => br (!z122)
                      (k1 4)
                      (br ((x1.1 : Int) == 14)
                       (c103 x1.2.2.2.2.1 0 4095
                        (fun z123 => br (!z123)
                         (k1 4)
                         (br ((x1.1 : Int) == 24)
                          (c103 x1.2.2.2.2.1 1 6
                           (fun z124 => br (!z124)
                            (k1 4)
                            (k1 0)))
                          (k1 0))))
                       (br ((x1.1 : Int) == 24)
                        (c103 x1.2.2.2.2.1 1 6
                         (fun z125 => br (!z125)
                          (k1 4)
                          (k1 0)))
                        (k1 0)))))
                    (br ((x1.1 : Int) == 14)
                     (c103 x1.2.2.2.2.1 0 4095
                      (fun z126 => br (!z126)
                       (k1 4)
                       (br ((x1.1 : Int) == 24)
                        (c103 x1.2.2.2.2.1 1 6
                         (fun z127 => br (!z127)
                          (k1 4)
                          (k1 0)))
                        (k1 0))))
                     (br ((x1.1 : Int) == 24)
                      (c103 x1.2.2.2.2.1 1 6
                       (fun z128 => br (!z128)
                        (k1 4)
                        (k1 0)))
                      (k1 0))))))
                 (br ((x1.1 : Int) == 9)
                  (c103 x1.2.2.2.2.1 0 31
                   (fun z129 => br (!z129)
                    (k1 4)
                    (br ((x1.1 : Int) == 14)
                     (c103 x1.2.2.2.2.1 0 4095
                      (fun z130 => br (!z130)
                       (k1 4)
                       (br ((x1.1 : Int) == 24)
                        (c103 x1.2.2.2.2.1 1 6
                         (fun z131 => br (!z131)
                          (k1 4)
                          (k1 0)))
                        (k1 0))))
                     (br ((x1.1 : Int) == 24)
                      (c103 x1.2.2.2.2.1 1 6
                       (fun z132 => br (!z132)
                        (k1 4)
                        (k1 0)))
                      (k1 0)))))
                  (br ((x1.1 : Int) == 10)
                   (c103 x1.2.2.2.2.1 0 31
                    (fun z133 => br (!z133)
                     (k1 4)
                     (br ((x1.1 : Int) == 14)
                      (c103 x1.2.2.2.2.1 0 4095
                       (fun z134 => br (!z134)
                        (k1 4)
                        (br ((x1.1 : Int) == 24)
                         (c103 x1.2.2.2.2.1 1 6
                          (fun z135 => br (!z135)
                           (k1 4)
                           (k1 0)))
                         (k1 0))))
                      (br ((x1.1 : Int) == 24)
                       (c103 x1.2.2.2.2.1 1 6
                        (fun z136 => br (!z136)
                         (k1 4)
                         (k1 0)))
                       (k1 0)))))
                   (br ((x1.1 : Int) == 14)
                    (c103 x1.2.2.2.2.1 0 4095
                     (fun z137 => br (!z137)
                      (k1 4)
                      (br ((x1.1 : Int) == 24)
                       (c103 x1.2.2.2.2.1 1 6
                        (fun z138 => br (!z138)
                         (k1 4)
                         (k1 0)))
                       (k1 0))))
                    (br ((x1.1 : Int) == 24)
                     (c103 x1.2.2.2.2.1 1 6
                      (fun z139 => br (!z139)
                       (k1 4)
                       (k1 0)))
                     (k1 0))))))))
              (br (!z7.2.2.1)
               (br ((x1.2.2.2.1 : Int) != 0)
                (k1 3)
                (br (!z7.2.2.2.1)
                 (br ((x1.2.2.2.2.1 : Int) != 0)
                  (k1 3)
                  (br ((x1.1 : Int) == 9)
                   (c103 x1.2.2.2.2.1 0 31
                    (fun z140 => br (!z140)
                     (k1 4)
                     (br ((x1.1 : Int) == 14)
                      (c103 x1.2.2.2.2.1 0 4095
                       (fun z141 => br (!z141)
                        (k1 4)
                        (br ((x1.1 : Int) == 24)
                         (c103 x1.2.2.2.2.1 1 6
                          (fun z142 => br (!z142)
                           (k1 4)
                           (k1 0)))
                         (k1 0))))
                      (br ((x1.1 : Int) == 24)
                       (c103 x1.2.2.2.2.1 1 6
                        (fun z143 => br (!z143)
                         (k1 4)
                         (k1 0)))
                       (k1 0)))))
                   (br ((x1.1 : Int) == 10)
                    (c103 x1.2.2.2.2.1 0 31
                     (fun z144 => br (!z144)
                      (k1 4)
                      (br ((x1.1 : Int) == 14)
                       (c103 x1.2.2.2.2.1 0 4095
                        (fun z145 => br (!z145)
                         (k1 4)
                         (br ((x1.1 : Int) == 24)
                          (c103 x1.2.2.2.2.1 1 6
                           (fun z146 => br (!z146)
                            (k1 4)
                            (k1 0)))
                          (k1 0))))
                       (br ((x1.1 : Int) == 24)
                        (c103 x1.2.2.2.2.1 1 6
                         (fun z147 => br (!z147)
                          (k1 4)
                          (k1 0)))
                        (k1 0)))))
                    (br ((x1.1 : Int) == 14)
                     (c103 x1.2.2.2.2.1 0 4095
                      (fun z148 => br (!z148)
                       (k1 4)
                       (br ((x1.1 : Int) == 24)
                        (c103 x1.2.2.2.2.1 1 6
                         (fun z149 => br (!z149)
                          (k1 4)
                          (k1 0)))
                        (k1 0))))
                     (br ((x1.1 : Int) == 24)
                      (c103 x1.2.2.2.2.1 1 6
                       (fun z150 => br (!z150)
                        (k1 4)
                        (k1 0)))
                      (k1 0))))))
                 (br ((x1.1 : Int) == 9)
                  (c103 x1.2.2.2.2.1 0 31
                   (fun z151 => br (!z151)
                    (k1 4)
                    (br ((x1.1 : Int) == 14)
                     (c103 x1.2.2.2.2.1 0 4095
                      (fun z152 => br (!z152)
                       (k1 4)
                       (br ((x1.1 : Int) == 24)
                        (c103 x1.2.2.2.2.1 1 6
                         (fun z153 => br (!z153)
                          (k1 4)
                          (k1 0)))
                        (k1 0))))
                     (br ((x1.1 : Int) == 24)
                      (c103 x1.2.2.2.2.1 1 6
                       (fun z154 => br (!z154)
                        (k1 4)
                        (k1 0)))
                      (k1 0)))))
                  (br ((x1.1 : Int) == 10)
                   (c103 x1.2.2.2.2.1 0 31
                    (fun z155 => br (!z155)
                     (k1 4)
                     (br ((x1.1 : Int) == 14)
                      (c103 x1.2.2.2.2.1 0 4095
                       (fun z156 => br (!z156)
                        (k1 4)
                        (br ((x1.1 : Int) == 24)
                         (c103 x1.2.2.2.2.1 1 6
                          (fun z157 => br (!z157)
                           (k1 4)
                           (k1 0)))
                         (k1 0))))
                      (br ((x1.1 : Int) == 24)
                       (c103 x1.2.2.2.2.1 1 6
                        (fun z158 => br (!z158)
                         (k1 4)
                         (k1 0)))
                       (k1 0)))))
                   (br ((x1.1 : Int) == 14)
                    (c103 x1.2.2.2.2.1 0 4095
                     (fun z159 => br (!z159)
                      (k1 4)
                      (br ((x1.1 : Int) == 24)
                       (c103 x1.2.2.2.2.1 1 6
                        (fun z160 => br (!z160)
                         (k1 4)
                         (k1 0)))
                       (k1 0))))
                    (br ((x1.1 : Int) == 24)
                     (c103 x1.2.2.2.2.1 1 6
                      (fun z161 => br (!z161)
                       (k1 4)
                       (k1 0)))
                     (k1 0)))))))
               (br (!z7.2.2.2.1)
                (br ((x1.2.2.2.2.1 : Int) != 0)
                 (k1 3)
                 (br ((x1.1 : Int) == 9)
                  (c103 x1.2.2.2.2.1 0 31
                   (fun z162 => br (!z162)
                    (k1 4)
                    (br ((x1.1 : Int) == 14)
                     (c103 x1.2.2.2.2.1 0 4095
                      (fun z163 => br (!z163)
                       (k1 4)
                       (br ((x1.1 : Int) == 24)
                        (c103 x1.2.2.2.2.1 1 6
                         (fun z164 => br (!z164)
                          (k1 4)
                          (k1 0)))
                        (k1 0))))
                     (br ((x1.1 : Int) == 24)
                      (c103 x1.2.2.2.2.1 1 6
                       (fun z165 => br (!z165)
                        (k1 4)
                        (k1 0)))
                      (k1 0)))))
                  (br ((x1.1 : Int) == 10)
                   (c103 x1.2.2.2.2.1 0 31
                    (fun z166 => br (!z166)
                     (k1 4)
                     (br ((x1.1 : Int) == 14)
                      (c103 x1.2.2.2.2.1 0 4095
                       (fun z167 => br (!z167)
                        (k1 4)
                        (br ((x1.1 : Int) == 24)
                         (c103 x1.2.2.2.2.1 1 6
                          (fun z168 => br (!z168)
                           (k1 4)
                           (k1 0)))
                         (k1 0))))
                      (br ((x1.1 : Int) == 24)
                       (c103 x1.2.2.2.2.1 1 6
                        (fun z169 => br (!z169)
                         (k1 4)
                         (k1 0)))
                       (k1 0)))))
                   (br ((x1.1 : Int) == 14)
                    (c103 x1.2.2.2.2.1 0 4095
                     (fun z170 => br (!z170)
                      (k1 4)
                      (br ((x1.1 : Int) == 24)
                       (c103 x1.2.2.2.2.1 1 6
                        (fun z171 => br (!z171)
                         (k1 4)
                         (k1 0)))
                       (k1 0))))
                    (br ((x1.1 : Int) == 24)
                     (c103 x1.2.2.2.2.1 1 6
                      (fun z172 => br (!z172)
                       (k1 4)
                       (k1 0)))
                     (k1 0))))))
                (br ((x1.1 : Int) == 9)
                 (c103 x1.2.2.2.2.1 0 31
                  (fun z173 => br (!z173)
                   (k1 4)
                   (br ((x1.1 : Int) == 14)
                    (c103 x1.2.2.2.2.1 0 4095
                     (fun z174 => br (!z174)
                      (k1 4)
                      (br ((x1.1 : Int) == 24)
                       (c103 x1.2.2.2.2.1 1 6
                        (fun z175 => br (!z175)
                         (k1 4)
                         (k1 0)))
                       (k1 0))))
                    (br ((x1.1 : Int) == 24)
                     (c103 x1.2.2.2.2.1 1 6
                      (fun z176 => br (!z176)
                       (k1 4)
                       (k1 0)))
                     (k1 0)))))
                 (br ((x1.1 : Int) == 10)
                  (c103 x1.2.2.2.2.1 0 31
                   (fun z177 => br (!z177)
                    (k1 4)
                    (br ((x1.1 : Int) == 14)
                     (c103 x1.2.2.2.2.1 0 4095
                      (fun z178 => br (!z178)
                       (k1 4)
                       (br ((x1.1 : Int) == 24)
                        (c103 x1.2.2.2.2.1 1 6
                         (fun z179 => br (!z179)
                          (k1 4)
                          (k1 0)))
                        (k1 0))))
                     (br ((x1.1 : Int) == 24)
                      (c103 x1.2.2.2.2.1 1 6
                       (fun z180 => br (!z180)
                        (k1 4)
                        (k1 0)))
                      (k1 0)))))
                  (br ((x1.1 : Int) == 14)
                   (c103 x1.2.2.2.2.1 0 4095
                    (fun z181 => br (!z181)
                     (k1 4)
                     (br ((x1.1 : Int) == 24)
                      (c103 x1.2.2.2.2.1 1 6
                       (fun z182 => br (!z182)
                        (k1 4)
                        (k1 0)))
                      (k1 0))))
                   (br ((x1.1 : Int) == 24)
                    (c103 x1.2.2.2.2.1 1 6
                     (fun z183 => br (!z183)
                      (k1 4)
                      (k1 0)))
                    (k1 0)))))))))))))))))))
structure c25 (x1 : Int × Int × Int × Int × Int × Unit) (k1 : Int → Prop) : Prop where
  of : tc25 x1 k1

def tl37r2 (k1 : Bool → Prop) (k2 : (Int × Int × Int × Int × Int × Unit) → (Int × Int × Int × Int × Int × Unit) → Prop) (s1 : Int) (s2 : Int) (s3 : Int × Int × Int × Int × Int × Unit) (s4 : Int × Int × Int × Int × Int × Unit) (s5 : List (Int × Int × Int × Int × Int × Unit)) : Prop :=
  ∀ (I1 : Int → Int → (Int × Int × Int × Int × Int × Unit) → (Int × Int × Int × Int × Int × Unit) → (List (Int × Int × Int × Int × Int × Unit)) → Prop),
    (∀ (s1 : Int) (s2 : Int) (s3 : Int × Int × Int × Int × Int × Unit) (s4 : Int × Int × Int × Int × Int × Unit) (s5 : List (Int × Int × Int × Int × Int × Unit)), (br (decide (s2 < s1))
    (br (decide (0 ≤ s2 ∧ s2 < (((List.length s5) : Nat) : Int)))
     (need False (s5)[(Int.toNat s2)]? fun y6 =>
      br ((y6.1 : Int) == 14)
       (k1 true)
       (br ((y6.1 : Int) == 15)
        (k1 true)
        (br ((y6.1 : Int) == 23)
         (k1 true)
         (br ((y6.1 : Int) == 4)
          (k1 true)
          (br ((y6.1 : Int) == 5)
           (k1 true)
           (I1 s1 (IntKind.wrap .i64 (s2 + 1)) s3 s4 s5))))))
     (False /- 39 -/))
    (k2 s3 s4)) → I1 s1 s2 s3 s4 s5) →
    I1 s1 s2 s3 s4 s5
structure l37r2 (k1 : Bool → Prop) (k2 : (Int × Int × Int × Int × Int × Unit) → (Int × Int × Int × Int × Int × Unit) → Prop) (s1 : Int) (s2 : Int) (s3 : Int × Int × Int × Int × Int × Unit) (s4 : Int × Int × Int × Int × Int × Unit) (s5 : List (Int × Int × Int × Int × Int × Unit)) : Prop where
  of : tl37r2 k1 k2 s1 s2 s3 s4 s5

def tc139 (x1 : Int) (x2 : Int) (x3 : Int) (k1 : Bool → Prop) : Prop :=
  br (decide (x1 ≥ x2))
  (k1 (decide (x1 ≤ x3)))
  (k1 false)
structure c139 (x1 : Int) (x2 : Int) (x3 : Int) (k1 : Bool → Prop) : Prop where
  of : tc139 x1 x2 x3 k1

def tc101 (k1 : (List (List UInt8)) → Prop) : Prop :=
  k1 [[], [(68 : UInt8), (65 : UInt8), (66 : UInt8)], [(68 : UInt8), (65 : UInt8), (66 : UInt8)], [(68 : UInt8), (65 : UInt8), (66 : UInt8)], [(68 : UInt8), (65 : UInt8), (66 : UInt8)], [(68 : UInt8), (65 : UInt8), (66 : UInt8)], [(68 : UInt8), (65 : UInt8), (66 : UInt8)], [(68 : UInt8), (65 : UInt8), (66 : UInt8)], [(68 : UInt8), (65 : UInt8), (78 : UInt8)], [(68 : UInt8), (65 : UInt8), (78 : UInt8)], [(68 : UInt8), (65 : UInt8), (78 : UInt8)], [(68 : UInt8), (78 : UInt8)], [(68 : UInt8), (65 : UInt8), (78 : UInt8)], [(65 : UInt8), (66 : UInt8), (78 : UInt8)], [(68 : UInt8), (66 : UInt8), (78 : UInt8)], [(68 : UInt8), (65 : UInt8), (66 : UInt8)], [(65 : UInt8), (66 : UInt8), (78 : UInt8)], [(65 : UInt8), (66 : UInt8), (78 : UInt8)], [(65 : UInt8), (66 : UInt8), (78 : UInt8)], [(78 : UInt8)], [(78 : UInt8)], [(65 : UInt8)], [], [(65 : UInt8)], [(78 : UInt8)]]
structure c101 (k1 : (List (List UInt8)) → Prop) : Prop where
  of : tc101 k1

def tl102r2 (k1 : Bool → Prop) (k2 : Prop) (s1 : List UInt8) (s2 : Int) (s3 : Int) (s4 : Int) : Prop :=
  ∀ (I1 : (List UInt8) → Int → Int → Int → Prop),
    (∀ (s1 : List UInt8) (s2 : Int) (s3 : Int) (s4 : Int), (br (decide (s4 < s3))
    (need False (at? s1 s4) fun y5 =>
     br (((UInt8.toNat y5 : Int) : Int) == s2)
      (k1 true)
      (I1 s1 s2 s3 (IntKind.wrap .i64 (s4 + 1))))
    (k2)) → I1 s1 s2 s3 s4) →
    I1 s1 s2 s3 s4
structure l102r2 (k1 : Bool → Prop) (k2 : Prop) (s1 : List UInt8) (s2 : Int) (s3 : Int) (s4 : Int) : Prop where
  of : tl102r2 k1 k2 s1 s2 s3 s4

def tc102 (x1 : List UInt8) (x2 : Int) (k1 : Bool → Prop) : Prop :=
  l102r2
  (fun z3 => k1 z3)
  (k1 false)
  x1 x2 (((List.length x1) : Nat) : Int) 0
structure c102 (x1 : List UInt8) (x2 : Int) (k1 : Bool → Prop) : Prop where
  of : tc102 x1 x2 k1

def tc82 (x1 : Int × Int × Int × Int × Int × Unit) (k1 : Int → Prop) : Prop :=
  br ((x1.1 : Int) == 20)
  (k1 15)
  (br ((x1.1 : Int) == 21)
   (k1 15)
   (c139 x1.1 0 24
    (fun z2 => br (z2)
     (c101 
      (fun z3 => br (eqT (.int .i64) x1.1 x1.1)
       (br (decide (0 ≤ x1.1 ∧ x1.1 < (((List.length z3) : Nat) : Int)))
        (need False (z3)[(Int.toNat x1.1)]? fun y4 =>
         c102 y4 68
          (fun z5 => br (z5)
           (k1 x1.2.1)
           (c139 x1.1 0 24
            (fun z6 => br (z6)
             (k1 0)
             (k1 x1.2.1)))))
        (False /- 39 -/))
       (False /- 942 -/)))
     (c139 x1.1 0 24
      (fun z7 => br (z7)
       (k1 0)
       (k1 x1.2.1))))))
structure c82 (x1 : Int × Int × Int × Int × Int × Unit) (k1 : Int → Prop) : Prop where
  of : tc82 x1 k1

def tl84r6 (k1 : (List Int) → Prop) (s1 : List Int) (s2 : Int) (s3 : Int) (s4 : Int × Int × Int × Int × Int × Unit) (s5 : List Int) : Prop :=
  ∀ (I1 : (List Int) → Int → Int → (Int × Int × Int × Int × Int × Unit) → (List Int) → Prop),
    (∀ (s1 : List Int) (s2 : Int) (s3 : Int) (s4 : Int × Int × Int × Int × Int × Unit) (s5 : List Int), (br (decide (s3 < s2))
    (need False (at? s1 s3) fun y6 =>
     br ((y6 : Int) == 65)
      (br ((s4.2.2.1 : Int) != 0)
       (br (roomB ((List.length s5) + 1) 8)
        (I1 s1 s2 (IntKind.wrap .i64 (s3 + 1)) s4 (s5 ++ [s4.2.2.1]))
        (False /- 61 -/))
       (I1 s1 s2 (IntKind.wrap .i64 (s3 + 1)) s4 s5))
      (br ((y6 : Int) == 66)
       (br ((s4.2.2.2.1 : Int) != 0)
        (br (roomB ((List.length s5) + 1) 8)
         (I1 s1 s2 (IntKind.wrap .i64 (s3 + 1)) s4 (s5 ++ [s4.2.2.2.1]))
         (False /- 61 -/))
        (I1 s1 s2 (IntKind.wrap .i64 (s3 + 1)) s4 s5))
       (br ((y6 : Int) == 70)
        (br (roomB ((List.length s5) + 1) 8)
         (I1 s1 s2 (IntKind.wrap .i64 (s3 + 1)) s4 (s5 ++ [15]))
         (False /- 61 -/))
        (br (roomB ((List.length s5) + 1) 8)
         (I1 s1 s2 (IntKind.wrap .i64 (s3 + 1)) s4 (s5 ++ [1]))
         (False /- 61 -/)))))
    (k1 s5)) → I1 s1 s2 s3 s4 s5) →
    I1 s1 s2 s3 s4 s5
structure l84r6 (k1 : (List Int) → Prop) (s1 : List Int) (s2 : Int) (s3 : Int) (s4 : Int × Int × Int × Int × Int × Unit) (s5 : List Int) : Prop where
  of : tl84r6 k1 s1 s2 s3 s4 s5

def tc84 (x1 : Int × Int × Int × Int × Int × Unit) (k1 : (List Int) → Prop) : Prop :=
  br (decide (x1.1 < 0))
  (k1 [])
  (br (decide (x1.1 ≥ ((25 : Nat) : Int)))
   (k1 [])
   (br (decide (0 ≤ x1.1 ∧ x1.1 < ((25 : Nat) : Int)))
    (need False ([[(49 : UInt8)], [(65 : UInt8), (66 : UInt8)], [(65 : UInt8), (66 : UInt8)], [(65 : UInt8), (66 : UInt8)], [(65 : UInt8), (66 : UInt8)], [(65 : UInt8), (66 : UInt8)], [(65 : UInt8), (66 : UInt8)], [(65 : UInt8), (66 : UInt8)], [(65 : UInt8)], [(65 : UInt8)], [(65 : UInt8)], [], [(65 : UInt8)], [(65 : UInt8), (66 : UInt8)], [(66 : UInt8)], [(65 : UInt8), (66 : UInt8)], [(65 : UInt8), (66 : UInt8)], [(65 : UInt8), (66 : UInt8)], [(65 : UInt8), (66 : UInt8)], [], [], [(65 : UInt8)], [(70 : UInt8)], [(65 : UInt8)], []])[(Int.toNat x1.1)]? fun y2 =>
     l84r6
      (fun z3 => k1 z3)
      (List.map (fun b : UInt8 => (b.toNat : Int)) y2) (((List.length (List.map (fun b : UInt8 => (b.toNat : Int)) y2)) : Nat) : Int) 0 x1 [])
    (False /- 39 -/)))
structure c84 (x1 : Int × Int × Int × Int × Int × Unit) (k1 : (List Int) → Prop) : Prop where
  of : tc84 x1 k1

def tl109r3 (k1 : Bool → Prop) (k2 : Prop) (s1 : Int) (s2 : Int) (s3 : Int) (s4 : List Int) : Prop :=
  ∀ (I1 : Int → Int → Int → (List Int) → Prop),
    (∀ (s1 : Int) (s2 : Int) (s3 : Int) (s4 : List Int), (br (decide (s3 < s2))
    (br (decide (0 ≤ s3 ∧ s3 < (((List.length s4) : Nat) : Int)))
     (need False (s4)[(Int.toNat s3)]? fun y5 =>
      br ((s1 : Int) != 0)
       (br ((y5 : Int) == s1)
        (k1 true)
        (I1 s1 s2 (IntKind.wrap .i64 (s3 + 1)) s4))
       (I1 s1 s2 (IntKind.wrap .i64 (s3 + 1)) s4))
     (False /- 39 -/))
    (k2)) → I1 s1 s2 s3 s4) →
    I1 s1 s2 s3 s4
structure l109r3 (k1 : Bool → Prop) (k2 : Prop) (s1 : Int) (s2 : Int) (s3 : Int) (s4 : List Int) : Prop where
  of : tl109r3 k1 k2 s1 s2 s3 s4

def tc109 (x1 : Int × Int × Int × Int × Int × Unit) (x2 : Int × Int × Int × Int × Int × Unit) (k1 : Bool → Prop) : Prop :=
  c82 x1
  (fun z3 => c84 x2
   (fun z4 => br (eqT opT x2 x2)
    (br (true)
     (c82 x2
      (fun z5 => br (true)
       (br (true)
        (br (roomB ((List.length z4) + 1) 8)
         (br (true)
          (l109r3
           (fun z6 => k1 z6)
           (k1 false)
           z3 (((List.length (z4 ++ [z5])) : Nat) : Int) 0 (z4 ++ [z5]))
          (False /- 942 -/))
         (False /- 61 -/))
        (False /- 942 -/))
       (False /- 942 -/)))
     (False /- 942 -/))
    (False /- 942 -/)))
structure c109 (x1 : Int × Int × Int × Int × Int × Unit) (x2 : Int × Int × Int × Int × Int × Unit) (k1 : Bool → Prop) : Prop where
  of : tc109 x1 x2 k1

def tc37 (x1 : Int × Int × Int × Int × Int × Unit) (x2 : Int × Int × Int × Int × Int × Unit) (k1 : Bool → Prop) : Prop :=
  l37r2
  (fun z3 => k1 z3)
  (fun z4 z5 => br ((z4.1 : Int) == 12)
   (br ((z5.1 : Int) == 12)
    (k1 true)
    (br ((z5.1 : Int) == 13)
     (k1 true)
     (c109 z4 z5
      (fun z6 => br (z6)
       (k1 true)
       (c109 z5 z4
        (fun z7 => k1 z7))))))
   (br ((z4.1 : Int) == 13)
    (br ((z5.1 : Int) == 12)
     (k1 true)
     (br ((z5.1 : Int) == 13)
      (k1 true)
      (c109 z4 z5
       (fun z8 => br (z8)
        (k1 true)
        (c109 z5 z4
         (fun z9 => k1 z9))))))
    (c109 z4 z5
     (fun z10 => br (z10)
      (k1 true)
      (c109 z5 z4
       (fun z11 => k1 z11))))))
  ((2 : Nat) : Int) 0 x1 x2 [x1, x2]
structure c37 (x1 : Int × Int × Int × Int × Int × Unit) (x2 : Int × Int × Int × Int × Int × Unit) (k1 : Bool → Prop) : Prop where
  of : tc37 x1 x2 k1

def tc6 (x1 : Int × Int × Int × Int × Int × Unit) (x2 : Int × Int × Int × Int × Int × Unit) (k1 : Bool → Prop) : Prop :=
  c36 (11, 1, 0, 0, 0, ()) (11, 2, 0, 0, 0, ())
  (fun z3 => br (z3)
   (k1 false)
   (c36 (11, 1, 0, 0, 0, ()) (11, 1, 0, 0, 0, ())
    (fun z4 => br (!z4)
     (k1 false)
     (c25 x1
      (fun z5 => br ((z5 : Int) != 0)
       (k1 true)
       (c25 x2
        (fun z6 => br ((z6 : Int) != 0)
         (k1 true)
         (c36 x1 x2
          (fun z7 => br (eqT opT x1 x1)
           (br (eqT opT x2 x2)
            (c37 x1 x2
             (fun z8 => k1 ((z7 : Bool) == z8)))
            (False /- 942 -/))
           (False /- 942 -/))))))))))
structure c6 (x1 : Int × Int × Int × Int × Int × Unit) (x2 : Int × Int × Int × Int × Int × Unit) (k1 : Bool → Prop) : Prop where
  of : tc6 x1 x2 k1

end Go.Proofs.Ytfdoaacapkopmaa
