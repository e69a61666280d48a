/- What the functions compute, as plain Lean (printed by a program). -/
import Derived.Test.YtdljpdafghdedaaATypT
namespace Go.Proofs.Ytdljpdafghdedaa
open Go.Abs
set_option linter.unusedVariables false
def tc14 (x1 : Int) (x2 : Int) (k1 : Int → Prop) : Prop :=
  br ((x2 : Int) == 0)
  (False /- 16 -/)
  (br (decide (((Int.tmod x1 x2) : Int) < 0))
   (k1 (IntKind.wrap .i64 ((Int.tmod x1 x2) + x2)))
   (k1 (Int.tmod x1 x2)))
structure c14 (x1 : Int) (x2 : Int) (k1 : Int → Prop) : Prop where
  of : tc14 x1 x2 k1

def tc4 (x1 : Int) (x2 : Int) (k1 : Int → Prop) : Prop :=
  c14 x1 x2
  (fun z3 => k1 z3)
structure c4 (x1 : Int) (x2 : Int) (k1 : Int → Prop) : Prop where
  of : tc4 x1 x2 k1

def tc15 (x1 : Int) (x2 : Int) (x3 : Int) (k1 : Bool → Prop) : Prop :=
  br (decide ((x1 : Int) ≥ x2))
  (k1 (decide ((x1 : Int) ≤ x3)))
  (k1 false)
structure c15 (x1 : Int) (x2 : Int) (x3 : Int) (k1 : Bool → Prop) : Prop where
  of : tc15 x1 x2 x3 k1

def tc5 (x1 : Int) (x2 : Int) (x3 : Int) (k1 : Unit → Int → Prop) (k2 : Int → Int → Int → Int → Int → Int → Int → (List Int) → Prop) : Prop :=
  c15 x1 32 65536
  (fun z4 => br (!z4)
   (k1 () 4)
   (c15 x2 4 (IntKind.wrap .i64 (Int.tdiv x1 2))
    (fun z5 => br (!z5)
     (k1 () 4)
     (c15 x3 4 (IntKind.wrap .i64 (Int.tdiv (IntKind.wrap .i64 (x1 - x2)) 2))
      (fun z6 => br (!z6)
       (k1 () 4)
       (br (decide ((0 : Int) ≤ x1 ∧ (x1 : Int) ≤ x1 ∧ ((x1 * 8) : Int) ≤ 140737488355328))
        (k2 0 (IntKind.wrap .i64 (x1 - x2)) (IntKind.wrap .i64 (1 + x3)) 1 (IntKind.wrap .i64 (Int.tdiv (IntKind.wrap .i64 ((IntKind.wrap .i64 (x1 - x2)) - (IntKind.wrap .i64 (1 + x3)))) 2)) (IntKind.wrap .i64 (1 + x3)) (IntKind.wrap .i64 (1 + x3)) (List.replicate (Int.toNat x1) (0 : Int)))
        (False /- 111 -/)))))))
structure c5 (x1 : Int) (x2 : Int) (x3 : Int) (k1 : Unit → Int → Prop) (k2 : Int → Int → Int → Int → Int → Int → Int → (List Int) → Prop) : Prop where
  of : tc5 x1 x2 x3 k1 k2

def tc8 (x1 : Int) (x2 : Int) (x3 : Int) (x4 : Int) (x5 : Int) (x6 : Int) (x7 : Int) (x8 : List Int) (k1 : Bool → Int → Int → Int → Int → Int → Int → (List Int) → Prop) : Prop :=
  br (decide (((IntKind.wrap .i64 (x1 + 1)) : Int) > (IntKind.wrap .i64 (x3 - 1))))
  (k1 (decide (((IntKind.wrap .i64 ((IntKind.wrap .i64 (x7 + x1)) + 1)) : Int) ≤ (IntKind.wrap .i64 (x6 + x5)))) x2 x3 x4 x5 x6 x7 x8)
  (k1 (decide (((IntKind.wrap .i64 ((IntKind.wrap .i64 (x4 + x1)) + 1)) : Int) ≤ x3)) x2 x3 x4 x5 x6 x7 x8)
structure c8 (x1 : Int) (x2 : Int) (x3 : Int) (x4 : Int) (x5 : Int) (x6 : Int) (x7 : Int) (x8 : List Int) (k1 : Bool → Int → Int → Int → Int → Int → Int → (List Int) → Prop) : Prop where
  of : tc8 x1 x2 x3 x4 x5 x6 x7 x8 k1

def tc16 (x1 : Int) (x2 : Int) (k1 : Int → Prop) : Prop :=
  k1 (IntKind.wrap .i64 ((IntKind.wrap .i64 ((IntKind.wrap .i64 ((IntKind.wrap .i64 (x1 * 4096)) + x2)) * 2)) + 1))
structure c16 (x1 : Int) (x2 : Int) (k1 : Int → Prop) : Prop where
  of : tc16 x1 x2 k1

def tc24 (x1 : Int) (x2 : Int) (x3 : Int) (x4 : Int) (x5 : Int) (x6 : Int) (x7 : Int) (x8 : List Int) (x9 : List Int) (k1 : Bool → Int → Int → Int → Int → Int → Int → (List Int) → (List Int) → Prop) : Prop :=
  br (decide ((x1 : Int) > 0))
  (br (((bitop .and .i64 x1 1) : Int) == 0)
   (k1 (decide (((IntKind.wrap .i64 (Int.tdiv x1 2)) : Int) < x3)) x2 x3 x4 x5 x6 x7 x8 x9)
   (k1 false x2 x3 x4 x5 x6 x7 x8 x9))
  (k1 false x2 x3 x4 x5 x6 x7 x8 x9)
structure c24 (x1 : Int) (x2 : Int) (x3 : Int) (x4 : Int) (x5 : Int) (x6 : Int) (x7 : Int) (x8 : List Int) (x9 : List Int) (k1 : Bool → Int → Int → Int → Int → Int → Int → (List Int) → (List Int) → Prop) : Prop where
  of : tc24 x1 x2 x3 x4 x5 x6 x7 x8 x9 k1

def tl28r2 (k1 : Int → Prop) (k2 : Prop) (s1 : List Int) (s2 : Int) (s3 : Int) (s4 : Int) : Prop :=
  ∀ (I1 : (List Int) → Int → Int → Int → Prop),
    (∀ (s1 : List Int) (s2 : Int) (s3 : Int) (s4 : Int), (br (decide ((s4 : Int) < s3))
    (need False (at? s1 s4) fun y5 =>
     br ((s2 : Int) == y5)
      (k1 s4)
      (I1 s1 s2 s3 (IntKind.wrap .i64 (s4 + 1))))
    (k2)) → I1 s1 s2 s3 s4) →
    I1 s1 s2 s3 s4
structure l28r2 (k1 : Int → Prop) (k2 : Prop) (s1 : List Int) (s2 : Int) (s3 : Int) (s4 : Int) : Prop where
  of : tl28r2 k1 k2 s1 s2 s3 s4

def tc28 (x1 : List Int) (x2 : Int) (k1 : Int → Prop) : Prop :=
  l28r2
  (fun z3 => k1 z3)
  (k1 (-1))
  x1 x2 (((List.length x1) : Nat) : Int) 0
structure c28 (x1 : List Int) (x2 : Int) (k1 : Int → Prop) : Prop where
  of : tc28 x1 x2 k1

def tc25 (x1 : List Int) (x2 : Int) (k1 : Bool → Prop) : Prop :=
  c28 x1 x2
  (fun z3 => k1 (decide ((z3 : Int) ≥ 0)))
structure c25 (x1 : List Int) (x2 : Int) (k1 : Bool → Prop) : Prop where
  of : tc25 x1 x2 k1

def tc17 (x1 : Int) (x2 : Int) (x3 : Int) (x4 : Int) (x5 : Int) (x6 : Int) (x7 : Int) (x8 : Int) (x9 : List Int) (x10 : List Int) (k1 : Int → Int → Int → Int → Int → Int → (List Int) → (List Int) → Prop) (k2 : Int → Int → Int → Int → Int → Int → (List Int) → (List Int) → Prop) : Prop :=
  br (decide ((0 : Int) ≤ x1 ∧ (x1 : Int) < (((List.length x9) : Nat) : Int)))
  (need False (x9)[(Int.toNat x1)]? fun y11 =>
   c15 x1 x7 (IntKind.wrap .i64 ((IntKind.wrap .i64 (x7 + x6)) - 1))
    (fun z12 => br (z12)
     (c24 x2 x3 x4 x5 x6 x7 x8 (List.set x9 (Int.toNat x1) x2) x10
      (fun z13 z14 z15 z16 z17 z18 z19 z20 z21 => br (z13)
       (c25 z21 x1
        (fun z22 => br (!z22)
         (br (roomB ((List.length z21) + 1) 8)
          (k1 z14 z15 z16 z17 z18 z19 z20 (z21 ++ [x1]))
          (False /- 61 -/))
         (k2 z14 z15 z16 z17 z18 z19 z20 z21)))
       (k2 z14 z15 z16 z17 z18 z19 z20 z21)))
     (k2 x3 x4 x5 x6 x7 x8 (List.set x9 (Int.toNat x1) x2) x10)))
  (False /- 39 -/)
structure c17 (x1 : Int) (x2 : Int) (x3 : Int) (x4 : Int) (x5 : Int) (x6 : Int) (x7 : Int) (x8 : Int) (x9 : List Int) (x10 : List Int) (k1 : Int → Int → Int → Int → Int → Int → (List Int) → (List Int) → Prop) (k2 : Int → Int → Int → Int → Int → Int → (List Int) → (List Int) → Prop) : Prop where
  of : tc17 x1 x2 x3 x4 x5 x6 x7 x8 x9 x10 k1 k2

def tl7r14 (k1 : Int → Int → Int → Int → Int → Int → Int → (List Int) → (List Int) → Prop) (s1 : Int) (s2 : Int) (s3 : Int) (s4 : Int) (s5 : Int) (s6 : Int) (s7 : Int) (s8 : Int) (s9 : Int) (s10 : Int) (s11 : List Int) (s12 : List Int) : Prop :=
  ∀ (I1 : Int → Int → Int → Int → Int → Int → Int → Int → Int → Int → (List Int) → (List Int) → Prop),
    (∀ (s1 : Int) (s2 : Int) (s3 : Int) (s4 : Int) (s5 : Int) (s6 : Int) (s7 : Int) (s8 : Int) (s9 : Int) (s10 : Int) (s11 : List Int) (s12 : List Int), (br (decide ((s4 : Int) ≤ s1))
    (c17 (IntKind.wrap .i64 (s3 + s4)) s2 s5 s6 s7 s8 s9 s10 s11 s12
     (fun z13 z14 z15 z16 z17 z18 z19 z20 => I1 s1 s2 s3 (IntKind.wrap .i64 (s4 + 1)) z13 z14 z15 z16 z17 z18 z19 z20)
     (fun z21 z22 z23 z24 z25 z26 z27 z28 => I1 s1 s2 s3 (IntKind.wrap .i64 (s4 + 1)) z21 z22 z23 z24 z25 z26 z27 z28))
    (k1 s3 s5 s6 s7 s8 s9 s10 s11 s12)) → I1 s1 s2 s3 s4 s5 s6 s7 s8 s9 s10 s11 s12) →
    I1 s1 s2 s3 s4 s5 s6 s7 s8 s9 s10 s11 s12
structure l7r14 (k1 : Int → Int → Int → Int → Int → Int → Int → (List Int) → (List Int) → Prop) (s1 : Int) (s2 : Int) (s3 : Int) (s4 : Int) (s5 : Int) (s6 : Int) (s7 : Int) (s8 : Int) (s9 : Int) (s10 : Int) (s11 : List Int) (s12 : List Int) : Prop where
  of : tl7r14 k1 s1 s2 s3 s4 s5 s6 s7 s8 s9 s10 s11 s12

def tc7 (x1 : Int) (x2 : Int) (x3 : Int) (x4 : Int) (x5 : Int) (x6 : Int) (x7 : Int) (x8 : Int) (x9 : Int) (x10 : List Int) (k1 : Int → Int → Int → Int → Int → Int → Int → Int → (List Int) → Prop) (k2 : Int → Int → Int → Int → Int → Int → Int → Int → (List Int) → (List Int) → Prop) : Prop :=
  c15 x1 0 258
  (fun z11 => br (!z11)
   (k1 0 1 x4 x5 x6 x7 x8 x9 x10)
   (c15 x2 0 4095
    (fun z12 => br (!z12)
     (k1 0 1 x4 x5 x6 x7 x8 x9 x10)
     (c15 x3 (-2147483648) 2147483647
      (fun z13 => br (!z13)
       (k1 0 4 x4 x5 x6 x7 x8 x9 x10)
       (c8 x2 x4 x5 x6 x7 x8 x9 x10
        (fun z14 z15 z16 z17 z18 z19 z20 z21 => br (!z14)
         (k1 0 16 z15 z16 z17 z18 z19 z20 z21)
         (br (decide (((IntKind.wrap .i64 (x2 + 1)) : Int) > (IntKind.wrap .i64 (z16 - 1))))
          (c16 x1 x2
           (fun z22 => br (true)
            (br (true)
             (br (true && true)
              (br (eqT (.int .i64) z20 z20)
               (br (decide ((0 : Int) ≤ z20 ∧ (z20 : Int) < (((List.length z21) : Nat) : Int)))
                (need False (z21)[(Int.toNat z20)]? fun y23 =>
                 l7r14
                  (fun z24 z25 z26 z27 z28 z29 z30 z31 z32 => k2 (IntKind.wrap .i64 (2 * z24)) 0 z25 z26 z27 z28 z29 z30 z31 z32)
                  x2 x3 z20 1 z15 z16 z17 z18 z19 (IntKind.wrap .i64 (z20 + (IntKind.wrap .i64 (x2 + 1)))) (List.set z21 (Int.toNat z20) z22) [])
                (False /- 39 -/))
               (False /- 942 -/))
              (False /- 942 -/))
             (False /- 942 -/))
            (False /- 942 -/)))
          (c16 x1 x2
           (fun z33 => br (true)
            (br (true)
             (br (true && true)
              (br (eqT (.int .i64) z17 z17)
               (br (decide ((0 : Int) ≤ z17 ∧ (z17 : Int) < (((List.length z21) : Nat) : Int)))
                (need False (z21)[(Int.toNat z17)]? fun y34 =>
                 l7r14
                  (fun z35 z36 z37 z38 z39 z40 z41 z42 z43 => k2 (IntKind.wrap .i64 (2 * z35)) 0 z36 z37 z38 z39 z40 z41 z42 z43)
                  x2 x3 z17 1 z15 z16 (IntKind.wrap .i64 (z17 + (IntKind.wrap .i64 (x2 + 1)))) z18 z19 z20 (List.set z21 (Int.toNat z17) z33) [])
                (False /- 39 -/))
               (False /- 942 -/))
              (False /- 942 -/))
             (False /- 942 -/))
            (False /- 942 -/)))))))))))
structure c7 (x1 : Int) (x2 : Int) (x3 : Int) (x4 : Int) (x5 : Int) (x6 : Int) (x7 : Int) (x8 : Int) (x9 : Int) (x10 : List Int) (k1 : Int → Int → Int → Int → Int → Int → Int → Int → (List Int) → Prop) (k2 : Int → Int → Int → Int → Int → Int → Int → Int → (List Int) → (List Int) → Prop) : Prop where
  of : tc7 x1 x2 x3 x4 x5 x6 x7 x8 x9 x10 k1 k2

def tc21 (x1 : Int) (k1 : Int → Int → Bool → Prop) : Prop :=
  br (((bitop .and .i64 x1 1) : Int) == 1)
  (c15 (shrI .i64 (shrI .i64 x1 1) 12) 0 258
   (fun z2 => k1 (shrI .i64 (shrI .i64 x1 1) 12) (bitop .and .i64 (shrI .i64 x1 1) 4095) z2))
  (k1 (shrI .i64 (shrI .i64 x1 1) 12) (bitop .and .i64 (shrI .i64 x1 1) 4095) false)
structure c21 (x1 : Int) (k1 : Int → Int → Bool → Prop) : Prop where
  of : tc21 x1 k1

def tc20 (x1 : Int) (x2 : Int) (x3 : Int) (x4 : Int) (x5 : Int) (x6 : Int) (x7 : Int) (x8 : List Int) (k1 : Int → Int → Int → Int → Int → Int → Int → (List Int) → Prop) : Prop :=
  br (decide ((x1 : Int) ≤ 0))
  (k1 (-1) x2 x3 x4 x5 x6 x7 x8)
  (br (((bitop .and .i64 x1 1) : Int) != 0)
   (k1 (-1) x2 x3 x4 x5 x6 x7 x8)
   (br (decide (((IntKind.wrap .i64 (Int.tdiv x1 2)) : Int) ≥ x3))
    (br (decide (((IntKind.wrap .i64 (Int.tdiv x1 2)) : Int) < x6))
     (k1 (-1) x2 x3 x4 x5 x6 x7 x8)
     (br (decide (((IntKind.wrap .i64 (Int.tdiv x1 2)) : Int) ≥ x7))
      (k1 (-1) x2 x3 x4 x5 x6 x7 x8)
      (br (decide ((0 : Int) ≤ (IntKind.wrap .i64 (Int.tdiv x1 2)) ∧ ((IntKind.wrap .i64 (Int.tdiv x1 2)) : Int) < (((List.length x8) : Nat) : Int)))
       (need False (x8)[(Int.toNat (IntKind.wrap .i64 (Int.tdiv x1 2)))]? fun y9 =>
        c21 y9
         (fun z10 z11 z12 => br (!z12)
          (k1 (-1) x2 x3 x4 x5 x6 x7 x8)
          (br (decide (((IntKind.wrap .i64 ((IntKind.wrap .i64 (Int.tdiv x1 2)) + z11)) : Int) ≥ x7))
           (k1 (-1) x2 x3 x4 x5 x6 x7 x8)
           (k1 z11 x2 x3 x4 x5 x6 x7 x8))))
       (False /- 39 -/))))
    (br (decide (((IntKind.wrap .i64 (Int.tdiv x1 2)) : Int) ≥ x4))
     (k1 (-1) x2 x3 x4 x5 x6 x7 x8)
     (br (decide ((0 : Int) ≤ (IntKind.wrap .i64 (Int.tdiv x1 2)) ∧ ((IntKind.wrap .i64 (Int.tdiv x1 2)) : Int) < (((List.length x8) : Nat) : Int)))
      (need False (x8)[(Int.toNat (IntKind.wrap .i64 (Int.tdiv x1 2)))]? fun y13 =>
       c21 y13
        (fun z14 z15 z16 => br (!z16)
         (k1 (-1) x2 x3 x4 x5 x6 x7 x8)
         (br (decide (((IntKind.wrap .i64 ((IntKind.wrap .i64 (Int.tdiv x1 2)) + z15)) : Int) ≥ x4))
          (k1 (-1) x2 x3 x4 x5 x6 x7 x8)
          (k1 z15 x2 x3 x4 x5 x6 x7 x8))))
      (False /- 39 -/)))))
structure c20 (x1 : Int) (x2 : Int) (x3 : Int) (x4 : Int) (x5 : Int) (x6 : Int) (x7 : Int) (x8 : List Int) (k1 : Int → Int → Int → Int → Int → Int → Int → (List Int) → Prop) : Prop where
  of : tc20 x1 x2 x3 x4 x5 x6 x7 x8 k1

def tc11 (x1 : Int) (x2 : Int) (x3 : Int) (x4 : Int) (x5 : Int) (x6 : Int) (x7 : Int) (x8 : List Int) (k1 : Int → Int → Int → Int → Int → Int → Int → Int → Int → (List Int) → Prop) : Prop :=
  c20 x1 x2 x3 x4 x5 x6 x7 x8
  (fun z9 z10 z11 z12 z13 z14 z15 z16 => br (decide ((z9 : Int) < 0))
   (k1 0 0 1 z10 z11 z12 z13 z14 z15 z16)
   (br (decide ((0 : Int) ≤ (IntKind.wrap .i64 (Int.tdiv x1 2)) ∧ ((IntKind.wrap .i64 (Int.tdiv x1 2)) : Int) < (((List.length z16) : Nat) : Int)))
    (need False (z16)[(Int.toNat (IntKind.wrap .i64 (Int.tdiv x1 2)))]? fun y17 =>
     c21 y17
      (fun z18 z19 z20 => k1 z18 z19 0 z10 z11 z12 z13 z14 z15 z16))
    (False /- 39 -/)))
structure c11 (x1 : Int) (x2 : Int) (x3 : Int) (x4 : Int) (x5 : Int) (x6 : Int) (x7 : Int) (x8 : List Int) (k1 : Int → Int → Int → Int → Int → Int → Int → Int → Int → (List Int) → Prop) : Prop where
  of : tc11 x1 x2 x3 x4 x5 x6 x7 x8 k1

def tc20v2 (x1 : Int) (x2 : Int) (x3 : Int) (x4 : Int) (x5 : Int) (x6 : Int) (x7 : Int) (x8 : List Int) (x9 : List Int) (k1 : Int → Int → Int → Int → Int → Int → Int → (List Int) → (List Int) → Prop) : Prop :=
  br (decide ((x1 : Int) ≤ 0))
  (k1 (-1) x2 x3 x4 x5 x6 x7 x8 x9)
  (br (((bitop .and .i64 x1 1) : Int) != 0)
   (k1 (-1) x2 x3 x4 x5 x6 x7 x8 x9)
   (br (decide (((IntKind.wrap .i64 (Int.tdiv x1 2)) : Int) ≥ x3))
    (br (decide (((IntKind.wrap .i64 (Int.tdiv x1 2)) : Int) < x6))
     (k1 (-1) x2 x3 x4 x5 x6 x7 x8 x9)
     (br (decide (((IntKind.wrap .i64 (Int.tdiv x1 2)) : Int) ≥ x7))
      (k1 (-1) x2 x3 x4 x5 x6 x7 x8 x9)
      (br (decide ((0 : Int) ≤ (IntKind.wrap .i64 (Int.tdiv x1 2)) ∧ ((IntKind.wrap .i64 (Int.tdiv x1 2)) : Int) < (((List.length x8) : Nat) : Int)))
       (need False (x8)[(Int.toNat (IntKind.wrap .i64 (Int.tdiv x1 2)))]? fun y10 =>
        c21 y10
         (fun z11 z12 z13 => br (!z13)
          (k1 (-1) x2 x3 x4 x5 x6 x7 x8 x9)
          (br (decide (((IntKind.wrap .i64 ((IntKind.wrap .i64 (Int.tdiv x1 2)) + z12)) : Int) ≥ x7))
           (k1 (-1) x2 x3 x4 x5 x6 x7 x8 x9)
           (k1 z12 x2 x3 x4 x5 x6 x7 x8 x9))))
       (False /- 39 -/))))
    (br (decide (((IntKind.wrap .i64 (Int.tdiv x1 2)) : Int) ≥ x4))
     (k1 (-1) x2 x3 x4 x5 x6 x7 x8 x9)
     (br (decide ((0 : Int) ≤ (IntKind.wrap .i64 (Int.tdiv x1 2)) ∧ ((IntKind.wrap .i64 (Int.tdiv x1 2)) : Int) < (((List.length x8) : Nat) : Int)))
      (need False (x8)[(Int.toNat (IntKind.wrap .i64 (Int.tdiv x1 2)))]? fun y14 =>
       c21 y14
        (fun z15 z16 z17 => br (!z17)
         (k1 (-1) x2 x3 x4 x5 x6 x7 x8 x9)
         (br (decide (((IntKind.wrap .i64 ((IntKind.wrap .i64 (Int.tdiv x1 2)) + z16)) : Int) ≥ x4))
          (k1 (-1) x2 x3 x4 x5 x6 x7 x8 x9)
          (k1 z16 x2 x3 x4 x5 x6 x7 x8 x9))))
      (False /- 39 -/)))))
structure c20v2 (x1 : Int) (x2 : Int) (x3 : Int) (x4 : Int) (x5 : Int) (x6 : Int) (x7 : Int) (x8 : List Int) (x9 : List Int) (k1 : Int → Int → Int → Int → Int → Int → Int → (List Int) → (List Int) → Prop) : Prop where
  of : tc20v2 x1 x2 x3 x4 x5 x6 x7 x8 x9 k1

def tc11v2 (x1 : Int) (x2 : Int) (x3 : Int) (x4 : Int) (x5 : Int) (x6 : Int) (x7 : Int) (x8 : List Int) (x9 : List Int) (k1 : Int → Int → Int → Int → Int → Int → Int → Int → Int → (List Int) → (List Int) → Prop) : Prop :=
  c20v2 x1 x2 x3 x4 x5 x6 x7 x8 x9
  (fun z10 z11 z12 z13 z14 z15 z16 z17 z18 => br (decide ((z10 : Int) < 0))
   (k1 0 0 1 z11 z12 z13 z14 z15 z16 z17 z18)
   (br (decide ((0 : Int) ≤ (IntKind.wrap .i64 (Int.tdiv x1 2)) ∧ ((IntKind.wrap .i64 (Int.tdiv x1 2)) : Int) < (((List.length z17) : Nat) : Int)))
    (need False (z17)[(Int.toNat (IntKind.wrap .i64 (Int.tdiv x1 2)))]? fun y19 =>
     c21 y19
      (fun z20 z21 z22 => k1 z20 z21 0 z11 z12 z13 z14 z15 z16 z17 z18))
    (False /- 39 -/)))
structure c11v2 (x1 : Int) (x2 : Int) (x3 : Int) (x4 : Int) (x5 : Int) (x6 : Int) (x7 : Int) (x8 : List Int) (x9 : List Int) (k1 : Int → Int → Int → Int → Int → Int → Int → Int → Int → (List Int) → (List Int) → Prop) : Prop where
  of : tc11v2 x1 x2 x3 x4 x5 x6 x7 x8 x9 k1

def tc6 (k1 : Bool → Prop) : Prop :=
  c5 64 8 16
  (fun z1 z2 => br ((z2 : Int) != 0)
   (k1 false)
   (k1 false))
  (fun z3 z4 z5 z6 z7 z8 z9 z10 => br ((z3 : Int) != 0)
   (k1 false)
   (c7 3 2 5 z4 z5 z6 z7 z8 z9 z10
    (fun z11 z12 z13 z14 z15 z16 z17 z18 z19 => c11 z11 z13 z14 z15 z16 z17 z18 z19
     (fun z20 z21 z22 z23 z24 z25 z26 z27 z28 z29 => br ((z12 : Int) == 0)
      (br ((z22 : Int) == 0)
       (br ((z11 : Int) == 2)
        (br ((z20 : Int) == 3)
         (k1 ((z21 : Int) == 2))
         (k1 false))
        (k1 false))
       (k1 false))
      (k1 false)))
    (fun z30 z31 z32 z33 z34 z35 z36 z37 z38 z39 => c11v2 z30 z32 z33 z34 z35 z36 z37 z38 z39
     (fun z40 z41 z42 z43 z44 z45 z46 z47 z48 z49 z50 => br ((z31 : Int) == 0)
      (br ((z42 : Int) == 0)
       (br ((z30 : Int) == 2)
        (br ((z40 : Int) == 3)
         (k1 ((z41 : Int) == 2))
         (k1 false))
        (k1 false))
       (k1 false))
      (k1 false)))))
structure c6 (k1 : Bool → Prop) : Prop where
  of : tc6 k1

def tc8v2 (x1 : Int) (x2 : Int) (x3 : Int) (x4 : Int) (x5 : Int) (x6 : Int) (x7 : Int) (x8 : List Int) (x9 : List Int) (k1 : Bool → Int → Int → Int → Int → Int → Int → (List Int) → (List Int) → Prop) : Prop :=
  br (decide (((IntKind.wrap .i64 (x1 + 1)) : Int) > (IntKind.wrap .i64 (x3 - 1))))
  (k1 (decide (((IntKind.wrap .i64 ((IntKind.wrap .i64 (x7 + x1)) + 1)) : Int) ≤ (IntKind.wrap .i64 (x6 + x5)))) x2 x3 x4 x5 x6 x7 x8 x9)
  (k1 (decide (((IntKind.wrap .i64 ((IntKind.wrap .i64 (x4 + x1)) + 1)) : Int) ≤ x3)) x2 x3 x4 x5 x6 x7 x8 x9)
structure c8v2 (x1 : Int) (x2 : Int) (x3 : Int) (x4 : Int) (x5 : Int) (x6 : Int) (x7 : Int) (x8 : List Int) (x9 : List Int) (k1 : Bool → Int → Int → Int → Int → Int → Int → (List Int) → (List Int) → Prop) : Prop where
  of : tc8v2 x1 x2 x3 x4 x5 x6 x7 x8 x9 k1

def tl7r14v2 (k1 : Int → Int → Int → Int → Int → Int → Int → (List Int) → (List Int) → Prop) (k2 : Int → Int → Int → Int → Int → Int → Int → (List Int) → (List Int) → Prop) (s1 : Int) (s2 : Int) (s3 : Int) (s4 : Int) (s5 : Int) (s6 : Int) (s7 : Int) (s8 : Int) (s9 : Int) (s10 : Int) (s11 : List Int) (s12 : List Int) : Prop :=
  ∀ (I1 : Int → Int → Int → Int → Int → Int → Int → Int → Int → Int → (List Int) → (List Int) → Prop) (I2 : Int → Int → Int → Int → Int → Int → Int → Int → Int → Int → (List Int) → (List Int) → Prop),
    (∀ (s1 : Int) (s2 : Int) (s3 : Int) (s4 : Int) (s5 : Int) (s6 : Int) (s7 : Int) (s8 : Int) (s9 : Int) (s10 : Int) (s11 : List Int) (s12 : List Int), (br (decide ((s4 : Int) ≤ s1))
    (c17 (IntKind.wrap .i64 (s3 + s4)) s2 s5 s6 s7 s8 s9 s10 s11 s12
     (fun z13 z14 z15 z16 z17 z18 z19 z20 => I2 s1 s2 s3 (IntKind.wrap .i64 (s4 + 1)) z13 z14 z15 z16 z17 z18 z19 z20)
     (fun z21 z22 z23 z24 z25 z26 z27 z28 => I1 s1 s2 s3 (IntKind.wrap .i64 (s4 + 1)) z21 z22 z23 z24 z25 z26 z27 z28))
    (k1 s3 s5 s6 s7 s8 s9 s10 s11 s12)) → I1 s1 s2 s3 s4 s5 s6 s7 s8 s9 s10 s11 s12) →
    (∀ (s29 : Int) (s30 : Int) (s31 : Int) (s32 : Int) (s33 : Int) (s34 : Int) (s35 : Int) (s36 : Int) (s37 : Int) (s38 : Int) (s39 : List Int) (s40 : List Int), (br (decide ((s32 : Int) ≤ s29))
    (c17 (IntKind.wrap .i64 (s31 + s32)) s30 s33 s34 s35 s36 s37 s38 s39 s40
     (fun z41 z42 z43 z44 z45 z46 z47 z48 => I2 s29 s30 s31 (IntKind.wrap .i64 (s32 + 1)) z41 z42 z43 z44 z45 z46 z47 z48)
     (fun z49 z50 z51 z52 z53 z54 z55 z56 => I2 s29 s30 s31 (IntKind.wrap .i64 (s32 + 1)) z49 z50 z51 z52 z53 z54 z55 z56))
    (k2 s31 s33 s34 s35 s36 s37 s38 s39 s40)) → I2 s29 s30 s31 s32 s33 s34 s35 s36 s37 s38 s39 s40) →
    I1 s1 s2 s3 s4 s5 s6 s7 s8 s9 s10 s11 s12
structure l7r14v2 (k1 : Int → Int → Int → Int → Int → Int → Int → (List Int) → (List Int) → Prop) (k2 : Int → Int → Int → Int → Int → Int → Int → (List Int) → (List Int) → Prop) (s1 : Int) (s2 : Int) (s3 : Int) (s4 : Int) (s5 : Int) (s6 : Int) (s7 : Int) (s8 : Int) (s9 : Int) (s10 : Int) (s11 : List Int) (s12 : List Int) : Prop where
  of : tl7r14v2 k1 k2 s1 s2 s3 s4 s5 s6 s7 s8 s9 s10 s11 s12

def tc7v2 (x1 : Int) (x2 : Int) (x3 : Int) (x4 : Int) (x5 : Int) (x6 : Int) (x7 : Int) (x8 : Int) (x9 : Int) (x10 : List Int) (x11 : List Int) (k1 : Int → Int → Int → Int → Int → Int → Int → Int → (List Int) → (List Int) → Prop) (k2 : Int → Int → Int → Int → Int → Int → Int → Int → (List Int) → (List Int) → Prop) : Prop :=
  c15 x1 0 258
  (fun z12 => br (!z12)
   (k1 0 1 x4 x5 x6 x7 x8 x9 x10 x11)
   (c15 x2 0 4095
    (fun z13 => br (!z13)
     (k1 0 1 x4 x5 x6 x7 x8 x9 x10 x11)
     (c15 x3 (-2147483648) 2147483647
      (fun z14 => br (!z14)
       (k1 0 4 x4 x5 x6 x7 x8 x9 x10 x11)
       (c8v2 x2 x4 x5 x6 x7 x8 x9 x10 x11
        (fun z15 z16 z17 z18 z19 z20 z21 z22 z23 => br (!z15)
         (k1 0 16 z16 z17 z18 z19 z20 z21 z22 z23)
         (br (decide (((IntKind.wrap .i64 (x2 + 1)) : Int) > (IntKind.wrap .i64 (z17 - 1))))
          (c16 x1 x2
           (fun z24 => br (true)
            (br (true)
             (br (true && true)
              (br (eqT (.int .i64) z21 z21)
               (br (decide ((0 : Int) ≤ z21 ∧ (z21 : Int) < (((List.length z22) : Nat) : Int)))
                (need False (z22)[(Int.toNat z21)]? fun y25 =>
                 l7r14v2
                  (fun z26 z27 z28 z29 z30 z31 z32 z33 z34 => k1 (IntKind.wrap .i64 (2 * z26)) 0 z27 z28 z29 z30 z31 z32 z33 z34)
                  (fun z35 z36 z37 z38 z39 z40 z41 z42 z43 => k2 (IntKind.wrap .i64 (2 * z35)) 0 z36 z37 z38 z39 z40 z41 z42 z43)
                  x2 x3 z21 1 z16 z17 z18 z19 z20 (IntKind.wrap .i64 (z21 + (IntKind.wrap .i64 (x2 + 1)))) (List.set z22 (Int.toNat z21) z24) z23)
                (False /- 39 -/))
               (False /- 942 -/))
              (False /- 942 -/))
             (False /- 942 -/))
            (False /- 942 -/)))
          (c16 x1 x2
           (fun z44 => br (true)
            (br (true)
             (br (true && true)
              (br (eqT (.int .i64) z18 z18)
               (br (decide ((0 : Int) ≤ z18 ∧ (z18 : Int) < (((List.length z22) : Nat) : Int)))
                (need False (z22)[(Int.toNat z18)]? fun y45 =>
                 l7r14v2
                  (fun z46 z47 z48 z49 z50 z51 z52 z53 z54 => k1 (IntKind.wrap .i64 (2 * z46)) 0 z47 z48 z49 z50 z51 z52 z53 z54)
                  (fun z55 z56 z57 z58 z59 z60 z61 z62 z63 => k2 (IntKind.wrap .i64 (2 * z55)) 0 z56 z57 z58 z59 z60 z61 z62 z63)
                  x2 x3 z18 1 z16 z17 (IntKind.wrap .i64 (z18 + (IntKind.wrap .i64 (x2 + 1)))) z19 z20 z21 (List.set z22 (Int.toNat z18) z44) z23)
                (False /- 39 -/))
               (False /- 942 -/))
              (False /- 942 -/))
             (False /- 942 -/))
            (False /- 942 -/)))))))))))
structure c7v2 (x1 : Int) (x2 : Int) (x3 : Int) (x4 : Int) (x5 : Int) (x6 : Int) (x7 : Int) (x8 : Int) (x9 : Int) (x10 : List Int) (x11 : List Int) (k1 : Int → Int → Int → Int → Int → Int → Int → Int → (List Int) → (List Int) → Prop) (k2 : Int → Int → Int → Int → Int → Int → Int → Int → (List Int) → (List Int) → Prop) : Prop where
  of : tc7v2 x1 x2 x3 x4 x5 x6 x7 x8 x9 x10 x11 k1 k2

def tj3r34 (k1 : Bool → Prop) (k2 : Int → (List Int) → (List Int) → Int → Int → Int → Int → Int → Int → Int → Int → Int → Int → (List Int) → (List Int) → (List (Int × Int × Int × Unit)) → Prop) (s1 : Int) (s2 : List Int) (s3 : List Int) (s4 : Int) (s5 : Int) (s6 : Int) (s7 : Int) (s8 : Int) (s9 : Bool) (s10 : Int) (s11 : Int) (s12 : Int) (s13 : Int) (s14 : Int) (s15 : Int) (s16 : List Int) (s17 : List Int) (s18 : List (Int × Int × Int × Unit)) : Prop :=
  c8v2 s8 s10 s11 s12 s13 s14 s15 s16 s17
  (fun z19 z20 z21 z22 z23 z24 z25 z26 z27 => br (s9)
   (br (decide (((IntKind.wrap .i64 ((IntKind.wrap .i64 (s5 + s8)) + 1)) : Int) ≤ s1))
    (br (!((z19 : Bool) == true))
     (k1 false)
     (k2 s1 s2 s3 s4 s5 s6 s7 z20 z21 z22 z23 z24 z25 z26 z27 s18))
    (br (!s9)
     (br (!((z19 : Bool) == (decide (((IntKind.wrap .i64 ((IntKind.wrap .i64 (s6 + s8)) + 1)) : Int) ≤ s4))))
      (k1 false)
      (k2 s1 s2 s3 s4 s5 s6 s7 z20 z21 z22 z23 z24 z25 z26 z27 s18))
     (br (!((z19 : Bool) == false))
      (k1 false)
      (k2 s1 s2 s3 s4 s5 s6 s7 z20 z21 z22 z23 z24 z25 z26 z27 s18))))
   (br (!s9)
    (br (!((z19 : Bool) == (decide (((IntKind.wrap .i64 ((IntKind.wrap .i64 (s6 + s8)) + 1)) : Int) ≤ s4))))
     (k1 false)
     (k2 s1 s2 s3 s4 s5 s6 s7 z20 z21 z22 z23 z24 z25 z26 z27 s18))
    (br (!((z19 : Bool) == false))
     (k1 false)
     (k2 s1 s2 s3 s4 s5 s6 s7 z20 z21 z22 z23 z24 z25 z26 z27 s18))))
structure j3r34 (k1 : Bool → Prop) (k2 : Int → (List Int) → (List Int) → Int → Int → Int → Int → Int → Int → Int → Int → Int → Int → (List Int) → (List Int) → (List (Int × Int × Int × Unit)) → Prop) (s1 : Int) (s2 : List Int) (s3 : List Int) (s4 : Int) (s5 : Int) (s6 : Int) (s7 : Int) (s8 : Int) (s9 : Bool) (s10 : Int) (s11 : Int) (s12 : Int) (s13 : Int) (s14 : Int) (s15 : Int) (s16 : List Int) (s17 : List Int) (s18 : List (Int × Int × Int × Unit)) : Prop where
  of : tj3r34 k1 k2 s1 s2 s3 s4 s5 s6 s7 s8 s9 s10 s11 s12 s13 s14 s15 s16 s17 s18

def tj3r21 (k1 : Bool → Prop) (k2 : Int → (List Int) → (List Int) → Int → Int → Int → Int → Int → Int → Int → Int → Int → Int → (List Int) → (List Int) → (List (Int × Int × Int × Unit)) → Prop) (s1 : Int) (s2 : List Int) (s3 : List Int) (s4 : Int) (s5 : Int) (s6 : Int) (s7 : Int) (s8 : Int) (s9 : Int) (s10 : Bool) (s11 : Bool) (s12 : Int) (s13 : Int) (s14 : Int) (s15 : Int) (s16 : Int) (s17 : Int) (s18 : List Int) (s19 : List Int) (s20 : List (Int × Int × Int × Unit)) : Prop :=
  c4 s8 259
  (fun z21 => c7v2 z21 s9 1 s12 s13 s14 s15 s16 s17 s18 s19
   (fun z22 z23 z24 z25 z26 z27 z28 z29 z30 z31 => br (!s11)
    (br ((z23 : Int) != 16)
     (k1 false)
     (br ((z22 : Int) != 0)
      (k1 false)
      (j3r34
       (fun z32 => k1 z32)
       (fun z33 z34 z35 z36 z37 z38 z39 z40 z41 z42 z43 z44 z45 z46 z47 z48 => k2 z33 z34 z35 z36 z37 z38 z39 z40 z41 z42 z43 z44 z45 z46 z47 z48)
       s1 s2 s3 s4 s5 s6 s7 s9 s10 z24 z25 z26 z27 z28 z29 z30 z31 s20)))
    (br ((z23 : Int) != 0)
     (k1 false)
     (br (s10)
      (br ((z22 : Int) != (IntKind.wrap .i64 (2 * (IntKind.wrap .i64 (1 + s5)))))
       (k1 false)
       (br (roomB ((List.length s20) + 1) 24)
        (j3r34
         (fun z49 => k1 z49)
         (fun z50 z51 z52 z53 z54 z55 z56 z57 z58 z59 z60 z61 z62 z63 z64 z65 => k2 z50 z51 z52 z53 z54 z55 z56 z57 z58 z59 z60 z61 z62 z63 z64 z65)
         s1 s2 s3 s4 (IntKind.wrap .i64 (s5 + (IntKind.wrap .i64 (s9 + 1)))) s6 s7 s9 s10 z24 z25 z26 z27 z28 z29 z30 z31 (s20 ++ [(z22, s9, 1, ())]))
        (False /- 61 -/)))
      (br (roomB ((List.length s20) + 1) 24)
       (j3r34
        (fun z66 => k1 z66)
        (fun z67 z68 z69 z70 z71 z72 z73 z74 z75 z76 z77 z78 z79 z80 z81 z82 => k2 z67 z68 z69 z70 z71 z72 z73 z74 z75 z76 z77 z78 z79 z80 z81 z82)
        s1 s2 s3 s4 s5 (IntKind.wrap .i64 (s6 + (IntKind.wrap .i64 (s9 + 1)))) s7 s9 s10 z24 z25 z26 z27 z28 z29 z30 z31 (s20 ++ [(z22, s9, 0, ())]))
       (False /- 61 -/)))))
   (fun z83 z84 z85 z86 z87 z88 z89 z90 z91 z92 => br (!s11)
    (br ((z84 : Int) != 16)
     (k1 false)
     (br ((z83 : Int) != 0)
      (k1 false)
      (j3r34
       (fun z93 => k1 z93)
       (fun z94 z95 z96 z97 z98 z99 z100 z101 z102 z103 z104 z105 z106 z107 z108 z109 => k2 z94 z95 z96 z97 z98 z99 z100 z101 z102 z103 z104 z105 z106 z107 z108 z109)
       s1 s2 s3 s4 s5 s6 s7 s9 s10 z85 z86 z87 z88 z89 z90 z91 z92 s20)))
    (br ((z84 : Int) != 0)
     (k1 false)
     (br (s10)
      (br ((z83 : Int) != (IntKind.wrap .i64 (2 * (IntKind.wrap .i64 (1 + s5)))))
       (k1 false)
       (br (roomB ((List.length s20) + 1) 24)
        (j3r34
         (fun z110 => k1 z110)
         (fun z111 z112 z113 z114 z115 z116 z117 z118 z119 z120 z121 z122 z123 z124 z125 z126 => k2 z111 z112 z113 z114 z115 z116 z117 z118 z119 z120 z121 z122 z123 z124 z125 z126)
         s1 s2 s3 s4 (IntKind.wrap .i64 (s5 + (IntKind.wrap .i64 (s9 + 1)))) s6 s7 s9 s10 z85 z86 z87 z88 z89 z90 z91 z92 (s20 ++ [(z83, s9, 1, ())]))
        (False /- 61 -/)))
      (br (roomB ((List.length s20) + 1) 24)
       (j3r34
        (fun z127 => k1 z127)
        (fun z128 z129 z130 z131 z132 z133 z134 z135 z136 z137 z138 z139 z140 z141 z142 z143 => k2 z128 z129 z130 z131 z132 z133 z134 z135 z136 z137 z138 z139 z140 z141 z142 z143)
        s1 s2 s3 s4 s5 (IntKind.wrap .i64 (s6 + (IntKind.wrap .i64 (s9 + 1)))) s7 s9 s10 z85 z86 z87 z88 z89 z90 z91 z92 (s20 ++ [(z83, s9, 0, ())]))
       (False /- 61 -/))))))
structure j3r21 (k1 : Bool → Prop) (k2 : Int → (List Int) → (List Int) → Int → Int → Int → Int → Int → Int → Int → Int → Int → Int → (List Int) → (List Int) → (List (Int × Int × Int × Unit)) → Prop) (s1 : Int) (s2 : List Int) (s3 : List Int) (s4 : Int) (s5 : Int) (s6 : Int) (s7 : Int) (s8 : Int) (s9 : Int) (s10 : Bool) (s11 : Bool) (s12 : Int) (s13 : Int) (s14 : Int) (s15 : Int) (s16 : Int) (s17 : Int) (s18 : List Int) (s19 : List Int) (s20 : List (Int × Int × Int × Unit)) : Prop where
  of : tj3r21 k1 k2 s1 s2 s3 s4 s5 s6 s7 s8 s9 s10 s11 s12 s13 s14 s15 s16 s17 s18 s19 s20

def tj3r19 (k1 : Bool → Prop) (k2 : Int → (List Int) → (List Int) → Int → Int → Int → Int → Int → Int → Int → Int → Int → Int → (List Int) → (List Int) → (List (Int × Int × Int × Unit)) → Prop) (s1 : Int) (s2 : List Int) (s3 : List Int) (s4 : Int) (s5 : Int) (s6 : Int) (s7 : Int) (s8 : Int) (s9 : Int) (s10 : Int) (s11 : Int) (s12 : Int) (s13 : Int) (s14 : Int) (s15 : Int) (s16 : List Int) (s17 : List Int) (s18 : List (Int × Int × Int × Unit)) : Prop :=
  br (decide (((IntKind.wrap .i64 (s9 + 1)) : Int) ≤ s1))
  (br (decide (((IntKind.wrap .i64 ((IntKind.wrap .i64 (s5 + s9)) + 1)) : Int) ≤ s1))
   (j3r21
    (fun z19 => k1 z19)
    (fun z20 z21 z22 z23 z24 z25 z26 z27 z28 z29 z30 z31 z32 z33 z34 z35 => k2 z20 z21 z22 z23 z24 z25 z26 z27 z28 z29 z30 z31 z32 z33 z34 z35)
    s1 s2 s3 s4 s5 s6 s7 s8 s9 (decide (((IntKind.wrap .i64 (s9 + 1)) : Int) ≤ s1)) true s10 s11 s12 s13 s14 s15 s16 s17 s18)
   (br (!(decide (((IntKind.wrap .i64 (s9 + 1)) : Int) ≤ s1)))
    (j3r21
     (fun z36 => k1 z36)
     (fun z37 z38 z39 z40 z41 z42 z43 z44 z45 z46 z47 z48 z49 z50 z51 z52 => k2 z37 z38 z39 z40 z41 z42 z43 z44 z45 z46 z47 z48 z49 z50 z51 z52)
     s1 s2 s3 s4 s5 s6 s7 s8 s9 (decide (((IntKind.wrap .i64 (s9 + 1)) : Int) ≤ s1)) (decide (((IntKind.wrap .i64 ((IntKind.wrap .i64 (s6 + s9)) + 1)) : Int) ≤ s4)) s10 s11 s12 s13 s14 s15 s16 s17 s18)
    (j3r21
     (fun z53 => k1 z53)
     (fun z54 z55 z56 z57 z58 z59 z60 z61 z62 z63 z64 z65 z66 z67 z68 z69 => k2 z54 z55 z56 z57 z58 z59 z60 z61 z62 z63 z64 z65 z66 z67 z68 z69)
     s1 s2 s3 s4 s5 s6 s7 s8 s9 (decide (((IntKind.wrap .i64 (s9 + 1)) : Int) ≤ s1)) false s10 s11 s12 s13 s14 s15 s16 s17 s18)))
  (br (!(decide (((IntKind.wrap .i64 (s9 + 1)) : Int) ≤ s1)))
   (j3r21
    (fun z70 => k1 z70)
    (fun z71 z72 z73 z74 z75 z76 z77 z78 z79 z80 z81 z82 z83 z84 z85 z86 => k2 z71 z72 z73 z74 z75 z76 z77 z78 z79 z80 z81 z82 z83 z84 z85 z86)
    s1 s2 s3 s4 s5 s6 s7 s8 s9 (decide (((IntKind.wrap .i64 (s9 + 1)) : Int) ≤ s1)) (decide (((IntKind.wrap .i64 ((IntKind.wrap .i64 (s6 + s9)) + 1)) : Int) ≤ s4)) s10 s11 s12 s13 s14 s15 s16 s17 s18)
   (j3r21
    (fun z87 => k1 z87)
    (fun z88 z89 z90 z91 z92 z93 z94 z95 z96 z97 z98 z99 z100 z101 z102 z103 => k2 z88 z89 z90 z91 z92 z93 z94 z95 z96 z97 z98 z99 z100 z101 z102 z103)
    s1 s2 s3 s4 s5 s6 s7 s8 s9 (decide (((IntKind.wrap .i64 (s9 + 1)) : Int) ≤ s1)) false s10 s11 s12 s13 s14 s15 s16 s17 s18))
structure j3r19 (k1 : Bool → Prop) (k2 : Int → (List Int) → (List Int) → Int → Int → Int → Int → Int → Int → Int → Int → Int → Int → (List Int) → (List Int) → (List (Int × Int × Int × Unit)) → Prop) (s1 : Int) (s2 : List Int) (s3 : List Int) (s4 : Int) (s5 : Int) (s6 : Int) (s7 : Int) (s8 : Int) (s9 : Int) (s10 : Int) (s11 : Int) (s12 : Int) (s13 : Int) (s14 : Int) (s15 : Int) (s16 : List Int) (s17 : List Int) (s18 : List (Int × Int × Int × Unit)) : Prop where
  of : tj3r19 k1 k2 s1 s2 s3 s4 s5 s6 s7 s8 s9 s10 s11 s12 s13 s14 s15 s16 s17 s18

def tc12 (x1 : Int) (x2 : Int) (x3 : Int) (x4 : Int) (x5 : Int) (x6 : Int) (x7 : List Int) (x8 : List Int) (k1 : Int → Int → Int → Int → Int → Int → Int → Int → (List Int) → (List Int) → Prop) : Prop :=
  k1 (IntKind.wrap .i64 (x3 - 1)) (IntKind.wrap .i64 (x6 - x5)) x1 x2 x3 x4 x5 x6 x7 x8
structure c12 (x1 : Int) (x2 : Int) (x3 : Int) (x4 : Int) (x5 : Int) (x6 : Int) (x7 : List Int) (x8 : List Int) (k1 : Int → Int → Int → Int → Int → Int → Int → Int → (List Int) → (List Int) → Prop) : Prop where
  of : tc12 x1 x2 x3 x4 x5 x6 x7 x8 k1

def tj3r68 (k1 : Bool → Prop) (k2 : Int → (List Int) → (List Int) → Int → Int → Int → Int → Int → Int → Int → Int → Int → Int → (List Int) → (List Int) → (List (Int × Int × Int × Unit)) → Prop) (s1 : Int) (s2 : List Int) (s3 : List Int) (s4 : Int) (s5 : Int) (s6 : Int) (s7 : Int) (s8 : Int) (s9 : Int) (s10 : Int) (s11 : Int) (s12 : Int) (s13 : Int) (s14 : List Int) (s15 : List Int) (s16 : List (Int × Int × Int × Unit)) : Prop :=
  c12 s8 s9 s10 s11 s12 s13 s14 s15
  (fun z17 z18 z19 z20 z21 z22 z23 z24 z25 z26 => br ((z17 : Int) != s5)
   (k1 false)
   (br ((z18 : Int) != s6)
    (k1 false)
    (k2 s1 s2 s3 s4 s5 s6 s7 z19 z20 z21 z22 z23 z24 z25 z26 s16)))
structure j3r68 (k1 : Bool → Prop) (k2 : Int → (List Int) → (List Int) → Int → Int → Int → Int → Int → Int → Int → Int → Int → Int → (List Int) → (List Int) → (List (Int × Int × Int × Unit)) → Prop) (s1 : Int) (s2 : List Int) (s3 : List Int) (s4 : Int) (s5 : Int) (s6 : Int) (s7 : Int) (s8 : Int) (s9 : Int) (s10 : Int) (s11 : Int) (s12 : Int) (s13 : Int) (s14 : List Int) (s15 : List Int) (s16 : List (Int × Int × Int × Unit)) : Prop where
  of : tj3r68 k1 k2 s1 s2 s3 s4 s5 s6 s7 s8 s9 s10 s11 s12 s13 s14 s15 s16

def tl3r40 (k1 : Int → (List Int) → (List Int) → Int → Int → Int → Nat → Nat → Nat → Int → Int → Int → Int → Int → Int → Int → Int → Int → Int → (List Int) → (List Int) → (List (Int × Int × Int × Unit)) → (List Int) → Prop) (s1 : Int) (s2 : List Int) (s3 : List Int) (s4 : Int) (s5 : Int) (s6 : Int) (s7 : Nat) (s8 : Nat) (s9 : Nat) (s10 : Int) (s11 : Int) (s12 : Int) (s13 : Int) (s14 : Nat) (s15 : Nat) (s16 : Nat) (s17 : Int) (s18 : Int) (s19 : Int) (s20 : Int) (s21 : Int) (s22 : Int) (s23 : Int) (s24 : Int) (s25 : List Int) (s26 : List Int) (s27 : List (Int × Int × Int × Unit)) (s28 : List Int) : Prop :=
  ∀ (I1 : Int → (List Int) → (List Int) → Int → Int → Int → Nat → Nat → Nat → Int → Int → Int → Int → Nat → Nat → Nat → Int → Int → Int → Int → Int → Int → Int → Int → (List Int) → (List Int) → (List (Int × Int × Int × Unit)) → (List Int) → Prop),
    (∀ (s1 : Int) (s2 : List Int) (s3 : List Int) (s4 : Int) (s5 : Int) (s6 : Int) (s7 : Nat) (s8 : Nat) (s9 : Nat) (s10 : Int) (s11 : Int) (s12 : Int) (s13 : Int) (s14 : Nat) (s15 : Nat) (s16 : Nat) (s17 : Int) (s18 : Int) (s19 : Int) (s20 : Int) (s21 : Int) (s22 : Int) (s23 : Int) (s24 : Int) (s25 : List Int) (s26 : List Int) (s27 : List (Int × Int × Int × Unit)) (s28 : List Int), (br (decide ((s18 : Int) < s17))
    (br (decide ((0 : Int) ≤ s18 ∧ (s18 : Int) < ((s15 : Nat) : Int)))
     (need False (s27)[(s14 + (Int.toNat s18))]? fun y29 =>
      br (roomB ((List.length s28) + 1) 8)
       (I1 s1 s2 s3 s4 s5 s6 s7 s8 s9 s10 s11 (IntKind.wrap .i64 (s12 + (IntKind.wrap .i64 (y29.2.1 + 1)))) (IntKind.wrap .i64 (s13 + (IntKind.wrap .i64 (y29.2.2.1 * (IntKind.wrap .i64 (y29.2.1 + 1)))))) s14 s15 s16 s17 (IntKind.wrap .i64 (s18 + 1)) s19 s20 s21 s22 s23 s24 s25 s26 s27 (s28 ++ [y29.1]))
       (False /- 61 -/))
     (False /- 41 -/))
    (k1 s1 s2 s3 s4 s5 s6 s7 s8 s9 s10 s11 s12 s13 s19 s20 s21 s22 s23 s24 s25 s26 s27 s28)) → I1 s1 s2 s3 s4 s5 s6 s7 s8 s9 s10 s11 s12 s13 s14 s15 s16 s17 s18 s19 s20 s21 s22 s23 s24 s25 s26 s27 s28) →
    I1 s1 s2 s3 s4 s5 s6 s7 s8 s9 s10 s11 s12 s13 s14 s15 s16 s17 s18 s19 s20 s21 s22 s23 s24 s25 s26 s27 s28
structure l3r40 (k1 : Int → (List Int) → (List Int) → Int → Int → Int → Nat → Nat → Nat → Int → Int → Int → Int → Int → Int → Int → Int → Int → Int → (List Int) → (List Int) → (List (Int × Int × Int × Unit)) → (List Int) → Prop) (s1 : Int) (s2 : List Int) (s3 : List Int) (s4 : Int) (s5 : Int) (s6 : Int) (s7 : Nat) (s8 : Nat) (s9 : Nat) (s10 : Int) (s11 : Int) (s12 : Int) (s13 : Int) (s14 : Nat) (s15 : Nat) (s16 : Nat) (s17 : Int) (s18 : Int) (s19 : Int) (s20 : Int) (s21 : Int) (s22 : Int) (s23 : Int) (s24 : Int) (s25 : List Int) (s26 : List Int) (s27 : List (Int × Int × Int × Unit)) (s28 : List Int) : Prop where
  of : tl3r40 k1 s1 s2 s3 s4 s5 s6 s7 s8 s9 s10 s11 s12 s13 s14 s15 s16 s17 s18 s19 s20 s21 s22 s23 s24 s25 s26 s27 s28

def tc18 (x1 : Int) (x2 : Int) (x3 : Int) (x4 : Bool) (x5 : Bool) (x6 : Int) (x7 : Int) (x8 : Int) (x9 : Int) (x10 : Int) (x11 : Int) (x12 : List Int) (x13 : List Int) (x14 : List (Int × Int)) (k1 : Int → Int → Int → Bool → Bool → Int → Int → Int → Int → Int → Int → (List Int) → (List Int) → (List (Int × Int)) → Prop) : Prop :=
  br (x5)
  (k1 x1 x2 x3 x4 x5 x6 x7 x8 x9 x10 x11 x12 x13 x14)
  (br (x4)
   (c24 x1 x6 x7 x8 x9 x10 x11 x12 x13
    (fun z15 z16 z17 z18 z19 z20 z21 z22 z23 => br (!z15)
     (k1 x1 x2 x3 x4 x5 z16 z17 z18 z19 z20 z21 z22 z23 x14)
     (c20v2 x1 z16 z17 z18 z19 z20 z21 z22 z23
      (fun z24 z25 z26 z27 z28 z29 z30 z31 z32 => br (decide ((z24 : Int) < 0))
       (k1 x1 x2 x3 x4 x5 z25 z26 z27 z28 z29 z30 z31 z32 x14)
       (br (mhas x14 (IntKind.wrap .i64 (Int.tdiv x1 2)))
        (k1 (IntKind.wrap .i64 (2 * (mval 0 x14 (IntKind.wrap .i64 (Int.tdiv x1 2))))) x2 x3 x4 x5 z25 z26 z27 z28 z29 z30 z31 z32 x14)
        (br (decide (((IntKind.wrap .i64 ((IntKind.wrap .i64 (x2 + z24)) + 1)) : Int) > x3))
         (k1 x1 x2 x3 x4 true z25 z26 z27 z28 z29 z30 z31 z32 x14)
         (br (decide ((0 : Int) ≤ x2 ∧ (x2 : Int) ≤ (IntKind.wrap .i64 ((IntKind.wrap .i64 (x2 + z24)) + 1)) ∧ ((IntKind.wrap .i64 ((IntKind.wrap .i64 (x2 + z24)) + 1)) : Int) ≤ (((List.length z31) : Nat) : Int) ∧ ((((List.length z31) : Nat) : Int) : Int) ≤ (((List.length z31) : Nat) : Int)))
          (br (decide ((0 : Int) ≤ (IntKind.wrap .i64 (Int.tdiv x1 2)) ∧ ((IntKind.wrap .i64 (Int.tdiv x1 2)) : Int) ≤ (IntKind.wrap .i64 ((IntKind.wrap .i64 ((IntKind.wrap .i64 (Int.tdiv x1 2)) + z24)) + 1)) ∧ ((IntKind.wrap .i64 ((IntKind.wrap .i64 ((IntKind.wrap .i64 (Int.tdiv x1 2)) + z24)) + 1)) : Int) ≤ (((List.length z31) : Nat) : Int) ∧ ((((List.length z31) : Nat) : Int) : Int) ≤ (((List.length z31) : Nat) : Int)))
           (k1 (IntKind.wrap .i64 (2 * x2)) (IntKind.wrap .i64 (x2 + (IntKind.wrap .i64 (z24 + 1)))) x3 x4 x5 z25 z26 z27 z28 z29 z30 (((List.take (Int.toNat x2) z31) ++ (List.take (Int.toNat ((IntKind.wrap .i64 ((IntKind.wrap .i64 (x2 + z24)) + 1)) - x2)) (List.take (Int.toNat ((IntKind.wrap .i64 ((IntKind.wrap .i64 ((IntKind.wrap .i64 (Int.tdiv x1 2)) + z24)) + 1)) - (IntKind.wrap .i64 (Int.tdiv x1 2)))) (List.drop (Int.toNat (IntKind.wrap .i64 (Int.tdiv x1 2))) z31)))) ++ (List.drop ((Int.toNat x2) + (List.length (List.take (Int.toNat ((IntKind.wrap .i64 ((IntKind.wrap .i64 (x2 + z24)) + 1)) - x2)) (List.take (Int.toNat ((IntKind.wrap .i64 ((IntKind.wrap .i64 ((IntKind.wrap .i64 (Int.tdiv x1 2)) + z24)) + 1)) - (IntKind.wrap .i64 (Int.tdiv x1 2)))) (List.drop (Int.toNat (IntKind.wrap .i64 (Int.tdiv x1 2))) z31))))) z31)) z32 (mput x14 (IntKind.wrap .i64 (Int.tdiv x1 2)) x2))
           (False /- 82 -/))
          (False /- 82 -/))))))))
   (c20v2 x1 x6 x7 x8 x9 x10 x11 x12 x13
    (fun z33 z34 z35 z36 z37 z38 z39 z40 z41 => br (decide ((z33 : Int) < 0))
     (k1 x1 x2 x3 x4 x5 z34 z35 z36 z37 z38 z39 z40 z41 x14)
     (br (mhas x14 (IntKind.wrap .i64 (Int.tdiv x1 2)))
      (k1 (IntKind.wrap .i64 (2 * (mval 0 x14 (IntKind.wrap .i64 (Int.tdiv x1 2))))) x2 x3 x4 x5 z34 z35 z36 z37 z38 z39 z40 z41 x14)
      (br (decide (((IntKind.wrap .i64 ((IntKind.wrap .i64 (x2 + z33)) + 1)) : Int) > x3))
       (k1 x1 x2 x3 x4 true z34 z35 z36 z37 z38 z39 z40 z41 x14)
       (br (decide ((0 : Int) ≤ x2 ∧ (x2 : Int) ≤ (IntKind.wrap .i64 ((IntKind.wrap .i64 (x2 + z33)) + 1)) ∧ ((IntKind.wrap .i64 ((IntKind.wrap .i64 (x2 + z33)) + 1)) : Int) ≤ (((List.length z40) : Nat) : Int) ∧ ((((List.length z40) : Nat) : Int) : Int) ≤ (((List.length z40) : Nat) : Int)))
        (br (decide ((0 : Int) ≤ (IntKind.wrap .i64 (Int.tdiv x1 2)) ∧ ((IntKind.wrap .i64 (Int.tdiv x1 2)) : Int) ≤ (IntKind.wrap .i64 ((IntKind.wrap .i64 ((IntKind.wrap .i64 (Int.tdiv x1 2)) + z33)) + 1)) ∧ ((IntKind.wrap .i64 ((IntKind.wrap .i64 ((IntKind.wrap .i64 (Int.tdiv x1 2)) + z33)) + 1)) : Int) ≤ (((List.length z40) : Nat) : Int) ∧ ((((List.length z40) : Nat) : Int) : Int) ≤ (((List.length z40) : Nat) : Int)))
         (k1 (IntKind.wrap .i64 (2 * x2)) (IntKind.wrap .i64 (x2 + (IntKind.wrap .i64 (z33 + 1)))) x3 x4 x5 z34 z35 z36 z37 z38 z39 (((List.take (Int.toNat x2) z40) ++ (List.take (Int.toNat ((IntKind.wrap .i64 ((IntKind.wrap .i64 (x2 + z33)) + 1)) - x2)) (List.take (Int.toNat ((IntKind.wrap .i64 ((IntKind.wrap .i64 ((IntKind.wrap .i64 (Int.tdiv x1 2)) + z33)) + 1)) - (IntKind.wrap .i64 (Int.tdiv x1 2)))) (List.drop (Int.toNat (IntKind.wrap .i64 (Int.tdiv x1 2))) z40)))) ++ (List.drop ((Int.toNat x2) + (List.length (List.take (Int.toNat ((IntKind.wrap .i64 ((IntKind.wrap .i64 (x2 + z33)) + 1)) - x2)) (List.take (Int.toNat ((IntKind.wrap .i64 ((IntKind.wrap .i64 ((IntKind.wrap .i64 (Int.tdiv x1 2)) + z33)) + 1)) - (IntKind.wrap .i64 (Int.tdiv x1 2)))) (List.drop (Int.toNat (IntKind.wrap .i64 (Int.tdiv x1 2))) z40))))) z40)) z41 (mput x14 (IntKind.wrap .i64 (Int.tdiv x1 2)) x2))
         (False /- 82 -/))
        (False /- 82 -/)))))))
structure c18 (x1 : Int) (x2 : Int) (x3 : Int) (x4 : Bool) (x5 : Bool) (x6 : Int) (x7 : Int) (x8 : Int) (x9 : Int) (x10 : Int) (x11 : Int) (x12 : List Int) (x13 : List Int) (x14 : List (Int × Int)) (k1 : Int → Int → Int → Bool → Bool → Int → Int → Int → Int → Int → Int → (List Int) → (List Int) → (List (Int × Int)) → Prop) : Prop where
  of : tc18 x1 x2 x3 x4 x5 x6 x7 x8 x9 x10 x11 x12 x13 x14 k1

def tl10r9 (k1 : Int → Int → Int → Int → Int → Int → Int → (List Int) → (List Int) → Int → Int → Bool → Bool → (List (Int × Int)) → (List Int) → Prop) (s1 : Int) (s2 : List Int) (s3 : Int) (s4 : Int) (s5 : Int) (s6 : Int) (s7 : Int) (s8 : Int) (s9 : Int) (s10 : Int) (s11 : List Int) (s12 : List Int) (s13 : Int) (s14 : Int) (s15 : Bool) (s16 : Bool) (s17 : List (Int × Int)) (s18 : List Int) : Prop :=
  ∀ (I1 : Int → (List Int) → Int → Int → Int → Int → Int → Int → Int → Int → (List Int) → (List Int) → Int → Int → Bool → Bool → (List (Int × Int)) → (List Int) → Prop),
    (∀ (s1 : Int) (s2 : List Int) (s3 : Int) (s4 : Int) (s5 : Int) (s6 : Int) (s7 : Int) (s8 : Int) (s9 : Int) (s10 : Int) (s11 : List Int) (s12 : List Int) (s13 : Int) (s14 : Int) (s15 : Bool) (s16 : Bool) (s17 : List (Int × Int)) (s18 : List Int), (br (decide ((s4 : Int) < s3))
    (need False (at? s2 s4) fun y19 =>
     c18 y19 s13 s14 s15 s16 s5 s6 s7 s8 s9 s10 s11 s12 s17
      (fun z20 z21 z22 z23 z24 z25 z26 z27 z28 z29 z30 z31 z32 z33 => br (decide ((0 : Int) ≤ s4 ∧ (s4 : Int) < (((List.length s18) : Nat) : Int)))
       (need False (s18)[(Int.toNat s4)]? fun y34 =>
        I1 s1 s2 s3 (IntKind.wrap .i64 (s4 + 1)) z25 z26 z27 z28 z29 z30 z31 z32 z21 z22 z23 z24 z33 (List.set s18 (Int.toNat s4) z20))
       (False /- 39 -/)))
    (k1 s1 s5 s6 s7 s8 s9 s10 s11 s12 s13 s14 s15 s16 s17 s18)) → I1 s1 s2 s3 s4 s5 s6 s7 s8 s9 s10 s11 s12 s13 s14 s15 s16 s17 s18) →
    I1 s1 s2 s3 s4 s5 s6 s7 s8 s9 s10 s11 s12 s13 s14 s15 s16 s17 s18
structure l10r9 (k1 : Int → Int → Int → Int → Int → Int → Int → (List Int) → (List Int) → Int → Int → Bool → Bool → (List (Int × Int)) → (List Int) → Prop) (s1 : Int) (s2 : List Int) (s3 : Int) (s4 : Int) (s5 : Int) (s6 : Int) (s7 : Int) (s8 : Int) (s9 : Int) (s10 : Int) (s11 : List Int) (s12 : List Int) (s13 : Int) (s14 : Int) (s15 : Bool) (s16 : Bool) (s17 : List (Int × Int)) (s18 : List Int) : Prop where
  of : tl10r9 k1 s1 s2 s3 s4 s5 s6 s7 s8 s9 s10 s11 s12 s13 s14 s15 s16 s17 s18

def tl19r3 (k1 : Int → Int → Int → Int → Bool → Bool → Int → Int → Int → Int → Int → Int → (List Int) → (List Int) → (List (Int × Int)) → Prop) (s1 : Int) (s2 : Int) (s3 : Int) (s4 : Int) (s5 : Int) (s6 : Bool) (s7 : Bool) (s8 : Int) (s9 : Int) (s10 : Int) (s11 : Int) (s12 : Int) (s13 : Int) (s14 : List Int) (s15 : List Int) (s16 : List (Int × Int)) : Prop :=
  ∀ (I1 : Int → Int → Int → Int → Int → Bool → Bool → Int → Int → Int → Int → Int → Int → (List Int) → (List Int) → (List (Int × Int)) → Prop),
    (∀ (s1 : Int) (s2 : Int) (s3 : Int) (s4 : Int) (s5 : Int) (s6 : Bool) (s7 : Bool) (s8 : Int) (s9 : Int) (s10 : Int) (s11 : Int) (s12 : Int) (s13 : Int) (s14 : List Int) (s15 : List Int) (s16 : List (Int × Int)), (br (decide ((s3 : Int) ≤ (IntKind.wrap .i64 (s1 + s2))))
    (br (decide ((0 : Int) ≤ s3 ∧ (s3 : Int) < (((List.length s14) : Nat) : Int)))
     (need False (s14)[(Int.toNat s3)]? fun y17 =>
      c18 y17 s4 s5 s6 s7 s8 s9 s10 s11 s12 s13 s14 s15 s16
       (fun z18 z19 z20 z21 z22 z23 z24 z25 z26 z27 z28 z29 z30 z31 => br (true)
        (br (true)
         (br (true && true)
          (br (true)
           (br (true)
            (br (true && true)
             (br (eqT (.int .i64) s3 s3)
              (br (decide ((0 : Int) ≤ s3 ∧ (s3 : Int) < (((List.length z29) : Nat) : Int)))
               (need False (z29)[(Int.toNat s3)]? fun y32 =>
                I1 s1 s2 (IntKind.wrap .i64 (s3 + 1)) z19 z20 z21 z22 z23 z24 z25 z26 z27 z28 (List.set z29 (Int.toNat s3) z18) z30 z31)
               (False /- 39 -/))
              (False /- 942 -/))
             (False /- 942 -/))
            (False /- 942 -/))
           (False /- 942 -/))
          (False /- 942 -/))
         (False /- 942 -/))
        (False /- 942 -/)))
     (False /- 39 -/))
    (k1 s1 s2 s4 s5 s6 s7 s8 s9 s10 s11 s12 s13 s14 s15 s16)) → I1 s1 s2 s3 s4 s5 s6 s7 s8 s9 s10 s11 s12 s13 s14 s15 s16) →
    I1 s1 s2 s3 s4 s5 s6 s7 s8 s9 s10 s11 s12 s13 s14 s15 s16
structure l19r3 (k1 : Int → Int → Int → Int → Bool → Bool → Int → Int → Int → Int → Int → Int → (List Int) → (List Int) → (List (Int × Int)) → Prop) (s1 : Int) (s2 : Int) (s3 : Int) (s4 : Int) (s5 : Int) (s6 : Bool) (s7 : Bool) (s8 : Int) (s9 : Int) (s10 : Int) (s11 : Int) (s12 : Int) (s13 : Int) (s14 : List Int) (s15 : List Int) (s16 : List (Int × Int)) : Prop where
  of : tl19r3 k1 s1 s2 s3 s4 s5 s6 s7 s8 s9 s10 s11 s12 s13 s14 s15 s16

def tl19r0 (k1 : Int → Int → Bool → Bool → Int → Int → Int → Int → Int → Int → (List Int) → (List Int) → (List (Int × Int)) → Prop) (s1 : Int) (s2 : Int) (s3 : Int) (s4 : Bool) (s5 : Bool) (s6 : Int) (s7 : Int) (s8 : Int) (s9 : Int) (s10 : Int) (s11 : Int) (s12 : List Int) (s13 : List Int) (s14 : List (Int × Int)) : Prop :=
  ∀ (I1 : Int → Int → Int → Bool → Bool → Int → Int → Int → Int → Int → Int → (List Int) → (List Int) → (List (Int × Int)) → Prop),
    (∀ (s1 : Int) (s2 : Int) (s3 : Int) (s4 : Bool) (s5 : Bool) (s6 : Int) (s7 : Int) (s8 : Int) (s9 : Int) (s10 : Int) (s11 : Int) (s12 : List Int) (s13 : List Int) (s14 : List (Int × Int)), (br (decide ((s1 : Int) < s2))
    (br (!s5)
     (br (decide ((0 : Int) ≤ s1 ∧ (s1 : Int) < (((List.length s12) : Nat) : Int)))
      (need False (s12)[(Int.toNat s1)]? fun y15 =>
       c21 y15
        (fun z16 z17 z18 => l19r3
         (fun z19 z20 z21 z22 z23 z24 z25 z26 z27 z28 z29 z30 z31 z32 z33 => I1 (IntKind.wrap .i64 (z19 + (IntKind.wrap .i64 (z20 + 1)))) z21 z22 z23 z24 z25 z26 z27 z28 z29 z30 z31 z32 z33)
         s1 z17 (IntKind.wrap .i64 (s1 + 1)) s2 s3 s4 s5 s6 s7 s8 s9 s10 s11 s12 s13 s14))
      (False /- 39 -/))
     (k1 s2 s3 s4 s5 s6 s7 s8 s9 s10 s11 s12 s13 s14))
    (k1 s2 s3 s4 s5 s6 s7 s8 s9 s10 s11 s12 s13 s14)) → I1 s1 s2 s3 s4 s5 s6 s7 s8 s9 s10 s11 s12 s13 s14) →
    I1 s1 s2 s3 s4 s5 s6 s7 s8 s9 s10 s11 s12 s13 s14
structure l19r0 (k1 : Int → Int → Bool → Bool → Int → Int → Int → Int → Int → Int → (List Int) → (List Int) → (List (Int × Int)) → Prop) (s1 : Int) (s2 : Int) (s3 : Int) (s4 : Bool) (s5 : Bool) (s6 : Int) (s7 : Int) (s8 : Int) (s9 : Int) (s10 : Int) (s11 : Int) (s12 : List Int) (s13 : List Int) (s14 : List (Int × Int)) : Prop where
  of : tl19r0 k1 s1 s2 s3 s4 s5 s6 s7 s8 s9 s10 s11 s12 s13 s14

def tc19 (x1 : Int) (x2 : Int) (x3 : Int) (x4 : Bool) (x5 : Bool) (x6 : Int) (x7 : Int) (x8 : Int) (x9 : Int) (x10 : Int) (x11 : Int) (x12 : List Int) (x13 : List Int) (x14 : List (Int × Int)) (k1 : Int → Int → Bool → Bool → Int → Int → Int → Int → Int → Int → (List Int) → (List Int) → (List (Int × Int)) → Prop) : Prop :=
  l19r0
  (fun z15 z16 z17 z18 z19 z20 z21 z22 z23 z24 z25 z26 z27 => k1 z15 z16 z17 z18 z19 z20 z21 z22 z23 z24 z25 z26 z27)
  x1 x2 x3 x4 x5 x6 x7 x8 x9 x10 x11 x12 x13 x14
structure c19 (x1 : Int) (x2 : Int) (x3 : Int) (x4 : Bool) (x5 : Bool) (x6 : Int) (x7 : Int) (x8 : Int) (x9 : Int) (x10 : Int) (x11 : Int) (x12 : List Int) (x13 : List Int) (x14 : List (Int × Int)) (k1 : Int → Int → Bool → Bool → Int → Int → Int → Int → Int → Int → (List Int) → (List Int) → (List (Int × Int)) → Prop) : Prop where
  of : tc19 x1 x2 x3 x4 x5 x6 x7 x8 x9 x10 x11 x12 x13 x14 k1

def tc10 (x1 : List Int) (x2 : Int) (x3 : Int) (x4 : Int) (x5 : Int) (x6 : Int) (x7 : Int) (x8 : List Int) (x9 : List Int) (k1 : Int → Int → Int → Int → Int → Int → Int → (List Int) → (List Int) → (List Int) → Prop) (k2 : Int → Int → Int → Int → Int → Int → Int → (List Int) → (List Int) → (List Int) → Prop) : Prop :=
  br (decide (((((List.length x1) : Nat) : Int) : Int) > 65536))
  (k1 2 x2 x3 x4 x5 x6 x7 x8 x9 [])
  (br ((x6 : Int) == x3)
   (br (decide ((0 : Int) ≤ (((List.length x1) : Nat) : Int) ∧ ((((List.length x1) : Nat) : Int) : Int) ≤ (((List.length x1) : Nat) : Int) ∧ (((((List.length x1) : Nat) : Int) * 8) : Int) ≤ 140737488355328))
    (l10r9
     (fun z10 z11 z12 z13 z14 z15 z16 z17 z18 z19 z20 z21 z22 z23 z24 => c19 z10 z19 z20 z21 z22 z11 z12 z13 z14 z15 z16 z17 z18 z23
      (fun z25 z26 z27 z28 z29 z30 z31 z32 z33 z34 z35 z36 z37 => br (z28)
       (k1 16 z29 z30 z31 z32 z33 z34 z35 z36 [])
       (k2 0 z29 z30 1 z32 z10 z25 z35 z36 z24)))
     (IntKind.wrap .i64 (x3 + x5)) x1 (((List.length x1) : Nat) : Int) 0 x2 x3 x4 x5 x6 x7 x8 x9 (IntKind.wrap .i64 (x3 + x5)) (IntKind.wrap .i64 ((IntKind.wrap .i64 (x3 + x5)) + x5)) false false [] (List.replicate (Int.toNat (((List.length x1) : Nat) : Int)) (0 : Int)))
    (False /- 111 -/))
   (br (decide ((0 : Int) ≤ (((List.length x1) : Nat) : Int) ∧ ((((List.length x1) : Nat) : Int) : Int) ≤ (((List.length x1) : Nat) : Int) ∧ (((((List.length x1) : Nat) : Int) * 8) : Int) ≤ 140737488355328))
    (l10r9
     (fun z38 z39 z40 z41 z42 z43 z44 z45 z46 z47 z48 z49 z50 z51 z52 => c19 z38 z47 z48 z49 z50 z39 z40 z41 z42 z43 z44 z45 z46 z51
      (fun z53 z54 z55 z56 z57 z58 z59 z60 z61 z62 z63 z64 z65 => br (z56)
       (k1 16 z57 z58 z59 z60 z61 z62 z63 z64 [])
       (k2 0 z57 z58 1 z60 z38 z53 z63 z64 z52)))
     x3 x1 (((List.length x1) : Nat) : Int) 0 x2 x3 x4 x5 x6 x7 x8 x9 x3 (IntKind.wrap .i64 (x3 + x5)) false false [] (List.replicate (Int.toNat (((List.length x1) : Nat) : Int)) (0 : Int)))
    (False /- 111 -/)))
structure c10 (x1 : List Int) (x2 : Int) (x3 : Int) (x4 : Int) (x5 : Int) (x6 : Int) (x7 : Int) (x8 : List Int) (x9 : List Int) (k1 : Int → Int → Int → Int → Int → Int → Int → (List Int) → (List Int) → (List Int) → Prop) (k2 : Int → Int → Int → Int → Int → Int → Int → (List Int) → (List Int) → (List Int) → Prop) : Prop where
  of : tc10 x1 x2 x3 x4 x5 x6 x7 x8 x9 k1 k2

def tl3r61 (k1 : Bool → Prop) (k2 : Int → (List Int) → (List Int) → Int → Int → Int → Nat → Nat → Nat → Int → Int → Int → Int → Int → Int → Int → (List Int) → (List Int) → (List (Int × Int × Int × Unit)) → Prop) (s1 : Int) (s2 : List Int) (s3 : List Int) (s4 : Int) (s5 : Int) (s6 : Int) (s7 : Nat) (s8 : Nat) (s9 : Nat) (s10 : Int) (s11 : Int) (s12 : Int) (s13 : Int) (s14 : Int) (s15 : Int) (s16 : Int) (s17 : Int) (s18 : Int) (s19 : List Int) (s20 : List Int) (s21 : List (Int × Int × Int × Unit)) (s22 : List Int) : Prop :=
  ∀ (I1 : Int → (List Int) → (List Int) → Int → Int → Int → Nat → Nat → Nat → Int → Int → Int → Int → Int → Int → Int → Int → Int → (List Int) → (List Int) → (List (Int × Int × Int × Unit)) → (List Int) → Prop),
    (∀ (s1 : Int) (s2 : List Int) (s3 : List Int) (s4 : Int) (s5 : Int) (s6 : Int) (s7 : Nat) (s8 : Nat) (s9 : Nat) (s10 : Int) (s11 : Int) (s12 : Int) (s13 : Int) (s14 : Int) (s15 : Int) (s16 : Int) (s17 : Int) (s18 : Int) (s19 : List Int) (s20 : List Int) (s21 : List (Int × Int × Int × Unit)) (s22 : List Int), (br (decide ((s12 : Int) < s11))
    (br (decide ((0 : Int) ≤ s12 ∧ (s12 : Int) < (((List.length s22) : Nat) : Int)))
     (need False (s22)[(Int.toNat s12)]? fun y23 =>
      br (decide ((0 : Int) ≤ s12 ∧ (s12 : Int) < ((s8 : Nat) : Int)))
       (need False (s21)[(s7 + (Int.toNat s12))]? fun y24 =>
        br (decide ((0 : Int) ≤ s12 ∧ (s12 : Int) < ((s8 : Nat) : Int)))
         (need False ((List.set s21 (s7 + (Int.toNat s12)) (y23, y24.2)))[(s7 + (Int.toNat s12))]? fun y25 =>
          br (decide ((0 : Int) ≤ s12 ∧ (s12 : Int) < (((List.length s22) : Nat) : Int)))
           (need False (s22)[(Int.toNat s12)]? fun y26 =>
            c11v2 y26 s13 s14 s15 s16 s17 s18 s19 s20
             (fun z27 z28 z29 z30 z31 z32 z33 z34 z35 z36 z37 => br ((z29 : Int) != 0)
              (k1 false)
              (br (decide ((0 : Int) ≤ s12 ∧ (s12 : Int) < ((s8 : Nat) : Int)))
               (need False ((List.set (List.set s21 (s7 + (Int.toNat s12)) (y23, y24.2)) (s7 + (Int.toNat s12)) (y25.1, y25.2.1, 0, y25.2.2.2)))[(s7 + (Int.toNat s12))]? fun y38 =>
                br ((z28 : Int) != y38.2.1)
                 (k1 false)
                 (I1 s1 s2 s3 s4 s5 s6 s7 s8 s9 s10 s11 (IntKind.wrap .i64 (s12 + 1)) z30 z31 z32 z33 z34 z35 z36 z37 (List.set (List.set s21 (s7 + (Int.toNat s12)) (y23, y24.2)) (s7 + (Int.toNat s12)) (y25.1, y25.2.1, 0, y25.2.2.2)) s22))
               (False /- 41 -/))))
           (False /- 39 -/))
         (False /- 41 -/))
       (False /- 41 -/))
     (False /- 39 -/))
    (k2 s1 s2 s3 s4 s5 s6 s7 s8 s9 s10 s13 s14 s15 s16 s17 s18 s19 s20 s21)) → I1 s1 s2 s3 s4 s5 s6 s7 s8 s9 s10 s11 s12 s13 s14 s15 s16 s17 s18 s19 s20 s21 s22) →
    I1 s1 s2 s3 s4 s5 s6 s7 s8 s9 s10 s11 s12 s13 s14 s15 s16 s17 s18 s19 s20 s21 s22
structure l3r61 (k1 : Bool → Prop) (k2 : Int → (List Int) → (List Int) → Int → Int → Int → Nat → Nat → Nat → Int → Int → Int → Int → Int → Int → Int → (List Int) → (List Int) → (List (Int × Int × Int × Unit)) → Prop) (s1 : Int) (s2 : List Int) (s3 : List Int) (s4 : Int) (s5 : Int) (s6 : Int) (s7 : Nat) (s8 : Nat) (s9 : Nat) (s10 : Int) (s11 : Int) (s12 : Int) (s13 : Int) (s14 : Int) (s15 : Int) (s16 : Int) (s17 : Int) (s18 : Int) (s19 : List Int) (s20 : List Int) (s21 : List (Int × Int × Int × Unit)) (s22 : List Int) : Prop where
  of : tl3r61 k1 k2 s1 s2 s3 s4 s5 s6 s7 s8 s9 s10 s11 s12 s13 s14 s15 s16 s17 s18 s19 s20 s21 s22

def tj3r50 (k1 : Bool → Prop) (k2 : Int → (List Int) → (List Int) → Int → Int → Int → Nat → Nat → Nat → Int → Int → Int → Int → Int → Int → Int → (List Int) → (List Int) → (List (Int × Int × Int × Unit)) → Prop) (k3 : Int → (List Int) → (List Int) → Int → Int → Int → Nat → Nat → Nat → Int → Int → Int → Int → Int → Int → Int → (List Int) → (List Int) → (List (Int × Int × Int × Unit)) → Prop) (s1 : Int) (s2 : List Int) (s3 : List Int) (s4 : Int) (s5 : Int) (s6 : Int) (s7 : Nat) (s8 : Nat) (s9 : Nat) (s10 : Int) (s11 : Int) (s12 : Int) (s13 : Int) (s14 : Bool) (s15 : Int) (s16 : Int) (s17 : Int) (s18 : Int) (s19 : Int) (s20 : Int) (s21 : List Int) (s22 : List Int) (s23 : List (Int × Int × Int × Unit)) (s24 : List Int) : Prop :=
  c10 s24 s15 s16 s17 s18 s19 s20 s21 s22
  (fun z25 z26 z27 z28 z29 z30 z31 z32 z33 z34 => br (s14)
   (br ((z25 : Int) != 16)
    (k1 false)
    (br (((((List.length z34) : Nat) : Int) : Int) != 0)
     (k1 false)
     (k2 s1 s2 s3 s4 s5 s6 s7 s8 s9 s10 z26 z27 z28 z29 z30 z31 z32 z33 s23)))
   (br ((z25 : Int) != 0)
    (k1 false)
    (br (((((List.length z34) : Nat) : Int) : Int) != (((List.length s24) : Nat) : Int))
     (k1 false)
     (br ((s11 : Int) == 15)
      (l3r61
       (fun z35 => k1 z35)
       (fun z36 z37 z38 z39 z40 z41 z42 z43 z44 z45 z46 z47 z48 z49 z50 z51 z52 z53 z54 => k3 z36 z37 z38 z39 z40 z41 z42 z43 z44 z45 z46 z47 z48 z49 z50 z51 z52 z53 z54)
       s1 s2 s3 s4 0 s12 s7 s8 s9 s10 ((s8 : Nat) : Int) 0 z26 z27 z28 z29 z30 z31 z32 z33 s23 z34)
      (l3r61
       (fun z55 => k1 z55)
       (fun z56 z57 z58 z59 z60 z61 z62 z63 z64 z65 z66 z67 z68 z69 z70 z71 z72 z73 z74 => k3 z56 z57 z58 z59 z60 z61 z62 z63 z64 z65 z66 z67 z68 z69 z70 z71 z72 z73 z74)
       s1 s2 s3 s4 0 (IntKind.wrap .i64 (s6 + s13)) s7 s8 s9 s10 ((s8 : Nat) : Int) 0 z26 z27 z28 z29 z30 z31 z32 z33 s23 z34)))))
  (fun z75 z76 z77 z78 z79 z80 z81 z82 z83 z84 => br (s14)
   (br ((z75 : Int) != 16)
    (k1 false)
    (br (((((List.length z84) : Nat) : Int) : Int) != 0)
     (k1 false)
     (k2 s1 s2 s3 s4 s5 s6 s7 s8 s9 s10 z76 z77 z78 z79 z80 z81 z82 [] s23)))
   (br ((z75 : Int) != 0)
    (k1 false)
    (br (((((List.length z84) : Nat) : Int) : Int) != (((List.length s24) : Nat) : Int))
     (k1 false)
     (br ((s11 : Int) == 15)
      (l3r61
       (fun z85 => k1 z85)
       (fun z86 z87 z88 z89 z90 z91 z92 z93 z94 z95 z96 z97 z98 z99 z100 z101 z102 z103 z104 => k3 z86 z87 z88 z89 z90 z91 z92 z93 z94 z95 z96 z97 z98 z99 z100 z101 z102 z103 z104)
       s1 s2 s3 s4 0 s12 s7 s8 s9 s10 ((s8 : Nat) : Int) 0 z76 z77 z78 z79 z80 z81 z82 [] s23 z84)
      (l3r61
       (fun z105 => k1 z105)
       (fun z106 z107 z108 z109 z110 z111 z112 z113 z114 z115 z116 z117 z118 z119 z120 z121 z122 z123 z124 => k3 z106 z107 z108 z109 z110 z111 z112 z113 z114 z115 z116 z117 z118 z119 z120 z121 z122 z123 z124)
       s1 s2 s3 s4 0 (IntKind.wrap .i64 (s6 + s13)) s7 s8 s9 s10 ((s8 : Nat) : Int) 0 z76 z77 z78 z79 z80 z81 z82 [] s23 z84)))))
structure j3r50 (k1 : Bool → Prop) (k2 : Int → (List Int) → (List Int) → Int → Int → Int → Nat → Nat → Nat → Int → Int → Int → Int → Int → Int → Int → (List Int) → (List Int) → (List (Int × Int × Int × Unit)) → Prop) (k3 : Int → (List Int) → (List Int) → Int → Int → Int → Nat → Nat → Nat → Int → Int → Int → Int → Int → Int → Int → (List Int) → (List Int) → (List (Int × Int × Int × Unit)) → Prop) (s1 : Int) (s2 : List Int) (s3 : List Int) (s4 : Int) (s5 : Int) (s6 : Int) (s7 : Nat) (s8 : Nat) (s9 : Nat) (s10 : Int) (s11 : Int) (s12 : Int) (s13 : Int) (s14 : Bool) (s15 : Int) (s16 : Int) (s17 : Int) (s18 : Int) (s19 : Int) (s20 : Int) (s21 : List Int) (s22 : List Int) (s23 : List (Int × Int × Int × Unit)) (s24 : List Int) : Prop where
  of : tj3r50 k1 k2 k3 s1 s2 s3 s4 s5 s6 s7 s8 s9 s10 s11 s12 s13 s14 s15 s16 s17 s18 s19 s20 s21 s22 s23 s24

def tj3r68v2 (k1 : Bool → Prop) (k2 : Int → (List Int) → (List Int) → Int → Int → Int → Nat → Nat → Nat → Int → Int → Int → Int → Int → Int → Int → (List Int) → (List Int) → (List (Int × Int × Int × Unit)) → Prop) (s1 : Int) (s2 : List Int) (s3 : List Int) (s4 : Int) (s5 : Int) (s6 : Int) (s7 : Nat) (s8 : Nat) (s9 : Nat) (s10 : Int) (s11 : Int) (s12 : Int) (s13 : Int) (s14 : Int) (s15 : Int) (s16 : Int) (s17 : List Int) (s18 : List Int) (s19 : List (Int × Int × Int × Unit)) : Prop :=
  c12 s11 s12 s13 s14 s15 s16 s17 s18
  (fun z20 z21 z22 z23 z24 z25 z26 z27 z28 z29 => br ((z20 : Int) != s5)
   (k1 false)
   (br ((z21 : Int) != s6)
    (k1 false)
    (k2 s1 s2 s3 s4 s5 s6 s7 s8 s9 s10 z22 z23 z24 z25 z26 z27 z28 z29 s19)))
structure j3r68v2 (k1 : Bool → Prop) (k2 : Int → (List Int) → (List Int) → Int → Int → Int → Nat → Nat → Nat → Int → Int → Int → Int → Int → Int → Int → (List Int) → (List Int) → (List (Int × Int × Int × Unit)) → Prop) (s1 : Int) (s2 : List Int) (s3 : List Int) (s4 : Int) (s5 : Int) (s6 : Int) (s7 : Nat) (s8 : Nat) (s9 : Nat) (s10 : Int) (s11 : Int) (s12 : Int) (s13 : Int) (s14 : Int) (s15 : Int) (s16 : Int) (s17 : List Int) (s18 : List Int) (s19 : List (Int × Int × Int × Unit)) : Prop where
  of : tj3r68v2 k1 k2 s1 s2 s3 s4 s5 s6 s7 s8 s9 s10 s11 s12 s13 s14 s15 s16 s17 s18 s19

def tl9r9 (k1 : Int → Int → Int → Int → Int → Int → Int → (List Int) → (List Int) → Int → Int → Bool → Bool → (List (Int × Int)) → (List Int) → Prop) (s1 : Int) (s2 : List Int) (s3 : Int) (s4 : Int) (s5 : Int) (s6 : Int) (s7 : Int) (s8 : Int) (s9 : Int) (s10 : Int) (s11 : List Int) (s12 : List Int) (s13 : Int) (s14 : Int) (s15 : Bool) (s16 : Bool) (s17 : List (Int × Int)) (s18 : List Int) : Prop :=
  ∀ (I1 : Int → (List Int) → Int → Int → Int → Int → Int → Int → Int → Int → (List Int) → (List Int) → Int → Int → Bool → Bool → (List (Int × Int)) → (List Int) → Prop),
    (∀ (s1 : Int) (s2 : List Int) (s3 : Int) (s4 : Int) (s5 : Int) (s6 : Int) (s7 : Int) (s8 : Int) (s9 : Int) (s10 : Int) (s11 : List Int) (s12 : List Int) (s13 : Int) (s14 : Int) (s15 : Bool) (s16 : Bool) (s17 : List (Int × Int)) (s18 : List Int), (br (decide ((s4 : Int) < s3))
    (need False (at? s2 s4) fun y19 =>
     c18 y19 s13 s14 s15 s16 s5 s6 s7 s8 s9 s10 s11 s12 s17
      (fun z20 z21 z22 z23 z24 z25 z26 z27 z28 z29 z30 z31 z32 z33 => br (decide ((0 : Int) ≤ s4 ∧ (s4 : Int) < (((List.length s18) : Nat) : Int)))
       (need False (s18)[(Int.toNat s4)]? fun y34 =>
        I1 s1 s2 s3 (IntKind.wrap .i64 (s4 + 1)) z25 z26 z27 z28 z29 z30 z31 z32 z21 z22 z23 z24 z33 (List.set s18 (Int.toNat s4) z20))
       (False /- 39 -/)))
    (k1 s1 s5 s6 s7 s8 s9 s10 s11 s12 s13 s14 s15 s16 s17 s18)) → I1 s1 s2 s3 s4 s5 s6 s7 s8 s9 s10 s11 s12 s13 s14 s15 s16 s17 s18) →
    I1 s1 s2 s3 s4 s5 s6 s7 s8 s9 s10 s11 s12 s13 s14 s15 s16 s17 s18
structure l9r9 (k1 : Int → Int → Int → Int → Int → Int → Int → (List Int) → (List Int) → Int → Int → Bool → Bool → (List (Int × Int)) → (List Int) → Prop) (s1 : Int) (s2 : List Int) (s3 : Int) (s4 : Int) (s5 : Int) (s6 : Int) (s7 : Int) (s8 : Int) (s9 : Int) (s10 : Int) (s11 : List Int) (s12 : List Int) (s13 : Int) (s14 : Int) (s15 : Bool) (s16 : Bool) (s17 : List (Int × Int)) (s18 : List Int) : Prop where
  of : tl9r9 k1 s1 s2 s3 s4 s5 s6 s7 s8 s9 s10 s11 s12 s13 s14 s15 s16 s17 s18

def tl9r14 (k1 : Int → Int → Int → Int → Int → Int → Int → (List Int) → (List Int) → Int → Int → Bool → Bool → (List (Int × Int)) → (List Int) → Prop) (s1 : Int) (s2 : Int) (s3 : Int) (s4 : Int) (s5 : Int) (s6 : Int) (s7 : Int) (s8 : Int) (s9 : Int) (s10 : List Int) (s11 : List Int) (s12 : Int) (s13 : Int) (s14 : Bool) (s15 : Bool) (s16 : List (Int × Int)) (s17 : List Int) : Prop :=
  ∀ (I1 : Int → Int → Int → Int → Int → Int → Int → Int → Int → (List Int) → (List Int) → Int → Int → Bool → Bool → (List (Int × Int)) → (List Int) → Prop),
    (∀ (s1 : Int) (s2 : Int) (s3 : Int) (s4 : Int) (s5 : Int) (s6 : Int) (s7 : Int) (s8 : Int) (s9 : Int) (s10 : List Int) (s11 : List Int) (s12 : Int) (s13 : Int) (s14 : Bool) (s15 : Bool) (s16 : List (Int × Int)) (s17 : List Int), (br (decide ((s3 : Int) < s2))
    (br (decide ((0 : Int) ≤ s3 ∧ (s3 : Int) < (((List.length s11) : Nat) : Int)))
     (need False (s11)[(Int.toNat s3)]? fun y18 =>
      br (decide ((0 : Int) ≤ y18 ∧ (y18 : Int) < (((List.length s10) : Nat) : Int)))
       (need False (s10)[(Int.toNat y18)]? fun y19 =>
        c18 y19 s12 s13 s14 s15 s4 s5 s6 s7 s8 s9 s10 s11 s16
         (fun z20 z21 z22 z23 z24 z25 z26 z27 z28 z29 z30 z31 z32 z33 => br (true)
          (br (true)
           (br (true && true)
            (br (eqT (.int .i64) y18 y18)
             (br (decide ((0 : Int) ≤ y18 ∧ (y18 : Int) < (((List.length z31) : Nat) : Int)))
              (need False (z31)[(Int.toNat y18)]? fun y34 =>
               I1 s1 s2 (IntKind.wrap .i64 (s3 + 1)) z25 z26 z27 z28 z29 z30 (List.set z31 (Int.toNat y18) z20) z32 z21 z22 z23 z24 z33 s17)
              (False /- 39 -/))
             (False /- 942 -/))
            (False /- 942 -/))
           (False /- 942 -/))
          (False /- 942 -/)))
       (False /- 39 -/))
     (False /- 39 -/))
    (k1 s1 s4 s5 s6 s7 s8 s9 s10 s11 s12 s13 s14 s15 s16 s17)) → I1 s1 s2 s3 s4 s5 s6 s7 s8 s9 s10 s11 s12 s13 s14 s15 s16 s17) →
    I1 s1 s2 s3 s4 s5 s6 s7 s8 s9 s10 s11 s12 s13 s14 s15 s16 s17
structure l9r14 (k1 : Int → Int → Int → Int → Int → Int → Int → (List Int) → (List Int) → Int → Int → Bool → Bool → (List (Int × Int)) → (List Int) → Prop) (s1 : Int) (s2 : Int) (s3 : Int) (s4 : Int) (s5 : Int) (s6 : Int) (s7 : Int) (s8 : Int) (s9 : Int) (s10 : List Int) (s11 : List Int) (s12 : Int) (s13 : Int) (s14 : Bool) (s15 : Bool) (s16 : List (Int × Int)) (s17 : List Int) : Prop where
  of : tl9r14 k1 s1 s2 s3 s4 s5 s6 s7 s8 s9 s10 s11 s12 s13 s14 s15 s16 s17

def tc9 (x1 : List Int) (x2 : Int) (x3 : Int) (x4 : Int) (x5 : Int) (x6 : Int) (x7 : Int) (x8 : List Int) (x9 : List Int) (k1 : Int → Int → Int → Int → Int → Int → Int → (List Int) → (List Int) → (List Int) → Prop) (k2 : Int → Int → Int → Int → Int → Int → Int → (List Int) → (List Int) → (List Int) → Prop) : Prop :=
  br (decide (((((List.length x1) : Nat) : Int) : Int) > 65536))
  (k1 2 x2 x3 x4 x5 x6 x7 x8 x9 [])
  (br (decide (((IntKind.wrap .i64 ((IntKind.wrap .i64 (x7 + x4)) - 1)) : Int) > (IntKind.wrap .i64 (x6 + x5))))
   (k1 16 x2 x3 x4 x5 x6 x7 x8 x9 [])
   (br (true)
    (br (true)
     (br (true)
      (br (true && true)
       (br (eqT (.int .i64) x7 x7)
        (br (true)
         (br (true)
          (br (true && true)
           (br (eqT (.int .i64) x6 x6)
            (br (true)
             (br (true)
              (br (true && true)
               (br (eqT (.int .i64) x5 x5)
                (br (eqT (.int .i64) (IntKind.wrap .i64 (x6 + x5)) (IntKind.wrap .i64 (x6 + x5)))
                 (br (decide ((0 : Int) ≤ (((List.length x1) : Nat) : Int) ∧ ((((List.length x1) : Nat) : Int) : Int) ≤ (((List.length x1) : Nat) : Int) ∧ (((((List.length x1) : Nat) : Int) * 8) : Int) ≤ 140737488355328))
                  (l9r9
                   (fun z10 z11 z12 z13 z14 z15 z16 z17 z18 z19 z20 z21 z22 z23 z24 => l9r14
                    (fun z25 z26 z27 z28 z29 z30 z31 z32 z33 z34 z35 z36 z37 z38 z39 => c19 z25 z34 z35 z36 z37 z26 z27 z28 z29 z30 z31 z32 z33 z38
                     (fun z40 z41 z42 z43 z44 z45 z46 z47 z48 z49 z50 z51 z52 => k2 0 z44 z45 1 z47 z48 z40 z50 z51 z39))
                    z10 (((List.length z18) : Nat) : Int) 0 z11 z12 z13 z14 z15 z16 z17 z18 z19 z20 z21 z22 z23 z24)
                   x7 x1 (((List.length x1) : Nat) : Int) 0 x2 x3 x4 x5 x6 x7 x8 x9 x7 (IntKind.wrap .i64 (x6 + x5)) true false [] (List.replicate (Int.toNat (((List.length x1) : Nat) : Int)) (0 : Int)))
                  (False /- 111 -/))
                 (False /- 942 -/))
                (False /- 942 -/))
               (False /- 942 -/))
              (False /- 942 -/))
             (False /- 942 -/))
            (False /- 942 -/))
           (False /- 942 -/))
          (False /- 942 -/))
         (False /- 942 -/))
        (False /- 942 -/))
       (False /- 942 -/))
      (False /- 942 -/))
     (False /- 942 -/))
    (False /- 942 -/)))
structure c9 (x1 : List Int) (x2 : Int) (x3 : Int) (x4 : Int) (x5 : Int) (x6 : Int) (x7 : Int) (x8 : List Int) (x9 : List Int) (k1 : Int → Int → Int → Int → Int → Int → Int → (List Int) → (List Int) → (List Int) → Prop) (k2 : Int → Int → Int → Int → Int → Int → Int → (List Int) → (List Int) → (List Int) → Prop) : Prop where
  of : tc9 x1 x2 x3 x4 x5 x6 x7 x8 x9 k1 k2

def tj3r50v2 (k1 : Bool → Prop) (k2 : Int → (List Int) → (List Int) → Int → Int → Int → Nat → Nat → Nat → Int → Int → Int → Int → Int → Int → Int → (List Int) → (List Int) → (List (Int × Int × Int × Unit)) → Prop) (k3 : Int → (List Int) → (List Int) → Int → Int → Int → Nat → Nat → Nat → Int → Int → Int → Int → Int → Int → Int → (List Int) → (List Int) → (List (Int × Int × Int × Unit)) → Prop) (s1 : Int) (s2 : List Int) (s3 : List Int) (s4 : Int) (s5 : Int) (s6 : Int) (s7 : Nat) (s8 : Nat) (s9 : Nat) (s10 : Int) (s11 : Int) (s12 : Int) (s13 : Int) (s14 : Bool) (s15 : Int) (s16 : Int) (s17 : Int) (s18 : Int) (s19 : Int) (s20 : Int) (s21 : List Int) (s22 : List Int) (s23 : List (Int × Int × Int × Unit)) (s24 : List Int) : Prop :=
  c9 s24 s15 s16 s17 s18 s19 s20 s21 s22
  (fun z25 z26 z27 z28 z29 z30 z31 z32 z33 z34 => br (s14)
   (br ((z25 : Int) != 16)
    (k1 false)
    (br (((((List.length z34) : Nat) : Int) : Int) != 0)
     (k1 false)
     (k2 s1 s2 s3 s4 s5 s6 s7 s8 s9 s10 z26 z27 z28 z29 z30 z31 z32 z33 s23)))
   (br ((z25 : Int) != 0)
    (k1 false)
    (br (((((List.length z34) : Nat) : Int) : Int) != (((List.length s24) : Nat) : Int))
     (k1 false)
     (br ((s11 : Int) == 15)
      (l3r61
       (fun z35 => k1 z35)
       (fun z36 z37 z38 z39 z40 z41 z42 z43 z44 z45 z46 z47 z48 z49 z50 z51 z52 z53 z54 => k3 z36 z37 z38 z39 z40 z41 z42 z43 z44 z45 z46 z47 z48 z49 z50 z51 z52 z53 z54)
       s1 s2 s3 s4 0 s12 s7 s8 s9 s10 ((s8 : Nat) : Int) 0 z26 z27 z28 z29 z30 z31 z32 z33 s23 z34)
      (l3r61
       (fun z55 => k1 z55)
       (fun z56 z57 z58 z59 z60 z61 z62 z63 z64 z65 z66 z67 z68 z69 z70 z71 z72 z73 z74 => k3 z56 z57 z58 z59 z60 z61 z62 z63 z64 z65 z66 z67 z68 z69 z70 z71 z72 z73 z74)
       s1 s2 s3 s4 0 (IntKind.wrap .i64 (s6 + s13)) s7 s8 s9 s10 ((s8 : Nat) : Int) 0 z26 z27 z28 z29 z30 z31 z32 z33 s23 z34)))))
  (fun z75 z76 z77 z78 z79 z80 z81 z82 z83 z84 => br (s14)
   (br ((z75 : Int) != 16)
    (k1 false)
    (br (((((List.length z84) : Nat) : Int) : Int) != 0)
     (k1 false)
     (k2 s1 s2 s3 s4 s5 s6 s7 s8 s9 s10 z76 z77 z78 z79 z80 z81 z82 [] s23)))
   (br ((z75 : Int) != 0)
    (k1 false)
    (br (((((List.length z84) : Nat) : Int) : Int) != (((List.length s24) : Nat) : Int))
     (k1 false)
     (br ((s11 : Int) == 15)
      (l3r61
       (fun z85 => k1 z85)
       (fun z86 z87 z88 z89 z90 z91 z92 z93 z94 z95 z96 z97 z98 z99 z100 z101 z102 z103 z104 => k3 z86 z87 z88 z89 z90 z91 z92 z93 z94 z95 z96 z97 z98 z99 z100 z101 z102 z103 z104)
       s1 s2 s3 s4 0 s12 s7 s8 s9 s10 ((s8 : Nat) : Int) 0 z76 z77 z78 z79 z80 z81 z82 [] s23 z84)
      (l3r61
       (fun z105 => k1 z105)
       (fun z106 z107 z108 z109 z110 z111 z112 z113 z114 z115 z116 z117 z118 z119 z120 z121 z122 z123 z124 => k3 z106 z107 z108 z109 z110 z111 z112 z113 z114 z115 z116 z117 z118 z119 z120 z121 z122 z123 z124)
       s1 s2 s3 s4 0 (IntKind.wrap .i64 (s6 + s13)) s7 s8 s9 s10 ((s8 : Nat) : Int) 0 z76 z77 z78 z79 z80 z81 z82 [] s23 z84)))))
structure j3r50v2 (k1 : Bool → Prop) (k2 : Int → (List Int) → (List Int) → Int → Int → Int → Nat → Nat → Nat → Int → Int → Int → Int → Int → Int → Int → (List Int) → (List Int) → (List (Int × Int × Int × Unit)) → Prop) (k3 : Int → (List Int) → (List Int) → Int → Int → Int → Nat → Nat → Nat → Int → Int → Int → Int → Int → Int → Int → (List Int) → (List Int) → (List (Int × Int × Int × Unit)) → Prop) (s1 : Int) (s2 : List Int) (s3 : List Int) (s4 : Int) (s5 : Int) (s6 : Int) (s7 : Nat) (s8 : Nat) (s9 : Nat) (s10 : Int) (s11 : Int) (s12 : Int) (s13 : Int) (s14 : Bool) (s15 : Int) (s16 : Int) (s17 : Int) (s18 : Int) (s19 : Int) (s20 : Int) (s21 : List Int) (s22 : List Int) (s23 : List (Int × Int × Int × Unit)) (s24 : List Int) : Prop where
  of : tj3r50v2 k1 k2 k3 s1 s2 s3 s4 s5 s6 s7 s8 s9 s10 s11 s12 s13 s14 s15 s16 s17 s18 s19 s20 s21 s22 s23 s24

def tj3r34v2 (k1 : Bool → Prop) (k2 : Int → (List Int) → (List Int) → Int → Int → Int → Nat → Nat → Nat → Int → Int → Int → Int → Int → Int → Int → (List Int) → (List Int) → (List (Int × Int × Int × Unit)) → Prop) (s1 : Int) (s2 : List Int) (s3 : List Int) (s4 : Int) (s5 : Int) (s6 : Int) (s7 : Nat) (s8 : Nat) (s9 : Nat) (s10 : Int) (s11 : Int) (s12 : Bool) (s13 : Int) (s14 : Int) (s15 : Int) (s16 : Int) (s17 : Int) (s18 : Int) (s19 : List Int) (s20 : List Int) (s21 : List (Int × Int × Int × Unit)) : Prop :=
  c8v2 s11 s13 s14 s15 s16 s17 s18 s19 s20
  (fun z22 z23 z24 z25 z26 z27 z28 z29 z30 => br (s12)
   (br (decide (((IntKind.wrap .i64 ((IntKind.wrap .i64 (s5 + s11)) + 1)) : Int) ≤ s1))
    (br (!((z22 : Bool) == true))
     (k1 false)
     (k2 s1 s2 s3 s4 s5 s6 s7 s8 s9 s10 z23 z24 z25 z26 z27 z28 z29 z30 s21))
    (br (!s12)
     (br (!((z22 : Bool) == (decide (((IntKind.wrap .i64 ((IntKind.wrap .i64 (s6 + s11)) + 1)) : Int) ≤ s4))))
      (k1 false)
      (k2 s1 s2 s3 s4 s5 s6 s7 s8 s9 s10 z23 z24 z25 z26 z27 z28 z29 z30 s21))
     (br (!((z22 : Bool) == false))
      (k1 false)
      (k2 s1 s2 s3 s4 s5 s6 s7 s8 s9 s10 z23 z24 z25 z26 z27 z28 z29 z30 s21))))
   (br (!s12)
    (br (!((z22 : Bool) == (decide (((IntKind.wrap .i64 ((IntKind.wrap .i64 (s6 + s11)) + 1)) : Int) ≤ s4))))
     (k1 false)
     (k2 s1 s2 s3 s4 s5 s6 s7 s8 s9 s10 z23 z24 z25 z26 z27 z28 z29 z30 s21))
    (br (!((z22 : Bool) == false))
     (k1 false)
     (k2 s1 s2 s3 s4 s5 s6 s7 s8 s9 s10 z23 z24 z25 z26 z27 z28 z29 z30 s21))))
structure j3r34v2 (k1 : Bool → Prop) (k2 : Int → (List Int) → (List Int) → Int → Int → Int → Nat → Nat → Nat → Int → Int → Int → Int → Int → Int → Int → (List Int) → (List Int) → (List (Int × Int × Int × Unit)) → Prop) (s1 : Int) (s2 : List Int) (s3 : List Int) (s4 : Int) (s5 : Int) (s6 : Int) (s7 : Nat) (s8 : Nat) (s9 : Nat) (s10 : Int) (s11 : Int) (s12 : Bool) (s13 : Int) (s14 : Int) (s15 : Int) (s16 : Int) (s17 : Int) (s18 : Int) (s19 : List Int) (s20 : List Int) (s21 : List (Int × Int × Int × Unit)) : Prop where
  of : tj3r34v2 k1 k2 s1 s2 s3 s4 s5 s6 s7 s8 s9 s10 s11 s12 s13 s14 s15 s16 s17 s18 s19 s20 s21

def tj3r21v2 (k1 : Bool → Prop) (k2 : Int → (List Int) → (List Int) → Int → Int → Int → Nat → Nat → Nat → Int → Int → Int → Int → Int → Int → Int → (List Int) → (List Int) → (List (Int × Int × Int × Unit)) → Prop) (k3 : Int → (List Int) → (List Int) → Int → Int → Int → Int → Int → Int → Int → Int → Int → Int → (List Int) → (List Int) → (List (Int × Int × Int × Unit)) → Prop) (s1 : Int) (s2 : List Int) (s3 : List Int) (s4 : Int) (s5 : Int) (s6 : Int) (s7 : Nat) (s8 : Nat) (s9 : Nat) (s10 : Int) (s11 : Int) (s12 : Int) (s13 : Bool) (s14 : Bool) (s15 : Int) (s16 : Int) (s17 : Int) (s18 : Int) (s19 : Int) (s20 : Int) (s21 : List Int) (s22 : List Int) (s23 : List (Int × Int × Int × Unit)) : Prop :=
  c4 s11 259
  (fun z24 => c7v2 z24 s12 1 s15 s16 s17 s18 s19 s20 s21 s22
   (fun z25 z26 z27 z28 z29 z30 z31 z32 z33 z34 => br (!s14)
    (br ((z26 : Int) != 16)
     (k1 false)
     (br ((z25 : Int) != 0)
      (k1 false)
      (j3r34v2
       (fun z35 => k1 z35)
       (fun z36 z37 z38 z39 z40 z41 z42 z43 z44 z45 z46 z47 z48 z49 z50 z51 z52 z53 z54 => k2 z36 z37 z38 z39 z40 z41 z42 z43 z44 z45 z46 z47 z48 z49 z50 z51 z52 z53 z54)
       s1 s2 s3 s4 s5 s6 s7 s8 s9 s10 s12 s13 z27 z28 z29 z30 z31 z32 z33 z34 s23)))
    (br ((z26 : Int) != 0)
     (k1 false)
     (br (s13)
      (br ((z25 : Int) != (IntKind.wrap .i64 (2 * (IntKind.wrap .i64 (1 + s5)))))
       (k1 false)
       (br (decide ((s8 + 1) ≤ s9))
        (j3r34v2
         (fun z55 => k1 z55)
         (fun z56 z57 z58 z59 z60 z61 z62 z63 z64 z65 z66 z67 z68 z69 z70 z71 z72 z73 z74 => k2 z56 z57 z58 z59 z60 z61 z62 z63 z64 z65 z66 z67 z68 z69 z70 z71 z72 z73 z74)
         s1 s2 s3 s4 (IntKind.wrap .i64 (s5 + (IntKind.wrap .i64 (s12 + 1)))) s6 s7 (s8 + 1) s9 s10 s12 s13 z27 z28 z29 z30 z31 z32 z33 z34 (((List.take (s7 + s8) s23) ++ [(z25, s12, 1, ())]) ++ (List.drop ((s7 + s8) + 1) s23)))
        (br (roomB (s8 + 1) 24)
         (br (decide (s7 = 0))
          (j3r34
           (fun z75 => k1 z75)
           (fun z76 z77 z78 z79 z80 z81 z82 z83 z84 z85 z86 z87 z88 z89 z90 z91 => k3 z76 z77 z78 z79 z80 z81 z82 z83 z84 z85 z86 z87 z88 z89 z90 z91)
           s1 s2 s3 s4 (IntKind.wrap .i64 (s5 + (IntKind.wrap .i64 (s12 + 1)))) s6 s10 s12 s13 z27 z28 z29 z30 z31 z32 z33 z34 ((List.take s8 s23) ++ [(z25, s12, 1, ())]))
          ((j3r34
            (fun z92 => k1 z92)
            (fun z93 z94 z95 z96 z97 z98 z99 z100 z101 z102 z103 z104 z105 z106 z107 z108 => k3 z93 z94 z95 z96 z97 z98 z99 z100 z101 z102 z103 z104 z105 z106 z107 z108)
            s1 s2 s3 s4 (IntKind.wrap .i64 (s5 + (IntKind.wrap .i64 (s12 + 1)))) s6 s10 s12 s13 z27 z28 z29 z30 z31 z32 z33 z34 ((List.take s8 (List.drop s7 s23)) ++ [(z25, s12, 1, ())])) ∧
           (j3r34v2
            (fun z109 => k1 z109)
            (fun z110 z111 z112 z113 z114 z115 z116 z117 z118 z119 z120 z121 z122 z123 z124 z125 z126 z127 z128 => k2 z110 z111 z112 z113 z114 z115 z116 z117 z118 z119 z120 z121 z122 z123 z124 z125 z126 z127 z128)
            s1 s2 s3 s4 (IntKind.wrap .i64 (s5 + (IntKind.wrap .i64 (s12 + 1)))) s6 s7 (s8 + 1) (s8 + 1) s10 s12 s13 z27 z28 z29 z30 z31 z32 z33 z34 ((List.take (s7 + s8) s23) ++ [(z25, s12, 1, ())]))))
         (False /- 65 -/))))
      (br (decide ((s8 + 1) ≤ s9))
       (j3r34v2
        (fun z129 => k1 z129)
        (fun z130 z131 z132 z133 z134 z135 z136 z137 z138 z139 z140 z141 z142 z143 z144 z145 z146 z147 z148 => k2 z130 z131 z132 z133 z134 z135 z136 z137 z138 z139 z140 z141 z142 z143 z144 z145 z146 z147 z148)
        s1 s2 s3 s4 s5 (IntKind.wrap .i64 (s6 + (IntKind.wrap .i64 (s12 + 1)))) s7 (s8 + 1) s9 s10 s12 s13 z27 z28 z29 z30 z31 z32 z33 z34 (((List.take (s7 + s8) s23) ++ [(z25, s12, 0, ())]) ++ (List.drop ((s7 + s8) + 1) s23)))
       (br (roomB (s8 + 1) 24)
        (br (decide (s7 = 0))
         (j3r34
          (fun z149 => k1 z149)
          (fun z150 z151 z152 z153 z154 z155 z156 z157 z158 z159 z160 z161 z162 z163 z164 z165 => k3 z150 z151 z152 z153 z154 z155 z156 z157 z158 z159 z160 z161 z162 z163 z164 z165)
          s1 s2 s3 s4 s5 (IntKind.wrap .i64 (s6 + (IntKind.wrap .i64 (s12 + 1)))) s10 s12 s13 z27 z28 z29 z30 z31 z32 z33 z34 ((List.take s8 s23) ++ [(z25, s12, 0, ())]))
         ((j3r34
           (fun z166 => k1 z166)
           (fun z167 z168 z169 z170 z171 z172 z173 z174 z175 z176 z177 z178 z179 z180 z181 z182 => k3 z167 z168 z169 z170 z171 z172 z173 z174 z175 z176 z177 z178 z179 z180 z181 z182)
           s1 s2 s3 s4 s5 (IntKind.wrap .i64 (s6 + (IntKind.wrap .i64 (s12 + 1)))) s10 s12 s13 z27 z28 z29 z30 z31 z32 z33 z34 ((List.take s8 (List.drop s7 s23)) ++ [(z25, s12, 0, ())])) ∧
          (j3r34v2
           (fun z183 => k1 z183)
           (fun z184 z185 z186 z187 z188 z189 z190 z191 z192 z193 z194 z195 z196 z197 z198 z199 z200 z201 z202 => k2 z184 z185 z186 z187 z188 z189 z190 z191 z192 z193 z194 z195 z196 z197 z198 z199 z200 z201 z202)
           s1 s2 s3 s4 s5 (IntKind.wrap .i64 (s6 + (IntKind.wrap .i64 (s12 + 1)))) s7 (s8 + 1) (s8 + 1) s10 s12 s13 z27 z28 z29 z30 z31 z32 z33 z34 ((List.take (s7 + s8) s23) ++ [(z25, s12, 0, ())]))))
        (False /- 65 -/))))))
   (fun z203 z204 z205 z206 z207 z208 z209 z210 z211 z212 => br (!s14)
    (br ((z204 : Int) != 16)
     (k1 false)
     (br ((z203 : Int) != 0)
      (k1 false)
      (j3r34v2
       (fun z213 => k1 z213)
       (fun z214 z215 z216 z217 z218 z219 z220 z221 z222 z223 z224 z225 z226 z227 z228 z229 z230 z231 z232 => k2 z214 z215 z216 z217 z218 z219 z220 z221 z222 z223 z224 z225 z226 z227 z228 z229 z230 z231 z232)
       s1 s2 s3 s4 s5 s6 s7 s8 s9 s10 s12 s13 z205 z206 z207 z208 z209 z210 z211 z212 s23)))
    (br ((z204 : Int) != 0)
     (k1 false)
     (br (s13)
      (br ((z203 : Int) != (IntKind.wrap .i64 (2 * (IntKind.wrap .i64 (1 + s5)))))
       (k1 false)
       (br (decide ((s8 + 1) ≤ s9))
        (j3r34v2
         (fun z233 => k1 z233)
         (fun z234 z235 z236 z237 z238 z239 z240 z241 z242 z243 z244 z245 z246 z247 z248 z249 z250 z251 z252 => k2 z234 z235 z236 z237 z238 z239 z240 z241 z242 z243 z244 z245 z246 z247 z248 z249 z250 z251 z252)
         s1 s2 s3 s4 (IntKind.wrap .i64 (s5 + (IntKind.wrap .i64 (s12 + 1)))) s6 s7 (s8 + 1) s9 s10 s12 s13 z205 z206 z207 z208 z209 z210 z211 z212 (((List.take (s7 + s8) s23) ++ [(z203, s12, 1, ())]) ++ (List.drop ((s7 + s8) + 1) s23)))
        (br (roomB (s8 + 1) 24)
         (br (decide (s7 = 0))
          (j3r34
           (fun z253 => k1 z253)
           (fun z254 z255 z256 z257 z258 z259 z260 z261 z262 z263 z264 z265 z266 z267 z268 z269 => k3 z254 z255 z256 z257 z258 z259 z260 z261 z262 z263 z264 z265 z266 z267 z268 z269)
           s1 s2 s3 s4 (IntKind.wrap .i64 (s5 + (IntKind.wrap .i64 (s12 + 1)))) s6 s10 s12 s13 z205 z206 z207 z208 z209 z210 z211 z212 ((List.take s8 s23) ++ [(z203, s12, 1, ())]))
          ((j3r34
            (fun z270 => k1 z270)
            (fun z271 z272 z273 z274 z275 z276 z277 z278 z279 z280 z281 z282 z283 z284 z285 z286 => k3 z271 z272 z273 z274 z275 z276 z277 z278 z279 z280 z281 z282 z283 z284 z285 z286)
            s1 s2 s3 s4 (IntKind.wrap .i64 (s5 + (IntKind.wrap .i64 (s12 + 1)))) s6 s10 s12 s13 z205 z206 z207 z208 z209 z210 z211 z212 ((List.take s8 (List.drop s7 s23)) ++ [(z203, s12, 1, ())])) ∧
           (j3r34v2
            (fun z287 => k1 z287)
            (fun z288 z289 z290 z291 z292 z293 z294 z295 z296 z297 z298 z299 z300 z301 z302 z303 z304 z305 z306 => k2 z288 z289 z290 z291 z292 z293 z294 z295 z296 z297 z298 z299 z300 z301 z302 z303 z304 z305 z306)
            s1 s2 s3 s4 (IntKind.wrap .i64 (s5 + (IntKind.wrap .i64 (s12 + 1)))) s6 s7 (s8 + 1) (s8 + 1) s10 s12 s13 z205 z206 z207 z208 z209 z210 z211 z212 ((List.take (s7 + s8) s23) ++ [(z203, s12, 1, ())]))))
         (False /- 65 -/))))
      (br (decide ((s8 + 1) ≤ s9))
       (j3r34v2
        (fun z307 => k1 z307)
        (fun z308 z309 z310 z311 z312 z313 z314 z315 z316 z317 z318 z319 z320 z321 z322 z323 z324 z325 z326 => k2 z308 z309 z310 z311 z312 z313 z314 z315 z316 z317 z318 z319 z320 z321 z322 z323 z324 z325 z326)
        s1 s2 s3 s4 s5 (IntKind.wrap .i64 (s6 + (IntKind.wrap .i64 (s12 + 1)))) s7 (s8 + 1) s9 s10 s12 s13 z205 z206 z207 z208 z209 z210 z211 z212 (((List.take (s7 + s8) s23) ++ [(z203, s12, 0, ())]) ++ (List.drop ((s7 + s8) + 1) s23)))
       (br (roomB (s8 + 1) 24)
        (br (decide (s7 = 0))
         (j3r34
          (fun z327 => k1 z327)
          (fun z328 z329 z330 z331 z332 z333 z334 z335 z336 z337 z338 z339 z340 z341 z342 z343 => k3 z328 z329 z330 z331 z332 z333 z334 z335 z336 z337 z338 z339 z340 z341 z342 z343)
          s1 s2 s3 s4 s5 (IntKind.wrap .i64 (s6 + (IntKind.wrap .i64 (s12 + 1)))) s10 s12 s13 z205 z206 z207 z208 z209 z210 z211 z212 ((List.take s8 s23) ++ [(z203, s12, 0, ())]))
         ((j3r34
           (fun z344 => k1 z344)
           (fun z345 z346 z347 z348 z349 z350 z351 z352 z353 z354 z355 z356 z357 z358 z359 z360 => k3 z345 z346 z347 z348 z349 z350 z351 z352 z353 z354 z355 z356 z357 z358 z359 z360)
           s1 s2 s3 s4 s5 (IntKind.wrap .i64 (s6 + (IntKind.wrap .i64 (s12 + 1)))) s10 s12 s13 z205 z206 z207 z208 z209 z210 z211 z212 ((List.take s8 (List.drop s7 s23)) ++ [(z203, s12, 0, ())])) ∧
          (j3r34v2
           (fun z361 => k1 z361)
           (fun z362 z363 z364 z365 z366 z367 z368 z369 z370 z371 z372 z373 z374 z375 z376 z377 z378 z379 z380 => k2 z362 z363 z364 z365 z366 z367 z368 z369 z370 z371 z372 z373 z374 z375 z376 z377 z378 z379 z380)
           s1 s2 s3 s4 s5 (IntKind.wrap .i64 (s6 + (IntKind.wrap .i64 (s12 + 1)))) s7 (s8 + 1) (s8 + 1) s10 s12 s13 z205 z206 z207 z208 z209 z210 z211 z212 ((List.take (s7 + s8) s23) ++ [(z203, s12, 0, ())]))))
        (False /- 65 -/)))))))
structure j3r21v2 (k1 : Bool → Prop) (k2 : Int → (List Int) → (List Int) → Int → Int → Int → Nat → Nat → Nat → Int → Int → Int → Int → Int → Int → Int → (List Int) → (List Int) → (List (Int × Int × Int × Unit)) → Prop) (k3 : Int → (List Int) → (List Int) → Int → Int → Int → Int → Int → Int → Int → Int → Int → Int → (List Int) → (List Int) → (List (Int × Int × Int × Unit)) → Prop) (s1 : Int) (s2 : List Int) (s3 : List Int) (s4 : Int) (s5 : Int) (s6 : Int) (s7 : Nat) (s8 : Nat) (s9 : Nat) (s10 : Int) (s11 : Int) (s12 : Int) (s13 : Bool) (s14 : Bool) (s15 : Int) (s16 : Int) (s17 : Int) (s18 : Int) (s19 : Int) (s20 : Int) (s21 : List Int) (s22 : List Int) (s23 : List (Int × Int × Int × Unit)) : Prop where
  of : tj3r21v2 k1 k2 k3 s1 s2 s3 s4 s5 s6 s7 s8 s9 s10 s11 s12 s13 s14 s15 s16 s17 s18 s19 s20 s21 s22 s23

def tj3r19v2 (k1 : Bool → Prop) (k2 : Int → (List Int) → (List Int) → Int → Int → Int → Nat → Nat → Nat → Int → Int → Int → Int → Int → Int → Int → (List Int) → (List Int) → (List (Int × Int × Int × Unit)) → Prop) (k3 : Int → (List Int) → (List Int) → Int → Int → Int → Int → Int → Int → Int → Int → Int → Int → (List Int) → (List Int) → (List (Int × Int × Int × Unit)) → Prop) (s1 : Int) (s2 : List Int) (s3 : List Int) (s4 : Int) (s5 : Int) (s6 : Int) (s7 : Nat) (s8 : Nat) (s9 : Nat) (s10 : Int) (s11 : Int) (s12 : Int) (s13 : Int) (s14 : Int) (s15 : Int) (s16 : Int) (s17 : Int) (s18 : Int) (s19 : List Int) (s20 : List Int) (s21 : List (Int × Int × Int × Unit)) : Prop :=
  br (decide (((IntKind.wrap .i64 (s12 + 1)) : Int) ≤ s1))
  (br (decide (((IntKind.wrap .i64 ((IntKind.wrap .i64 (s5 + s12)) + 1)) : Int) ≤ s1))
   (j3r21v2
    (fun z22 => k1 z22)
    (fun z23 z24 z25 z26 z27 z28 z29 z30 z31 z32 z33 z34 z35 z36 z37 z38 z39 z40 z41 => k2 z23 z24 z25 z26 z27 z28 z29 z30 z31 z32 z33 z34 z35 z36 z37 z38 z39 z40 z41)
    (fun z42 z43 z44 z45 z46 z47 z48 z49 z50 z51 z52 z53 z54 z55 z56 z57 => k3 z42 z43 z44 z45 z46 z47 z48 z49 z50 z51 z52 z53 z54 z55 z56 z57)
    s1 s2 s3 s4 s5 s6 s7 s8 s9 s10 s11 s12 (decide (((IntKind.wrap .i64 (s12 + 1)) : Int) ≤ s1)) true s13 s14 s15 s16 s17 s18 s19 s20 s21)
   (br (!(decide (((IntKind.wrap .i64 (s12 + 1)) : Int) ≤ s1)))
    (j3r21v2
     (fun z58 => k1 z58)
     (fun z59 z60 z61 z62 z63 z64 z65 z66 z67 z68 z69 z70 z71 z72 z73 z74 z75 z76 z77 => k2 z59 z60 z61 z62 z63 z64 z65 z66 z67 z68 z69 z70 z71 z72 z73 z74 z75 z76 z77)
     (fun z78 z79 z80 z81 z82 z83 z84 z85 z86 z87 z88 z89 z90 z91 z92 z93 => k3 z78 z79 z80 z81 z82 z83 z84 z85 z86 z87 z88 z89 z90 z91 z92 z93)
     s1 s2 s3 s4 s5 s6 s7 s8 s9 s10 s11 s12 (decide (((IntKind.wrap .i64 (s12 + 1)) : Int) ≤ s1)) (decide (((IntKind.wrap .i64 ((IntKind.wrap .i64 (s6 + s12)) + 1)) : Int) ≤ s4)) s13 s14 s15 s16 s17 s18 s19 s20 s21)
    (j3r21v2
     (fun z94 => k1 z94)
     (fun z95 z96 z97 z98 z99 z100 z101 z102 z103 z104 z105 z106 z107 z108 z109 z110 z111 z112 z113 => k2 z95 z96 z97 z98 z99 z100 z101 z102 z103 z104 z105 z106 z107 z108 z109 z110 z111 z112 z113)
     (fun z114 z115 z116 z117 z118 z119 z120 z121 z122 z123 z124 z125 z126 z127 z128 z129 => k3 z114 z115 z116 z117 z118 z119 z120 z121 z122 z123 z124 z125 z126 z127 z128 z129)
     s1 s2 s3 s4 s5 s6 s7 s8 s9 s10 s11 s12 (decide (((IntKind.wrap .i64 (s12 + 1)) : Int) ≤ s1)) false s13 s14 s15 s16 s17 s18 s19 s20 s21)))
  (br (!(decide (((IntKind.wrap .i64 (s12 + 1)) : Int) ≤ s1)))
   (j3r21v2
    (fun z130 => k1 z130)
    (fun z131 z132 z133 z134 z135 z136 z137 z138 z139 z140 z141 z142 z143 z144 z145 z146 z147 z148 z149 => k2 z131 z132 z133 z134 z135 z136 z137 z138 z139 z140 z141 z142 z143 z144 z145 z146 z147 z148 z149)
    (fun z150 z151 z152 z153 z154 z155 z156 z157 z158 z159 z160 z161 z162 z163 z164 z165 => k3 z150 z151 z152 z153 z154 z155 z156 z157 z158 z159 z160 z161 z162 z163 z164 z165)
    s1 s2 s3 s4 s5 s6 s7 s8 s9 s10 s11 s12 (decide (((IntKind.wrap .i64 (s12 + 1)) : Int) ≤ s1)) (decide (((IntKind.wrap .i64 ((IntKind.wrap .i64 (s6 + s12)) + 1)) : Int) ≤ s4)) s13 s14 s15 s16 s17 s18 s19 s20 s21)
   (j3r21v2
    (fun z166 => k1 z166)
    (fun z167 z168 z169 z170 z171 z172 z173 z174 z175 z176 z177 z178 z179 z180 z181 z182 z183 z184 z185 => k2 z167 z168 z169 z170 z171 z172 z173 z174 z175 z176 z177 z178 z179 z180 z181 z182 z183 z184 z185)
    (fun z186 z187 z188 z189 z190 z191 z192 z193 z194 z195 z196 z197 z198 z199 z200 z201 => k3 z186 z187 z188 z189 z190 z191 z192 z193 z194 z195 z196 z197 z198 z199 z200 z201)
    s1 s2 s3 s4 s5 s6 s7 s8 s9 s10 s11 s12 (decide (((IntKind.wrap .i64 (s12 + 1)) : Int) ≤ s1)) false s13 s14 s15 s16 s17 s18 s19 s20 s21))
structure j3r19v2 (k1 : Bool → Prop) (k2 : Int → (List Int) → (List Int) → Int → Int → Int → Nat → Nat → Nat → Int → Int → Int → Int → Int → Int → Int → (List Int) → (List Int) → (List (Int × Int × Int × Unit)) → Prop) (k3 : Int → (List Int) → (List Int) → Int → Int → Int → Int → Int → Int → Int → Int → Int → Int → (List Int) → (List Int) → (List (Int × Int × Int × Unit)) → Prop) (s1 : Int) (s2 : List Int) (s3 : List Int) (s4 : Int) (s5 : Int) (s6 : Int) (s7 : Nat) (s8 : Nat) (s9 : Nat) (s10 : Int) (s11 : Int) (s12 : Int) (s13 : Int) (s14 : Int) (s15 : Int) (s16 : Int) (s17 : Int) (s18 : Int) (s19 : List Int) (s20 : List Int) (s21 : List (Int × Int × Int × Unit)) : Prop where
  of : tj3r19v2 k1 k2 k3 s1 s2 s3 s4 s5 s6 s7 s8 s9 s10 s11 s12 s13 s14 s15 s16 s17 s18 s19 s20 s21

def tl3r11 (k1 : Bool → Prop) (k2 : Int → Int → Int → Int → Int → Int → (List Int) → (List Int) → Prop) (s1 : Int) (s2 : List Int) (s3 : List Int) (s4 : Int) (s5 : Int) (s6 : Int) (s7 : Int) (s8 : Int) (s9 : Int) (s10 : Int) (s11 : Int) (s12 : Int) (s13 : Int) (s14 : List Int) (s15 : List Int) (s16 : List (Int × Int × Int × Unit)) : Prop :=
  ∀ (I1 : Int → (List Int) → (List Int) → Int → Int → Int → Int → Int → Int → Int → Int → Int → Int → (List Int) → (List Int) → (List (Int × Int × Int × Unit)) → Prop) (I2 : Int → (List Int) → (List Int) → Int → Int → Int → Nat → Nat → Nat → Int → Int → Int → Int → Int → Int → Int → (List Int) → (List Int) → (List (Int × Int × Int × Unit)) → Prop),
    (∀ (s1 : Int) (s2 : List Int) (s3 : List Int) (s4 : Int) (s5 : Int) (s6 : Int) (s7 : Int) (s8 : Int) (s9 : Int) (s10 : Int) (s11 : Int) (s12 : Int) (s13 : Int) (s14 : List Int) (s15 : List Int) (s16 : List (Int × Int × Int × Unit)), (br (decide ((s7 : Int) < (((List.length s2) : Nat) : Int)))
    (br (decide ((s7 : Int) < (((List.length s3) : Nat) : Int)))
     (br (decide ((s7 : Int) < 400))
      (need False (at? s3 s7) fun y17 =>
       need False (at? s2 s7) fun y18 =>
        c4 y18 16
         (fun z19 => br (decide ((z19 : Int) < 13))
          (br (decide ((0 : Int) ≤ (Int.tmod z19 4) ∧ ((Int.tmod z19 4) : Int) < ((4 : Nat) : Int)))
           (need False ([3, 6, 6, 40])[(Int.toNat (Int.tmod z19 4))]? fun y20 =>
            c4 y17 y20
             (fun z21 => br ((z19 : Int) == 12)
              (c4 y17 4096
               (fun z22 => j3r19
                (fun z23 => k1 z23)
                (fun z24 z25 z26 z27 z28 z29 z30 z31 z32 z33 z34 z35 z36 z37 z38 z39 => j3r68
                 (fun z40 => k1 z40)
                 (fun z41 z42 z43 z44 z45 z46 z47 z48 z49 z50 z51 z52 z53 z54 z55 z56 => I1 z41 z42 z43 z44 z45 z46 (IntKind.wrap .i64 (z47 + 1)) z48 z49 z50 z51 z52 z53 z54 z55 z56)
                 z24 z25 z26 z27 z28 z29 z30 z31 z32 z33 z34 z35 z36 z37 z38 z39)
                s1 s2 s3 s4 s5 s6 s7 y17 z22 s8 s9 s10 s11 s12 s13 s14 s15 s16))
              (j3r19
               (fun z57 => k1 z57)
               (fun z58 z59 z60 z61 z62 z63 z64 z65 z66 z67 z68 z69 z70 z71 z72 z73 => j3r68
                (fun z74 => k1 z74)
                (fun z75 z76 z77 z78 z79 z80 z81 z82 z83 z84 z85 z86 z87 z88 z89 z90 => I1 z75 z76 z77 z78 z79 z80 (IntKind.wrap .i64 (z81 + 1)) z82 z83 z84 z85 z86 z87 z88 z89 z90)
                z58 z59 z60 z61 z62 z63 z64 z65 z66 z67 z68 z69 z70 z71 z72 z73)
               s1 s2 s3 s4 s5 s6 s7 y17 z21 s8 s9 s10 s11 s12 s13 s14 s15 s16)))
           (False /- 39 -/))
          (c4 y17 12
           (fun z91 => br (decide ((0 : Int) ≤ (maxI 0 (IntKind.wrap .i64 ((((List.length s16) : Nat) : Int) - z91))) ∧ ((maxI 0 (IntKind.wrap .i64 ((((List.length s16) : Nat) : Int) - z91))) : Int) ≤ (((List.length s16) : Nat) : Int) ∧ ((((List.length s16) : Nat) : Int) : Int) ≤ (((List.length s16) : Nat) : Int) ∧ ((((List.length s16) : Nat) : Int) : Int) ≤ (((List.length s16) : Nat) : Int)))
            (l3r40
             (fun z92 z93 z94 z95 z96 z97 z98 z99 z100 z101 z102 z103 z104 z105 z106 z107 z108 z109 z110 z111 z112 z113 z114 => br ((z102 : Int) == 15)
              (j3r50
               (fun z115 => k1 z115)
               (fun z116 z117 z118 z119 z120 z121 z122 z123 z124 z125 z126 z127 z128 z129 z130 z131 z132 z133 z134 => I2 z116 z117 z118 z119 z120 z121 z122 z123 z124 (IntKind.wrap .i64 (z125 + 1)) z126 z127 z128 z129 z130 z131 z132 z133 z134)
               (fun z135 z136 z137 z138 z139 z140 z141 z142 z143 z144 z145 z146 z147 z148 z149 z150 z151 z152 z153 => j3r68v2
                (fun z154 => k1 z154)
                (fun z155 z156 z157 z158 z159 z160 z161 z162 z163 z164 z165 z166 z167 z168 z169 z170 z171 z172 z173 => I2 z155 z156 z157 z158 z159 z160 z161 z162 z163 (IntKind.wrap .i64 (z164 + 1)) z165 z166 z167 z168 z169 z170 z171 z172 z173)
                z135 z136 z137 z138 z139 z140 z141 z142 z143 z144 z145 z146 z147 z148 z149 z150 z151 z152 z153)
               z92 z93 z94 z95 z96 z97 z98 z99 z100 z101 z102 z103 z104 (decide ((z103 : Int) > z95)) z105 z106 z107 z108 z109 z110 z111 z112 z113 z114)
              (j3r50v2
               (fun z174 => k1 z174)
               (fun z175 z176 z177 z178 z179 z180 z181 z182 z183 z184 z185 z186 z187 z188 z189 z190 z191 z192 z193 => I2 z175 z176 z177 z178 z179 z180 z181 z182 z183 (IntKind.wrap .i64 (z184 + 1)) z185 z186 z187 z188 z189 z190 z191 z192 z193)
               (fun z194 z195 z196 z197 z198 z199 z200 z201 z202 z203 z204 z205 z206 z207 z208 z209 z210 z211 z212 => j3r68v2
                (fun z213 => k1 z213)
                (fun z214 z215 z216 z217 z218 z219 z220 z221 z222 z223 z224 z225 z226 z227 z228 z229 z230 z231 z232 => I2 z214 z215 z216 z217 z218 z219 z220 z221 z222 (IntKind.wrap .i64 (z223 + 1)) z224 z225 z226 z227 z228 z229 z230 z231 z232)
                z194 z195 z196 z197 z198 z199 z200 z201 z202 z203 z204 z205 z206 z207 z208 z209 z210 z211 z212)
               z92 z93 z94 z95 z96 z97 z98 z99 z100 z101 z102 z103 z104 (decide (((IntKind.wrap .i64 (z95 - z97)) : Int) < z96)) z105 z106 z107 z108 z109 z110 z111 z112 z113 z114))
             s1 s2 s3 s4 s5 s6 (Int.toNat (maxI 0 (IntKind.wrap .i64 ((((List.length s16) : Nat) : Int) - z91)))) (Int.toNat ((((List.length s16) : Nat) : Int) - (maxI 0 (IntKind.wrap .i64 ((((List.length s16) : Nat) : Int) - z91))))) (Int.toNat ((((List.length s16) : Nat) : Int) - (maxI 0 (IntKind.wrap .i64 ((((List.length s16) : Nat) : Int) - z91))))) s7 z19 0 0 (Int.toNat (maxI 0 (IntKind.wrap .i64 ((((List.length s16) : Nat) : Int) - z91)))) (Int.toNat ((((List.length s16) : Nat) : Int) - (maxI 0 (IntKind.wrap .i64 ((((List.length s16) : Nat) : Int) - z91))))) (Int.toNat ((((List.length s16) : Nat) : Int) - (maxI 0 (IntKind.wrap .i64 ((((List.length s16) : Nat) : Int) - z91))))) (((Int.toNat ((((List.length s16) : Nat) : Int) - (maxI 0 (IntKind.wrap .i64 ((((List.length s16) : Nat) : Int) - z91))))) : Nat) : Int) 0 s8 s9 s10 s11 s12 s13 s14 s15 s16 [])
            (False /- 82 -/)))))
      (k2 s8 s9 s10 s11 s12 s13 s14 s15))
     (k2 s8 s9 s10 s11 s12 s13 s14 s15))
    (k2 s8 s9 s10 s11 s12 s13 s14 s15)) → I1 s1 s2 s3 s4 s5 s6 s7 s8 s9 s10 s11 s12 s13 s14 s15 s16) →
    (∀ (s233 : Int) (s234 : List Int) (s235 : List Int) (s236 : Int) (s237 : Int) (s238 : Int) (s239 : Nat) (s240 : Nat) (s241 : Nat) (s242 : Int) (s243 : Int) (s244 : Int) (s245 : Int) (s246 : Int) (s247 : Int) (s248 : Int) (s249 : List Int) (s250 : List Int) (s251 : List (Int × Int × Int × Unit)), (br (decide ((s242 : Int) < (((List.length s234) : Nat) : Int)))
    (br (decide ((s242 : Int) < (((List.length s235) : Nat) : Int)))
     (br (decide ((s242 : Int) < 400))
      (need False (at? s235 s242) fun y252 =>
       need False (at? s234 s242) fun y253 =>
        c4 y253 16
         (fun z254 => br (decide ((z254 : Int) < 13))
          (br (decide ((0 : Int) ≤ (Int.tmod z254 4) ∧ ((Int.tmod z254 4) : Int) < ((4 : Nat) : Int)))
           (need False ([3, 6, 6, 40])[(Int.toNat (Int.tmod z254 4))]? fun y255 =>
            c4 y252 y255
             (fun z256 => br ((z254 : Int) == 12)
              (c4 y252 4096
               (fun z257 => j3r19v2
                (fun z258 => k1 z258)
                (fun z259 z260 z261 z262 z263 z264 z265 z266 z267 z268 z269 z270 z271 z272 z273 z274 z275 z276 z277 => j3r68v2
                 (fun z278 => k1 z278)
                 (fun z279 z280 z281 z282 z283 z284 z285 z286 z287 z288 z289 z290 z291 z292 z293 z294 z295 z296 z297 => I2 z279 z280 z281 z282 z283 z284 z285 z286 z287 (IntKind.wrap .i64 (z288 + 1)) z289 z290 z291 z292 z293 z294 z295 z296 z297)
                 z259 z260 z261 z262 z263 z264 z265 z266 z267 z268 z269 z270 z271 z272 z273 z274 z275 z276 z277)
                (fun z298 z299 z300 z301 z302 z303 z304 z305 z306 z307 z308 z309 z310 z311 z312 z313 => j3r68
                 (fun z314 => k1 z314)
                 (fun z315 z316 z317 z318 z319 z320 z321 z322 z323 z324 z325 z326 z327 z328 z329 z330 => I1 z315 z316 z317 z318 z319 z320 (IntKind.wrap .i64 (z321 + 1)) z322 z323 z324 z325 z326 z327 z328 z329 z330)
                 z298 z299 z300 z301 z302 z303 z304 z305 z306 z307 z308 z309 z310 z311 z312 z313)
                s233 s234 s235 s236 s237 s238 s239 s240 s241 s242 y252 z257 s243 s244 s245 s246 s247 s248 s249 s250 s251))
              (j3r19v2
               (fun z331 => k1 z331)
               (fun z332 z333 z334 z335 z336 z337 z338 z339 z340 z341 z342 z343 z344 z345 z346 z347 z348 z349 z350 => j3r68v2
                (fun z351 => k1 z351)
                (fun z352 z353 z354 z355 z356 z357 z358 z359 z360 z361 z362 z363 z364 z365 z366 z367 z368 z369 z370 => I2 z352 z353 z354 z355 z356 z357 z358 z359 z360 (IntKind.wrap .i64 (z361 + 1)) z362 z363 z364 z365 z366 z367 z368 z369 z370)
                z332 z333 z334 z335 z336 z337 z338 z339 z340 z341 z342 z343 z344 z345 z346 z347 z348 z349 z350)
               (fun z371 z372 z373 z374 z375 z376 z377 z378 z379 z380 z381 z382 z383 z384 z385 z386 => j3r68
                (fun z387 => k1 z387)
                (fun z388 z389 z390 z391 z392 z393 z394 z395 z396 z397 z398 z399 z400 z401 z402 z403 => I1 z388 z389 z390 z391 z392 z393 (IntKind.wrap .i64 (z394 + 1)) z395 z396 z397 z398 z399 z400 z401 z402 z403)
                z371 z372 z373 z374 z375 z376 z377 z378 z379 z380 z381 z382 z383 z384 z385 z386)
               s233 s234 s235 s236 s237 s238 s239 s240 s241 s242 y252 z256 s243 s244 s245 s246 s247 s248 s249 s250 s251)))
           (False /- 39 -/))
          (c4 y252 12
           (fun z404 => br (decide ((0 : Int) ≤ (maxI 0 (IntKind.wrap .i64 (((s240 : Nat) : Int) - z404))) ∧ ((maxI 0 (IntKind.wrap .i64 (((s240 : Nat) : Int) - z404))) : Int) ≤ ((s240 : Nat) : Int) ∧ (((s240 : Nat) : Int) : Int) ≤ ((s241 : Nat) : Int) ∧ (((s241 : Nat) : Int) : Int) ≤ ((s241 : Nat) : Int)))
            (l3r40
             (fun z405 z406 z407 z408 z409 z410 z411 z412 z413 z414 z415 z416 z417 z418 z419 z420 z421 z422 z423 z424 z425 z426 z427 => br ((z415 : Int) == 15)
              (j3r50
               (fun z428 => k1 z428)
               (fun z429 z430 z431 z432 z433 z434 z435 z436 z437 z438 z439 z440 z441 z442 z443 z444 z445 z446 z447 => I2 z429 z430 z431 z432 z433 z434 z435 z436 z437 (IntKind.wrap .i64 (z438 + 1)) z439 z440 z441 z442 z443 z444 z445 z446 z447)
               (fun z448 z449 z450 z451 z452 z453 z454 z455 z456 z457 z458 z459 z460 z461 z462 z463 z464 z465 z466 => j3r68v2
                (fun z467 => k1 z467)
                (fun z468 z469 z470 z471 z472 z473 z474 z475 z476 z477 z478 z479 z480 z481 z482 z483 z484 z485 z486 => I2 z468 z469 z470 z471 z472 z473 z474 z475 z476 (IntKind.wrap .i64 (z477 + 1)) z478 z479 z480 z481 z482 z483 z484 z485 z486)
                z448 z449 z450 z451 z452 z453 z454 z455 z456 z457 z458 z459 z460 z461 z462 z463 z464 z465 z466)
               z405 z406 z407 z408 z409 z410 z411 z412 z413 z414 z415 z416 z417 (decide ((z416 : Int) > z408)) z418 z419 z420 z421 z422 z423 z424 z425 z426 z427)
              (j3r50v2
               (fun z487 => k1 z487)
               (fun z488 z489 z490 z491 z492 z493 z494 z495 z496 z497 z498 z499 z500 z501 z502 z503 z504 z505 z506 => I2 z488 z489 z490 z491 z492 z493 z494 z495 z496 (IntKind.wrap .i64 (z497 + 1)) z498 z499 z500 z501 z502 z503 z504 z505 z506)
               (fun z507 z508 z509 z510 z511 z512 z513 z514 z515 z516 z517 z518 z519 z520 z521 z522 z523 z524 z525 => j3r68v2
                (fun z526 => k1 z526)
                (fun z527 z528 z529 z530 z531 z532 z533 z534 z535 z536 z537 z538 z539 z540 z541 z542 z543 z544 z545 => I2 z527 z528 z529 z530 z531 z532 z533 z534 z535 (IntKind.wrap .i64 (z536 + 1)) z537 z538 z539 z540 z541 z542 z543 z544 z545)
                z507 z508 z509 z510 z511 z512 z513 z514 z515 z516 z517 z518 z519 z520 z521 z522 z523 z524 z525)
               z405 z406 z407 z408 z409 z410 z411 z412 z413 z414 z415 z416 z417 (decide (((IntKind.wrap .i64 (z408 - z410)) : Int) < z409)) z418 z419 z420 z421 z422 z423 z424 z425 z426 z427))
             s233 s234 s235 s236 s237 s238 (s239 + (Int.toNat (maxI 0 (IntKind.wrap .i64 (((s240 : Nat) : Int) - z404))))) (Int.toNat (((s240 : Nat) : Int) - (maxI 0 (IntKind.wrap .i64 (((s240 : Nat) : Int) - z404))))) (Int.toNat (((s241 : Nat) : Int) - (maxI 0 (IntKind.wrap .i64 (((s240 : Nat) : Int) - z404))))) s242 z254 0 0 (s239 + (Int.toNat (maxI 0 (IntKind.wrap .i64 (((s240 : Nat) : Int) - z404))))) (Int.toNat (((s240 : Nat) : Int) - (maxI 0 (IntKind.wrap .i64 (((s240 : Nat) : Int) - z404))))) (Int.toNat (((s241 : Nat) : Int) - (maxI 0 (IntKind.wrap .i64 (((s240 : Nat) : Int) - z404))))) (((Int.toNat (((s240 : Nat) : Int) - (maxI 0 (IntKind.wrap .i64 (((s240 : Nat) : Int) - z404))))) : Nat) : Int) 0 s243 s244 s245 s246 s247 s248 s249 s250 s251 [])
            (False /- 84 -/)))))
      (k2 s243 s244 s245 s246 s247 s248 s249 s250))
     (k2 s243 s244 s245 s246 s247 s248 s249 s250))
    (k2 s243 s244 s245 s246 s247 s248 s249 s250)) → I2 s233 s234 s235 s236 s237 s238 s239 s240 s241 s242 s243 s244 s245 s246 s247 s248 s249 s250 s251) →
    I1 s1 s2 s3 s4 s5 s6 s7 s8 s9 s10 s11 s12 s13 s14 s15 s16
structure l3r11 (k1 : Bool → Prop) (k2 : Int → Int → Int → Int → Int → Int → (List Int) → (List Int) → Prop) (s1 : Int) (s2 : List Int) (s3 : List Int) (s4 : Int) (s5 : Int) (s6 : Int) (s7 : Int) (s8 : Int) (s9 : Int) (s10 : Int) (s11 : Int) (s12 : Int) (s13 : Int) (s14 : List Int) (s15 : List Int) (s16 : List (Int × Int × Int × Unit)) : Prop where
  of : tl3r11 k1 k2 s1 s2 s3 s4 s5 s6 s7 s8 s9 s10 s11 s12 s13 s14 s15 s16

def tl22r3 (k1 : Bool → Int → Int → Int → Int → Int → Int → (List Int) → (List Int) → (List Int) → Prop) (k2 : Int → Int → Int → Int → Int → Int → (List Int) → (List Int) → (List Int) → Prop) (s1 : Int) (s2 : Int) (s3 : Int) (s4 : Int) (s5 : Int) (s6 : Int) (s7 : Int) (s8 : Int) (s9 : List Int) (s10 : List Int) (s11 : List Int) : Prop :=
  ∀ (I1 : Int → Int → Int → Int → Int → Int → Int → Int → (List Int) → (List Int) → (List Int) → Prop),
    (∀ (s1 : Int) (s2 : Int) (s3 : Int) (s4 : Int) (s5 : Int) (s6 : Int) (s7 : Int) (s8 : Int) (s9 : List Int) (s10 : List Int) (s11 : List Int), (br (decide ((s2 : Int) < s1))
    (br (decide ((0 : Int) ≤ s2 ∧ (s2 : Int) < (((List.length s9) : Nat) : Int)))
     (need False (s9)[(Int.toNat s2)]? fun y12 =>
      c21 y12
       (fun z13 z14 z15 => br (!z15)
        (k1 false s3 s4 s5 s6 s7 s8 s9 s10 [])
        (br (roomB ((List.length s11) + 1) 8)
         (br (decide (((IntKind.wrap .i64 (s2 + (IntKind.wrap .i64 (z14 + 1)))) : Int) > s1))
          (k1 false s3 s4 s5 s6 s7 s8 s9 s10 [])
          (I1 s1 (IntKind.wrap .i64 (s2 + (IntKind.wrap .i64 (z14 + 1)))) s3 s4 s5 s6 s7 s8 s9 s10 (s11 ++ [s2])))
         (False /- 61 -/))))
     (False /- 39 -/))
    (k2 s3 s4 s5 s6 s7 s8 s9 s10 s11)) → I1 s1 s2 s3 s4 s5 s6 s7 s8 s9 s10 s11) →
    I1 s1 s2 s3 s4 s5 s6 s7 s8 s9 s10 s11
structure l22r3 (k1 : Bool → Int → Int → Int → Int → Int → Int → (List Int) → (List Int) → (List Int) → Prop) (k2 : Int → Int → Int → Int → Int → Int → (List Int) → (List Int) → (List Int) → Prop) (s1 : Int) (s2 : Int) (s3 : Int) (s4 : Int) (s5 : Int) (s6 : Int) (s7 : Int) (s8 : Int) (s9 : List Int) (s10 : List Int) (s11 : List Int) : Prop where
  of : tl22r3 k1 k2 s1 s2 s3 s4 s5 s6 s7 s8 s9 s10 s11

def tc22 (x1 : Int) (x2 : Int) (x3 : Int) (x4 : Int) (x5 : Int) (x6 : Int) (x7 : Int) (x8 : Int) (x9 : List Int) (x10 : List Int) (k1 : Bool → Int → Int → Int → Int → Int → Int → (List Int) → (List Int) → (List Int) → Prop) : Prop :=
  l22r3
  (fun z11 z12 z13 z14 z15 z16 z17 z18 z19 z20 => k1 z11 z12 z13 z14 z15 z16 z17 z18 z19 z20)
  (fun z21 z22 z23 z24 z25 z26 z27 z28 z29 => k1 true z21 z22 z23 z24 z25 z26 z27 z28 z29)
  x2 x1 x3 x4 x5 x6 x7 x8 x9 x10 []
structure c22 (x1 : Int) (x2 : Int) (x3 : Int) (x4 : Int) (x5 : Int) (x6 : Int) (x7 : Int) (x8 : Int) (x9 : List Int) (x10 : List Int) (k1 : Bool → Int → Int → Int → Int → Int → Int → (List Int) → (List Int) → (List Int) → Prop) : Prop where
  of : tc22 x1 x2 x3 x4 x5 x6 x7 x8 x9 x10 k1

def tc29 (x1 : Int) (k1 : Bool → Prop) : Prop :=
  k1 ((x1 : Int) != x1)
structure c29 (x1 : Int) (k1 : Bool → Prop) : Prop where
  of : tc29 x1 k1

def tc26 (x1 : Int) (x2 : Int) (k1 : Bool → Prop) : Prop :=
  c29 x1
  (fun z3 => br (z3)
   (c29 x2
    (fun z4 => br (!z4)
     (k1 true)
     (k1 (decide ((x1 : Int) < x2)))))
   (k1 (decide ((x1 : Int) < x2))))
structure c26 (x1 : Int) (x2 : Int) (k1 : Bool → Prop) : Prop where
  of : tc26 x1 x2 k1

def tl23r3 (k1 : (List Int) → Int → Int → Int → Prop) (s1 : List Int) (s2 : Int) (s3 : Int) (s4 : Int) (s5 : Int) : Prop :=
  ∀ (I1 : (List Int) → Int → Int → Int → Int → Prop),
    (∀ (s1 : List Int) (s2 : Int) (s3 : Int) (s4 : Int) (s5 : Int), (br (decide ((s4 : Int) < s5))
    (need False (at? s1 (IntKind.wrap .i64 (shrI .u64 (IntKind.wrap .u64 (IntKind.wrap .i64 (s4 + s5))) 1))) fun y6 =>
     c26 y6 s2
      (fun z7 => br (z7)
       (I1 s1 s2 s3 (IntKind.wrap .i64 ((IntKind.wrap .i64 (shrI .u64 (IntKind.wrap .u64 (IntKind.wrap .i64 (s4 + s5))) 1)) + 1)) s5)
       (I1 s1 s2 s3 s4 (IntKind.wrap .i64 (shrI .u64 (IntKind.wrap .u64 (IntKind.wrap .i64 (s4 + s5))) 1)))))
    (k1 s1 s2 s3 s4)) → I1 s1 s2 s3 s4 s5) →
    I1 s1 s2 s3 s4 s5
structure l23r3 (k1 : (List Int) → Int → Int → Int → Prop) (s1 : List Int) (s2 : Int) (s3 : Int) (s4 : Int) (s5 : Int) : Prop where
  of : tl23r3 k1 s1 s2 s3 s4 s5

def tc27 (x1 : Int) (k1 : Bool → Prop) : Prop :=
  k1 ((x1 : Int) != x1)
structure c27 (x1 : Int) (k1 : Bool → Prop) : Prop where
  of : tc27 x1 k1

def tc23 (x1 : List Int) (x2 : Int) (k1 : Int → Bool → Prop) : Prop :=
  l23r3
  (fun z3 z4 z5 z6 => br (decide ((z6 : Int) < z5))
   (need False (at? z3 z6) fun y7 =>
    br ((y7 : Int) == z4)
     (k1 z6 true)
     (need False (at? z3 z6) fun y8 =>
      c27 y8
       (fun z9 => br (z9)
        (c27 z4
         (fun z10 => k1 z6 z10))
        (k1 z6 false))))
   (k1 z6 false))
  x1 x2 (((List.length x1) : Nat) : Int) 0 (((List.length x1) : Nat) : Int)
structure c23 (x1 : List Int) (x2 : Int) (k1 : Int → Bool → Prop) : Prop where
  of : tc23 x1 x2 k1

def tl13r11 (k1 : Bool → Int → Int → Int → Int → Int → Int → (List Int) → (List Int) → Prop) (k2 : Int → Int → Int → Int → Int → Int → Int → Int → (List Int) → (List Int) → (List Int) → Prop) (s1 : Int) (s2 : Int) (s3 : Int) (s4 : Int) (s5 : Int) (s6 : Int) (s7 : Int) (s8 : Int) (s9 : Int) (s10 : Int) (s11 : Int) (s12 : List Int) (s13 : List Int) (s14 : List Int) : Prop :=
  ∀ (I1 : Int → Int → Int → Int → Int → Int → Int → Int → Int → Int → Int → (List Int) → (List Int) → (List Int) → Prop),
    (∀ (s1 : Int) (s2 : Int) (s3 : Int) (s4 : Int) (s5 : Int) (s6 : Int) (s7 : Int) (s8 : Int) (s9 : Int) (s10 : Int) (s11 : Int) (s12 : List Int) (s13 : List Int) (s14 : List Int), (br (decide ((s3 : Int) ≤ (IntKind.wrap .i64 (s1 + s2))))
    (br (decide ((0 : Int) ≤ s3 ∧ (s3 : Int) < (((List.length s12) : Nat) : Int)))
     (need False (s12)[(Int.toNat s3)]? fun y15 =>
      br (((bitop .and .i64 y15 1) : Int) == 1)
       (I1 s1 s2 (IntKind.wrap .i64 (s3 + 1)) s4 s5 s6 s7 s8 s9 s10 s11 s12 s13 s14)
       (br ((y15 : Int) == 0)
        (I1 s1 s2 (IntKind.wrap .i64 (s3 + 1)) s4 s5 s6 s7 s8 s9 s10 s11 s12 s13 s14)
        (c23 s14 (IntKind.wrap .i64 (Int.tdiv y15 2))
         (fun z16 z17 => br (!z17)
          (k1 false s6 s7 s8 s9 s10 s11 s12 s13)
          (I1 s1 s2 (IntKind.wrap .i64 (s3 + 1)) s4 s5 s6 s7 s8 s9 s10 s11 s12 s13 s14)))))
     (False /- 39 -/))
    (k2 s4 s5 s6 s7 s8 s9 s10 s11 s12 s13 s14)) → I1 s1 s2 s3 s4 s5 s6 s7 s8 s9 s10 s11 s12 s13 s14) →
    I1 s1 s2 s3 s4 s5 s6 s7 s8 s9 s10 s11 s12 s13 s14
structure l13r11 (k1 : Bool → Int → Int → Int → Int → Int → Int → (List Int) → (List Int) → Prop) (k2 : Int → Int → Int → Int → Int → Int → Int → Int → (List Int) → (List Int) → (List Int) → Prop) (s1 : Int) (s2 : Int) (s3 : Int) (s4 : Int) (s5 : Int) (s6 : Int) (s7 : Int) (s8 : Int) (s9 : Int) (s10 : Int) (s11 : Int) (s12 : List Int) (s13 : List Int) (s14 : List Int) : Prop where
  of : tl13r11 k1 k2 s1 s2 s3 s4 s5 s6 s7 s8 s9 s10 s11 s12 s13 s14

def tl13r7 (k1 : Bool → Int → Int → Int → Int → Int → Int → (List Int) → (List Int) → Prop) (k2 : Int → Int → Int → Int → Int → Int → (List Int) → (List Int) → Prop) (s1 : Int) (s2 : Int) (s3 : Int) (s4 : Int) (s5 : Int) (s6 : Int) (s7 : Int) (s8 : Int) (s9 : List Int) (s10 : List Int) (s11 : List Int) : Prop :=
  ∀ (I1 : Int → Int → Int → Int → Int → Int → Int → Int → (List Int) → (List Int) → (List Int) → Prop),
    (∀ (s1 : Int) (s2 : Int) (s3 : Int) (s4 : Int) (s5 : Int) (s6 : Int) (s7 : Int) (s8 : Int) (s9 : List Int) (s10 : List Int) (s11 : List Int), (br (decide ((s2 : Int) < s1))
    (br (decide ((0 : Int) ≤ s2 ∧ (s2 : Int) < (((List.length s11) : Nat) : Int)))
     (need False (s11)[(Int.toNat s2)]? fun y12 =>
      br (decide ((0 : Int) ≤ y12 ∧ (y12 : Int) < (((List.length s9) : Nat) : Int)))
       (need False (s9)[(Int.toNat y12)]? fun y13 =>
        c21 y13
         (fun z14 z15 z16 => l13r11
          (fun z17 z18 z19 z20 z21 z22 z23 z24 z25 => k1 z17 z18 z19 z20 z21 z22 z23 z24 z25)
          (fun z26 z27 z28 z29 z30 z31 z32 z33 z34 z35 z36 => I1 z26 (IntKind.wrap .i64 (z27 + 1)) z28 z29 z30 z31 z32 z33 z34 z35 z36)
          y12 z15 (IntKind.wrap .i64 (y12 + 1)) s1 s2 s3 s4 s5 s6 s7 s8 s9 s10 s11))
       (False /- 39 -/))
     (False /- 39 -/))
    (k2 s3 s4 s5 s6 s7 s8 s9 s10)) → I1 s1 s2 s3 s4 s5 s6 s7 s8 s9 s10 s11) →
    I1 s1 s2 s3 s4 s5 s6 s7 s8 s9 s10 s11
structure l13r7 (k1 : Bool → Int → Int → Int → Int → Int → Int → (List Int) → (List Int) → Prop) (k2 : Int → Int → Int → Int → Int → Int → (List Int) → (List Int) → Prop) (s1 : Int) (s2 : Int) (s3 : Int) (s4 : Int) (s5 : Int) (s6 : Int) (s7 : Int) (s8 : Int) (s9 : List Int) (s10 : List Int) (s11 : List Int) : Prop where
  of : tl13r7 k1 k2 s1 s2 s3 s4 s5 s6 s7 s8 s9 s10 s11

def tc13 (x1 : Int) (x2 : Int) (x3 : Int) (x4 : Int) (x5 : Int) (x6 : Int) (x7 : List Int) (x8 : List Int) (k1 : Bool → Int → Int → Int → Int → Int → Int → (List Int) → (List Int) → Prop) : Prop :=
  c22 1 x3 x1 x2 x3 x4 x5 x6 x7 x8
  (fun z9 z10 z11 z12 z13 z14 z15 z16 z17 z18 => c22 z14 z15 z10 z11 z12 z13 z14 z15 z16 z17
   (fun z19 z20 z21 z22 z23 z24 z25 z26 z27 z28 => br (!z9)
    (k1 false z20 z21 z22 z23 z24 z25 z26 z27)
    (br (!z19)
     (k1 false z20 z21 z22 z23 z24 z25 z26 z27)
     (br (List.isEmpty z28)
      (l13r7
       (fun z29 z30 z31 z32 z33 z34 z35 z36 z37 => k1 z29 z30 z31 z32 z33 z34 z35 z36 z37)
       (fun z38 z39 z40 z41 z42 z43 z44 z45 => k1 true z38 z39 z40 z41 z42 z43 z44 z45)
       (((List.length z18) : Nat) : Int) 0 z20 z21 z22 z23 z24 z25 z26 z27 z18)
      (br (roomB ((List.length z18) + (List.length z28)) 8)
       (l13r7
        (fun z46 z47 z48 z49 z50 z51 z52 z53 z54 => k1 z46 z47 z48 z49 z50 z51 z52 z53 z54)
        (fun z55 z56 z57 z58 z59 z60 z61 z62 => k1 true z55 z56 z57 z58 z59 z60 z61 z62)
        (((List.length (z18 ++ z28)) : Nat) : Int) 0 z20 z21 z22 z23 z24 z25 z26 z27 (z18 ++ z28))
       (False /- 61 -/))))))
structure c13 (x1 : Int) (x2 : Int) (x3 : Int) (x4 : Int) (x5 : Int) (x6 : Int) (x7 : List Int) (x8 : List Int) (k1 : Bool → Int → Int → Int → Int → Int → Int → (List Int) → (List Int) → Prop) : Prop where
  of : tc13 x1 x2 x3 x4 x5 x6 x7 x8 k1

def tc3 (x1 : Int) (x2 : Int) (x3 : Int) (x4 : List Int) (x5 : List Int) (k1 : Bool → Prop) : Prop :=
  c4 x1 6000
  (fun z6 => c4 x2 (maxI (IntKind.wrap .i64 ((IntKind.wrap .i64 (Int.tdiv (IntKind.wrap .i64 (32 + z6)) 2)) - 3)) 1)
   (fun z7 => c4 x3 (IntKind.wrap .i64 ((IntKind.wrap .i64 (Int.tdiv (IntKind.wrap .i64 ((IntKind.wrap .i64 (32 + z6)) - (IntKind.wrap .i64 (4 + z7)))) 2)) - 3))
    (fun z8 => c5 (IntKind.wrap .i64 (32 + z6)) (IntKind.wrap .i64 (4 + z7)) (IntKind.wrap .i64 (4 + z8))
     (fun z9 z10 => c6 
      (fun z11 => br (!z11)
       (k1 false)
       (br ((z10 : Int) != 0)
        (k1 false)
        (k1 false))))
     (fun z12 z13 z14 z15 z16 z17 z18 z19 => c6 
      (fun z20 => br (!z20)
       (k1 false)
       (br ((z12 : Int) != 0)
        (k1 false)
        (l3r11
         (fun z21 => k1 z21)
         (fun z22 z23 z24 z25 z26 z27 z28 z29 => c13 z22 z23 z24 z25 z26 z27 z28 z29
          (fun z30 z31 z32 z33 z34 z35 z36 z37 z38 => k1 z30))
         (IntKind.wrap .i64 (4 + z8)) x4 x5 (IntKind.wrap .i64 (Int.tdiv (IntKind.wrap .i64 ((IntKind.wrap .i64 ((IntKind.wrap .i64 ((IntKind.wrap .i64 (32 + z6)) - 1)) - (IntKind.wrap .i64 (4 + z8)))) - (IntKind.wrap .i64 (4 + z7)))) 2)) 0 0 0 z13 z14 z15 z16 z17 z18 z19 [] [])))))))
structure c3 (x1 : Int) (x2 : Int) (x3 : Int) (x4 : List Int) (x5 : List Int) (k1 : Bool → Prop) : Prop where
  of : tc3 x1 x2 x3 x4 x5 k1

end Go.Proofs.Ytdljpdafghdedaa
