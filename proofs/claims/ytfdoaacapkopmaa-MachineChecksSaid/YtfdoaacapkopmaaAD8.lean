/- What the functions compute, as plain Lean (printed by a program). -/
import Derived.Test.YtfdoaacapkopmaaATypT
namespace Go.Proofs.Ytfdoaacapkopmaa
open Go.Abs
set_option linter.unusedVariables false
def tc43 (x1 : Int) (k1 : (Int × Int × Int × Int × (Int × Int × Int × Int × Unit) × (Int × Int × Int × Int × Unit) × Int × Unit) → Prop) : Prop :=
  k1 (x1, 32, 16, 0, (2, 4, 2, 5, ()), (2, 4, 2, 5, ()), 8, ())
structure c43 (x1 : Int) (k1 : (Int × Int × Int × Int × (Int × Int × Int × Int × Unit) × (Int × Int × Int × Int × Unit) × Int × Unit) → Prop) : Prop where
  of : tc43 x1 k1

def tc127 (x1 : Int) (x2 : Int) (x3 : Int) (k1 : Bool → Prop) : Prop :=
  br (decide ((x1 : Int) ≥ x2))
  (k1 (decide ((x1 : Int) ≤ x3)))
  (k1 false)
structure c127 (x1 : Int) (x2 : Int) (x3 : Int) (k1 : Bool → Prop) : Prop where
  of : tc127 x1 x2 x3 k1

def tc66 (x1 : Int) (x2 : Int) (x3 : Int) (k1 : Unit → Int → Prop) (k2 : Int → Int → Int → Int → Int → Int → Int → (List Int) → Prop) : Prop :=
  c127 x1 32 65536
  (fun z4 => br (!z4)
   (k1 () 4)
   (c127 x2 4 (IntKind.wrap .i64 (Int.tdiv x1 2))
    (fun z5 => br (!z5)
     (k1 () 4)
     (c127 x3 4 (IntKind.wrap .i64 (Int.tdiv (IntKind.wrap .i64 (x1 - x2)) 2))
      (fun z6 => br (!z6)
       (k1 () 4)
       (br (decide ((0 : Int) ≤ x1 ∧ (x1 : Int) ≤ x1 ∧ ((x1 * 8) : Int) ≤ 140737488355328))
        (k2 0 (IntKind.wrap .i64 (x1 - x2)) (IntKind.wrap .i64 (1 + x3)) 1 (IntKind.wrap .i64 (Int.tdiv (IntKind.wrap .i64 ((IntKind.wrap .i64 (x1 - x2)) - (IntKind.wrap .i64 (1 + x3)))) 2)) (IntKind.wrap .i64 (1 + x3)) (IntKind.wrap .i64 (1 + x3)) (List.replicate (Int.toNat x1) (0 : Int)))
        (False /- 111 -/)))))))
structure c66 (x1 : Int) (x2 : Int) (x3 : Int) (k1 : Unit → Int → Prop) (k2 : Int → Int → Int → Int → Int → Int → Int → (List Int) → Prop) : Prop where
  of : tc66 x1 x2 x3 k1 k2

def tc124 (x1 : Int) (x2 : Int) (x3 : Int) (k1 : Bool → Prop) : Prop :=
  br (decide ((x1 : Int) ≥ x2))
  (k1 (decide ((x1 : Int) ≤ x3)))
  (k1 false)
structure c124 (x1 : Int) (x2 : Int) (x3 : Int) (k1 : Bool → Prop) : Prop where
  of : tc124 x1 x2 x3 k1

def tc122 (x1 : Int × Int × Int × Int × Unit) (k1 : Int → Prop) : Prop :=
  c124 x1.1 1 64
  (fun z2 => br (!z2)
   (k1 4)
   (c124 x1.2.1 1 256
    (fun z3 => br (!z3)
     (k1 4)
     (c124 x1.2.2.1 1 8
      (fun z4 => br (!z4)
       (k1 4)
       (c124 x1.2.2.2.1 0 1000
        (fun z5 => br (!z5)
         (k1 4)
         (k1 0))))))))
structure c122 (x1 : Int × Int × Int × Int × Unit) (k1 : Int → Prop) : Prop where
  of : tc122 x1 k1

def tc123 (x1 : Int × Int × Int × Int × Unit) (k1 : (Int × Int × Int × Int × Unit) → (List (List (Int × Bool × Unit))) → Prop) : Prop :=
  br (decide ((0 : Int) ≤ x1.2.1 ∧ (x1.2.1 : Int) ≤ x1.2.1 ∧ ((x1.2.1 * 24) : Int) ≤ 140737488355328))
  (br (eqT (.pair (.int .i64) (.pair (.int .i64) (.pair (.int .i64) (.pair (.int .i64) .unit)))) x1 x1)
   (k1 x1 (List.replicate (Int.toNat x1.2.1) ([] : List ((Int) × (Bool) × Unit))))
   (False /- 942 -/))
  (False /- 111 -/)
structure c123 (x1 : Int × Int × Int × Int × Unit) (k1 : (Int × Int × Int × Int × Unit) → (List (List (Int × Bool × Unit))) → Prop) : Prop where
  of : tc123 x1 k1

def tc59 (x1 : Int × Int × Int × Int × Unit) (x2 : Int × Int × Int × Int × Unit) (k1 : Unit → Int → Prop) (k2 : Int → Int → (Int × Int × Int × Int × Unit) → (List (List (Int × Bool × Unit))) → (Int × Int × Int × Int × Unit) → (List (List (Int × Bool × Unit))) → Prop) : Prop :=
  c122 x1
  (fun z3 => br ((z3 : Int) != 0)
   (k1 () z3)
   (c122 x2
    (fun z4 => br ((z4 : Int) != 0)
     (k1 () z4)
     (c123 x1
      (fun z5 z6 => br (eqT (.pair (.int .i64) (.pair (.int .i64) (.pair (.int .i64) (.pair (.int .i64) .unit)))) x2 x2)
       (c123 x2
        (fun z7 z8 => k2 0 0 z5 z6 z7 z8))
       (False /- 942 -/))))))
structure c59 (x1 : Int × Int × Int × Int × Unit) (x2 : Int × Int × Int × Int × Unit) (k1 : Unit → Int → Prop) (k2 : Int → Int → (Int × Int × Int × Int × Unit) → (List (List (Int × Bool × Unit))) → (Int × Int × Int × Int × Unit) → (List (List (Int × Bool × Unit))) → Prop) : Prop where
  of : tc59 x1 x2 k1 k2

def tl15r5 (k1 : Int → (List Int) → Prop) (s1 : Int) (s2 : Int) (s3 : Int) (s4 : List Int) : Prop :=
  ∀ (I1 : Int → Int → Int → (List Int) → Prop),
    (∀ (s1 : Int) (s2 : Int) (s3 : Int) (s4 : List Int), (br (decide ((s2 : Int) < s1))
    (br (decide ((0 : Int) ≤ s2 ∧ (s2 : Int) < (((List.length s4) : Nat) : Int)))
     (need False (s4)[(Int.toNat s2)]? fun y5 =>
      I1 s1 (IntKind.wrap .i64 (s2 + 1)) s3 (List.set s4 (Int.toNat s2) 1))
     (False /- 39 -/))
    (k1 s3 s4)) → I1 s1 s2 s3 s4) →
    I1 s1 s2 s3 s4
structure l15r5 (k1 : Int → (List Int) → Prop) (s1 : Int) (s2 : Int) (s3 : Int) (s4 : List Int) : Prop where
  of : tl15r5 k1 s1 s2 s3 s4

def tc15 (x1 : Int) (k1 : Unit → Int → Prop) (k2 : Int → Int → (List Int) → Prop) : Prop :=
  br (decide ((x1 : Int) < 1))
  (k1 () 4)
  (br (decide ((x1 : Int) > 1024))
   (k1 () 4)
   (br (decide ((0 : Int) ≤ x1 ∧ (x1 : Int) ≤ x1 ∧ ((x1 * 8) : Int) ≤ 140737488355328))
    (l15r5
     (fun z2 z3 => k2 0 z2 z3)
     (((List.length (List.replicate (Int.toNat x1) (0 : Int))) : Nat) : Int) 0 0 (List.replicate (Int.toNat x1) (0 : Int)))
    (False /- 111 -/)))
structure c15 (x1 : Int) (k1 : Unit → Int → Prop) (k2 : Int → Int → (List Int) → Prop) : Prop where
  of : tc15 x1 k1 k2

def tc42 (x1 : Int × Int × Int × Int × (Int × Int × Int × Int × Unit) × (Int × Int × Int × Int × Unit) × Int × Unit) (k1 : Int → Prop) : Prop :=
  br (decide ((x1.2.2.2.1 : Int) < 0))
  (k1 4)
  (c66 x1.1 x1.2.1 x1.2.2.1
   (fun z2 z3 => br ((z3 : Int) != 0)
    (k1 z3)
    (c59 x1.2.2.2.2.1 x1.2.2.2.2.2.1
     (fun z4 z5 => br ((z5 : Int) != 0)
      (k1 z5)
      (c15 x1.2.2.2.2.2.2.1
       (fun z6 z7 => k1 z7)
       (fun z8 z9 z10 => k1 z8)))
     (fun z11 z12 z13 z14 z15 z16 => br ((z11 : Int) != 0)
      (k1 z11)
      (c15 x1.2.2.2.2.2.2.1
       (fun z17 z18 => k1 z18)
       (fun z19 z20 z21 => k1 z19)))))
   (fun z22 z23 z24 z25 z26 z27 z28 z29 => br ((z22 : Int) != 0)
    (k1 z22)
    (c59 x1.2.2.2.2.1 x1.2.2.2.2.2.1
     (fun z30 z31 => br ((z31 : Int) != 0)
      (k1 z31)
      (c15 x1.2.2.2.2.2.2.1
       (fun z32 z33 => k1 z33)
       (fun z34 z35 z36 => k1 z34)))
     (fun z37 z38 z39 z40 z41 z42 => br ((z37 : Int) != 0)
      (k1 z37)
      (c15 x1.2.2.2.2.2.2.1
       (fun z43 z44 => k1 z44)
       (fun z45 z46 z47 => k1 z45))))))
structure c42 (x1 : Int × Int × Int × Int × (Int × Int × Int × Int × Unit) × (Int × Int × Int × Int × Unit) × Int × Unit) (k1 : Int → Prop) : Prop where
  of : tc42 x1 k1

def tl145r2 (k1 : Bool → Prop) (k2 : Prop) (s1 : Int) (s2 : Int) (s3 : List Int) (s4 : Int) (s5 : Int) : Prop :=
  ∀ (I1 : Int → Int → (List Int) → Int → Int → Prop),
    (∀ (s1 : Int) (s2 : Int) (s3 : List Int) (s4 : Int) (s5 : Int), (br (decide ((s5 : Int) < s4))
    (need False (at? s3 s5) fun y6 =>
     br (decide ((y6 : Int) < s1))
      (k1 false)
      (br (decide ((y6 : Int) > s2))
       (k1 false)
       (I1 (IntKind.wrap .i64 (y6 + 1)) s2 s3 s4 (IntKind.wrap .i64 (s5 + 1)))))
    (k2)) → I1 s1 s2 s3 s4 s5) →
    I1 s1 s2 s3 s4 s5
structure l145r2 (k1 : Bool → Prop) (k2 : Prop) (s1 : Int) (s2 : Int) (s3 : List Int) (s4 : Int) (s5 : Int) : Prop where
  of : tl145r2 k1 k2 s1 s2 s3 s4 s5

def tc145 (x1 : List Int) (x2 : Int) (x3 : Int) (k1 : Bool → Prop) : Prop :=
  l145r2
  (fun z4 => k1 z4)
  (k1 true)
  x2 x3 x1 (((List.length x1) : Nat) : Int) 0
structure c145 (x1 : List Int) (x2 : Int) (x3 : Int) (k1 : Bool → Prop) : Prop where
  of : tc145 x1 x2 x3 k1

def tl112r9 (k1 : Int → Prop) (k2 : Prop) (s1 : Int) (s2 : List (Int × Int × (List Int) × Int × Unit)) (s3 : Int) (s4 : Int) (s5 : (List Int) × Int × (List Int) × (List (Int × Int × (List Int) × Int × Unit)) × (List (Int × Int × Int × (List ((List UInt8) × Int × Int × Unit)) × Unit)) × Unit) : Prop :=
  ∀ (I1 : Int → (List (Int × Int × (List Int) × Int × Unit)) → Int → Int → ((List Int) × Int × (List Int) × (List (Int × Int × (List Int) × Int × Unit)) × (List (Int × Int × Int × (List ((List UInt8) × Int × Int × Unit)) × Unit)) × Unit) → Prop),
    (∀ (s1 : Int) (s2 : List (Int × Int × (List Int) × Int × Unit)) (s3 : Int) (s4 : Int) (s5 : (List Int) × Int × (List Int) × (List (Int × Int × (List Int) × Int × Unit)) × (List (Int × Int × Int × (List ((List UInt8) × Int × Int × Unit)) × Unit)) × Unit), (br (decide ((s4 : Int) < s3))
    (need False (at? s2 s4) fun y6 =>
     br (decide ((y6.1 : Int) ≤ s1))
      (k1 3)
      (br (decide ((y6.1 : Int) ≥ (((List.length s5.1) : Nat) : Int)))
       (k1 3)
       (br (decide ((y6.2.1 : Int) < 0))
        (k1 3)
        (br (decide ((y6.2.1 : Int) > 4096))
         (k1 3)
         (c145 y6.2.2.1 0 (IntKind.wrap .i64 (y6.2.1 - 1))
          (fun z7 => br (!z7)
           (k1 3)
           (br (((bitop .andNot .i64 y6.2.2.2.1 16382) : Int) != 0)
            (k1 3)
            (I1 y6.1 s2 s3 (IntKind.wrap .i64 (s4 + 1)) s5))))))))
    (k2)) → I1 s1 s2 s3 s4 s5) →
    I1 s1 s2 s3 s4 s5
structure l112r9 (k1 : Int → Prop) (k2 : Prop) (s1 : Int) (s2 : List (Int × Int × (List Int) × Int × Unit)) (s3 : Int) (s4 : Int) (s5 : (List Int) × Int × (List Int) × (List (Int × Int × (List Int) × Int × Unit)) × (List (Int × Int × Int × (List ((List UInt8) × Int × Int × Unit)) × Unit)) × Unit) : Prop where
  of : tl112r9 k1 k2 s1 s2 s3 s4 s5

def tc112 (x1 : (List Int) × Int × (List Int) × (List (Int × Int × (List Int) × Int × Unit)) × (List (Int × Int × Int × (List ((List UInt8) × Int × Int × Unit)) × Unit)) × Unit) (k1 : Int → Prop) : Prop :=
  br (decide (((((List.length x1.1) : Nat) : Int) : Int) > 16384))
  (k1 2)
  (br (decide (((((List.length x1.2.2.1) : Nat) : Int) : Int) > 256))
   (k1 2)
   (br (decide (((((List.length x1.2.2.2.1) : Nat) : Int) : Int) > 16384))
    (k1 2)
    (br (decide ((x1.2.1 : Int) < 0))
     (k1 4)
     (br (decide ((x1.2.1 : Int) ≥ (((List.length x1.1) : Nat) : Int)))
      (k1 4)
      (c145 x1.2.2.1 0 (IntKind.wrap .i64 ((((List.length x1.1) : Nat) : Int) - 1))
       (fun z2 => br (!z2)
        (k1 3)
        (l112r9
         (fun z3 => k1 z3)
         (k1 0)
         (-1) x1.2.2.2.1 (((List.length x1.2.2.2.1) : Nat) : Int) 0 x1)))))))
structure c112 (x1 : (List Int) × Int × (List Int) × (List (Int × Int × (List Int) × Int × Unit)) × (List (Int × Int × Int × (List ((List UInt8) × Int × Int × Unit)) × Unit)) × Unit) (k1 : Int → Prop) : Prop where
  of : tc112 x1 k1

def tc113 (k1 : Int → Int → Int → (List Int) → Int → Prop) : Prop :=
  k1 0 0 0 [0, 0, 0, 0, 0, 0, 0, 0, 0, 0, 0, 0, 0, 0, 0, 0] 0
structure c113 (k1 : Int → Int → Int → (List Int) → Int → Prop) : Prop where
  of : tc113 k1

def tc114 (x1 : List Int) (k1 : (List Int) → Prop) : Prop :=
  br (List.isEmpty x1)
  ((k1 []) ∧
   (br (List.isEmpty x1)
    (k1 [])
    (br (roomB (0 + (List.length x1)) 8)
     (k1 ([] ++ x1))
     (False /- 61 -/))))
  (br (List.isEmpty x1)
   (k1 [])
   (br (roomB (0 + (List.length x1)) 8)
    (k1 ([] ++ x1))
    (False /- 61 -/)))
structure c114 (x1 : List Int) (k1 : (List Int) → Prop) : Prop where
  of : tc114 x1 k1

def tc115 (x1 : List (Int × Int × (List Int) × Int × Unit)) (k1 : (List (Int × Int × (List Int) × Int × Unit)) → (List (Int × Int × (List Int) × Int × Unit)) → Prop) : Prop :=
  br (List.isEmpty x1)
  ((k1 x1 []) ∧
   (br (List.isEmpty x1)
    (k1 x1 [])
    (br (roomB (0 + (List.length x1)) 48)
     (k1 x1 ([] ++ x1))
     (False /- 61 -/))))
  (br (List.isEmpty x1)
   (k1 x1 [])
   (br (roomB (0 + (List.length x1)) 48)
    (k1 x1 ([] ++ x1))
    (False /- 61 -/)))
structure c115 (x1 : List (Int × Int × (List Int) × Int × Unit)) (k1 : (List (Int × Int × (List Int) × Int × Unit)) → (List (Int × Int × (List Int) × Int × Unit)) → Prop) : Prop where
  of : tc115 x1 k1

def tj45r10 (k1 : Int → (List Int) → (List Int) → (List (Int × Int × (List Int) × Int × Unit)) → (List (Int × Int × Int × (List ((List UInt8) × Int × Int × Unit)) × Unit)) → Int → Unit → Unit → Unit → Int → (List Int) → Int → Int → Int → Int → Int → Bool → (Int × Int × Int × Int × Int × Unit) → Int → Int → (List Int) → (List Int) → (List (Int × Int × (List Int) × Int × Unit)) → Int → Int → Int → (List Int) → Int → (List Int) → (List Int) → Prop) (k2 : Int → (List Int) → (List Int) → (List (Int × Int × (List Int) × Int × Unit)) → (List (Int × Int × Int × (List ((List UInt8) × Int × Int × Unit)) × Unit)) → Int → Unit → Unit → Int → (List Int) → Int → Int → Int → Int → Int → Bool → (Int × Int × Int × Int × Int × Unit) → Int → Int → (List Int) → (List Int) → (List (Int × Int × (List Int) × Int × Unit)) → Int → (List Int) → Int → Int → Int → (List Int) → Int → (List Int) → (List Int) → Prop) (k3 : Int → (List Int) → (List Int) → (List (Int × Int × (List Int) × Int × Unit)) → (List (Int × Int × Int × (List ((List UInt8) × Int × Int × Unit)) × Unit)) → Int → Unit → Unit → Int → (List Int) → Int → Int → Int → Int → Int → Bool → (Int × Int × Int × Int × Int × Unit) → Int → Int → (List Int) → (List Int) → (List (Int × Int × (List Int) × Int × Unit)) → Int → (Int × Int × Int × Int × Unit) → (List (List (Int × Bool × Unit))) → (Int × Int × Int × Int × Unit) → (List (List (Int × Bool × Unit))) → Int → Int → Int → (List Int) → Int → (List Int) → (List Int) → Prop) (k4 : Int → (List Int) → (List Int) → (List (Int × Int × (List Int) × Int × Unit)) → (List (Int × Int × Int × (List ((List UInt8) × Int × Int × Unit)) × Unit)) → Int → Unit → Int → (List Int) → Int → Int → Int → Int → Int → Bool → (Int × Int × Int × Int × Int × Unit) → Int → Int → (List Int) → (List Int) → (List (Int × Int × (List Int) × Int × Unit)) → Int → (Int × Int × Int × Int × Unit) → (List (List (Int × Bool × Unit))) → (Int × Int × Int × Int × Unit) → (List (List (Int × Bool × Unit))) → Int → (List Int) → Int → Int → Int → (List Int) → Int → (List Int) → (List Int) → Prop) (s1 : List Int) (s2 : List Int) (s3 : List (Int × Int × (List Int) × Int × Unit)) (s4 : List (Int × Int × Int × (List ((List UInt8) × Int × Int × Unit)) × Unit)) (s5 : Int × Int × Int × Int × (Int × Int × Int × Int × Unit) × (Int × Int × Int × Int × Unit) × Int × Unit) (s6 : Int) (s7 : Unit) (s8 : Unit) (s9 : Unit) (s10 : Int) (s11 : List Int) (s12 : Int) (s13 : Int) (s14 : Int) (s15 : Int) (s16 : Int) (s17 : Bool) (s18 : Int × Int × Int × Int × Int × Unit) (s19 : Int) (s20 : Int) (s21 : List Int) (s22 : List Int) (s23 : List (Int × Int × (List Int) × Int × Unit)) (s24 : Int) (s25 : Int) (s26 : Int) (s27 : List Int) (s28 : Int) (s29 : List Int) (s30 : List Int) : Prop :=
  c59 s5.2.2.2.2.1 s5.2.2.2.2.2.1
  (fun z31 z32 => c15 s5.2.2.2.2.2.2.1
   (fun z33 z34 => br (eqT (.int .i64) s5.1 s5.1)
    (br (eqT (.int .i64) (IntKind.wrap .i64 (2 * s5.1)) (IntKind.wrap .i64 (2 * s5.1)))
     (need False (s11)[14]? fun y35 =>
      k1 0 s1 s2 s3 s4 s6 s7 z31 z33 s10 (List.set s11 14 (IntKind.wrap .i64 (2 * s5.1))) s12 (IntKind.wrap .i64 (2 * (IntKind.wrap .i64 (s5.1 - s5.2.1)))) (IntKind.wrap .i64 (2 * s5.1)) s15 s16 s17 s18 s19 s20 s21 s22 s23 s24 s25 s26 s27 s28 s29 s30)
     (False /- 942 -/))
    (False /- 942 -/))
   (fun z36 z37 z38 => br (eqT (.int .i64) s5.1 s5.1)
    (br (eqT (.int .i64) (IntKind.wrap .i64 (2 * s5.1)) (IntKind.wrap .i64 (2 * s5.1)))
     (need False (s11)[14]? fun y39 =>
      k2 0 s1 s2 s3 s4 s6 s7 z31 s10 (List.set s11 14 (IntKind.wrap .i64 (2 * s5.1))) s12 (IntKind.wrap .i64 (2 * (IntKind.wrap .i64 (s5.1 - s5.2.1)))) (IntKind.wrap .i64 (2 * s5.1)) s15 s16 s17 s18 s19 s20 s21 s22 s23 z37 z38 s24 s25 s26 s27 s28 s29 s30)
     (False /- 942 -/))
    (False /- 942 -/)))
  (fun z40 z41 z42 z43 z44 z45 => c15 s5.2.2.2.2.2.2.1
   (fun z46 z47 => br (eqT (.int .i64) s5.1 s5.1)
    (br (eqT (.int .i64) (IntKind.wrap .i64 (2 * s5.1)) (IntKind.wrap .i64 (2 * s5.1)))
     (need False (s11)[14]? fun y48 =>
      k3 0 s1 s2 s3 s4 s6 s7 z46 s10 (List.set s11 14 (IntKind.wrap .i64 (2 * s5.1))) s12 (IntKind.wrap .i64 (2 * (IntKind.wrap .i64 (s5.1 - s5.2.1)))) (IntKind.wrap .i64 (2 * s5.1)) s15 s16 s17 s18 s19 s20 s21 s22 s23 z41 z42 z43 z44 z45 s24 s25 s26 s27 s28 s29 s30)
     (False /- 942 -/))
    (False /- 942 -/))
   (fun z49 z50 z51 => br (eqT (.int .i64) s5.1 s5.1)
    (br (eqT (.int .i64) (IntKind.wrap .i64 (2 * s5.1)) (IntKind.wrap .i64 (2 * s5.1)))
     (need False (s11)[14]? fun y52 =>
      k4 0 s1 s2 s3 s4 s6 s7 s10 (List.set s11 14 (IntKind.wrap .i64 (2 * s5.1))) s12 (IntKind.wrap .i64 (2 * (IntKind.wrap .i64 (s5.1 - s5.2.1)))) (IntKind.wrap .i64 (2 * s5.1)) s15 s16 s17 s18 s19 s20 s21 s22 s23 z41 z42 z43 z44 z45 z50 z51 s24 s25 s26 s27 s28 s29 s30)
     (False /- 942 -/))
    (False /- 942 -/)))
structure j45r10 (k1 : Int → (List Int) → (List Int) → (List (Int × Int × (List Int) × Int × Unit)) → (List (Int × Int × Int × (List ((List UInt8) × Int × Int × Unit)) × Unit)) → Int → Unit → Unit → Unit → Int → (List Int) → Int → Int → Int → Int → Int → Bool → (Int × Int × Int × Int × Int × Unit) → Int → Int → (List Int) → (List Int) → (List (Int × Int × (List Int) × Int × Unit)) → Int → Int → Int → (List Int) → Int → (List Int) → (List Int) → Prop) (k2 : Int → (List Int) → (List Int) → (List (Int × Int × (List Int) × Int × Unit)) → (List (Int × Int × Int × (List ((List UInt8) × Int × Int × Unit)) × Unit)) → Int → Unit → Unit → Int → (List Int) → Int → Int → Int → Int → Int → Bool → (Int × Int × Int × Int × Int × Unit) → Int → Int → (List Int) → (List Int) → (List (Int × Int × (List Int) × Int × Unit)) → Int → (List Int) → Int → Int → Int → (List Int) → Int → (List Int) → (List Int) → Prop) (k3 : Int → (List Int) → (List Int) → (List (Int × Int × (List Int) × Int × Unit)) → (List (Int × Int × Int × (List ((List UInt8) × Int × Int × Unit)) × Unit)) → Int → Unit → Unit → Int → (List Int) → Int → Int → Int → Int → Int → Bool → (Int × Int × Int × Int × Int × Unit) → Int → Int → (List Int) → (List Int) → (List (Int × Int × (List Int) × Int × Unit)) → Int → (Int × Int × Int × Int × Unit) → (List (List (Int × Bool × Unit))) → (Int × Int × Int × Int × Unit) → (List (List (Int × Bool × Unit))) → Int → Int → Int → (List Int) → Int → (List Int) → (List Int) → Prop) (k4 : Int → (List Int) → (List Int) → (List (Int × Int × (List Int) × Int × Unit)) → (List (Int × Int × Int × (List ((List UInt8) × Int × Int × Unit)) × Unit)) → Int → Unit → Int → (List Int) → Int → Int → Int → Int → Int → Bool → (Int × Int × Int × Int × Int × Unit) → Int → Int → (List Int) → (List Int) → (List (Int × Int × (List Int) × Int × Unit)) → Int → (Int × Int × Int × Int × Unit) → (List (List (Int × Bool × Unit))) → (Int × Int × Int × Int × Unit) → (List (List (Int × Bool × Unit))) → Int → (List Int) → Int → Int → Int → (List Int) → Int → (List Int) → (List Int) → Prop) (s1 : List Int) (s2 : List Int) (s3 : List (Int × Int × (List Int) × Int × Unit)) (s4 : List (Int × Int × Int × (List ((List UInt8) × Int × Int × Unit)) × Unit)) (s5 : Int × Int × Int × Int × (Int × Int × Int × Int × Unit) × (Int × Int × Int × Int × Unit) × Int × Unit) (s6 : Int) (s7 : Unit) (s8 : Unit) (s9 : Unit) (s10 : Int) (s11 : List Int) (s12 : Int) (s13 : Int) (s14 : Int) (s15 : Int) (s16 : Int) (s17 : Bool) (s18 : Int × Int × Int × Int × Int × Unit) (s19 : Int) (s20 : Int) (s21 : List Int) (s22 : List Int) (s23 : List (Int × Int × (List Int) × Int × Unit)) (s24 : Int) (s25 : Int) (s26 : Int) (s27 : List Int) (s28 : Int) (s29 : List Int) (s30 : List Int) : Prop where
  of : tj45r10 k1 k2 k3 k4 s1 s2 s3 s4 s5 s6 s7 s8 s9 s10 s11 s12 s13 s14 s15 s16 s17 s18 s19 s20 s21 s22 s23 s24 s25 s26 s27 s28 s29 s30

def tj45r10v2 (k1 : Int → (List Int) → (List Int) → (List (Int × Int × (List Int) × Int × Unit)) → (List (Int × Int × Int × (List ((List UInt8) × Int × Int × Unit)) × Unit)) → Int → Unit → Unit → Int → (List Int) → Int → Int → Int → Int → Int → Bool → (Int × Int × Int × Int × Int × Unit) → Int → Int → (List Int) → (List Int) → (List (Int × Int × (List Int) × Int × Unit)) → Int → Int → Int → Int → Int → Int → (List Int) → (List Int) → Int → Int → Int → (List Int) → Int → (List Int) → (List Int) → Prop) (k2 : Int → (List Int) → (List Int) → (List (Int × Int × (List Int) × Int × Unit)) → (List (Int × Int × Int × (List ((List UInt8) × Int × Int × Unit)) × Unit)) → Int → Unit → Int → (List Int) → Int → Int → Int → Int → Int → Bool → (Int × Int × Int × Int × Int × Unit) → Int → Int → (List Int) → (List Int) → (List (Int × Int × (List Int) × Int × Unit)) → Int → Int → Int → Int → Int → Int → (List Int) → (List Int) → Int → (List Int) → Int → Int → Int → (List Int) → Int → (List Int) → (List Int) → Prop) (k3 : Int → (List Int) → (List Int) → (List (Int × Int × (List Int) × Int × Unit)) → (List (Int × Int × Int × (List ((List UInt8) × Int × Int × Unit)) × Unit)) → Int → Unit → Int → (List Int) → Int → Int → Int → Int → Int → Bool → (Int × Int × Int × Int × Int × Unit) → Int → Int → (List Int) → (List Int) → (List (Int × Int × (List Int) × Int × Unit)) → Int → Int → Int → Int → Int → Int → (List Int) → (List Int) → Int → (Int × Int × Int × Int × Unit) → (List (List (Int × Bool × Unit))) → (Int × Int × Int × Int × Unit) → (List (List (Int × Bool × Unit))) → Int → Int → Int → (List Int) → Int → (List Int) → (List Int) → Prop) (k4 : Int → (List Int) → (List Int) → (List (Int × Int × (List Int) × Int × Unit)) → (List (Int × Int × Int × (List ((List UInt8) × Int × Int × Unit)) × Unit)) → Int → Int → (List Int) → Int → Int → Int → Int → Int → Bool → (Int × Int × Int × Int × Int × Unit) → Int → Int → (List Int) → (List Int) → (List (Int × Int × (List Int) × Int × Unit)) → Int → Int → Int → Int → Int → Int → (List Int) → (List Int) → Int → (Int × Int × Int × Int × Unit) → (List (List (Int × Bool × Unit))) → (Int × Int × Int × Int × Unit) → (List (List (Int × Bool × Unit))) → Int → (List Int) → Int → Int → Int → (List Int) → Int → (List Int) → (List Int) → Prop) (s1 : List Int) (s2 : List Int) (s3 : List (Int × Int × (List Int) × Int × Unit)) (s4 : List (Int × Int × Int × (List ((List UInt8) × Int × Int × Unit)) × Unit)) (s5 : Int × Int × Int × Int × (Int × Int × Int × Int × Unit) × (Int × Int × Int × Int × Unit) × Int × Unit) (s6 : Int) (s7 : Unit) (s8 : Unit) (s9 : Int) (s10 : List Int) (s11 : Int) (s12 : Int) (s13 : Int) (s14 : Int) (s15 : Int) (s16 : Bool) (s17 : Int × Int × Int × Int × Int × Unit) (s18 : Int) (s19 : Int) (s20 : List Int) (s21 : List Int) (s22 : List (Int × Int × (List Int) × Int × Unit)) (s23 : Int) (s24 : Int) (s25 : Int) (s26 : Int) (s27 : Int) (s28 : Int) (s29 : List Int) (s30 : List Int) (s31 : Int) (s32 : Int) (s33 : Int) (s34 : List Int) (s35 : Int) (s36 : List Int) (s37 : List Int) : Prop :=
  c59 s5.2.2.2.2.1 s5.2.2.2.2.2.1
  (fun z38 z39 => c15 s5.2.2.2.2.2.2.1
   (fun z40 z41 => br (eqT (.int .i64) s5.1 s5.1)
    (br (eqT (.int .i64) (IntKind.wrap .i64 (2 * s5.1)) (IntKind.wrap .i64 (2 * s5.1)))
     (need False (s10)[14]? fun y42 =>
      k1 0 s1 s2 s3 s4 s6 z38 z40 s9 (List.set s10 14 (IntKind.wrap .i64 (2 * s5.1))) s11 (IntKind.wrap .i64 (2 * (IntKind.wrap .i64 (s5.1 - s5.2.1)))) (IntKind.wrap .i64 (2 * s5.1)) s14 s15 s16 s17 s18 s19 s20 s21 s22 s23 s24 s25 s26 s27 s28 s29 s30 s31 s32 s33 s34 s35 s36 s37)
     (False /- 942 -/))
    (False /- 942 -/))
   (fun z43 z44 z45 => br (eqT (.int .i64) s5.1 s5.1)
    (br (eqT (.int .i64) (IntKind.wrap .i64 (2 * s5.1)) (IntKind.wrap .i64 (2 * s5.1)))
     (need False (s10)[14]? fun y46 =>
      k2 0 s1 s2 s3 s4 s6 z38 s9 (List.set s10 14 (IntKind.wrap .i64 (2 * s5.1))) s11 (IntKind.wrap .i64 (2 * (IntKind.wrap .i64 (s5.1 - s5.2.1)))) (IntKind.wrap .i64 (2 * s5.1)) s14 s15 s16 s17 s18 s19 s20 s21 s22 s23 s24 s25 s26 s27 s28 s29 s30 z44 z45 s31 s32 s33 s34 s35 s36 s37)
     (False /- 942 -/))
    (False /- 942 -/)))
  (fun z47 z48 z49 z50 z51 z52 => c15 s5.2.2.2.2.2.2.1
   (fun z53 z54 => br (eqT (.int .i64) s5.1 s5.1)
    (br (eqT (.int .i64) (IntKind.wrap .i64 (2 * s5.1)) (IntKind.wrap .i64 (2 * s5.1)))
     (need False (s10)[14]? fun y55 =>
      k3 0 s1 s2 s3 s4 s6 z53 s9 (List.set s10 14 (IntKind.wrap .i64 (2 * s5.1))) s11 (IntKind.wrap .i64 (2 * (IntKind.wrap .i64 (s5.1 - s5.2.1)))) (IntKind.wrap .i64 (2 * s5.1)) s14 s15 s16 s17 s18 s19 s20 s21 s22 s23 s24 s25 s26 s27 s28 s29 s30 z48 z49 z50 z51 z52 s31 s32 s33 s34 s35 s36 s37)
     (False /- 942 -/))
    (False /- 942 -/))
   (fun z56 z57 z58 => br (eqT (.int .i64) s5.1 s5.1)
    (br (eqT (.int .i64) (IntKind.wrap .i64 (2 * s5.1)) (IntKind.wrap .i64 (2 * s5.1)))
     (need False (s10)[14]? fun y59 =>
      k4 0 s1 s2 s3 s4 s6 s9 (List.set s10 14 (IntKind.wrap .i64 (2 * s5.1))) s11 (IntKind.wrap .i64 (2 * (IntKind.wrap .i64 (s5.1 - s5.2.1)))) (IntKind.wrap .i64 (2 * s5.1)) s14 s15 s16 s17 s18 s19 s20 s21 s22 s23 s24 s25 s26 s27 s28 s29 s30 z48 z49 z50 z51 z52 z57 z58 s31 s32 s33 s34 s35 s36 s37)
     (False /- 942 -/))
    (False /- 942 -/)))
structure j45r10v2 (k1 : Int → (List Int) → (List Int) → (List (Int × Int × (List Int) × Int × Unit)) → (List (Int × Int × Int × (List ((List UInt8) × Int × Int × Unit)) × Unit)) → Int → Unit → Unit → Int → (List Int) → Int → Int → Int → Int → Int → Bool → (Int × Int × Int × Int × Int × Unit) → Int → Int → (List Int) → (List Int) → (List (Int × Int × (List Int) × Int × Unit)) → Int → Int → Int → Int → Int → Int → (List Int) → (List Int) → Int → Int → Int → (List Int) → Int → (List Int) → (List Int) → Prop) (k2 : Int → (List Int) → (List Int) → (List (Int × Int × (List Int) × Int × Unit)) → (List (Int × Int × Int × (List ((List UInt8) × Int × Int × Unit)) × Unit)) → Int → Unit → Int → (List Int) → Int → Int → Int → Int → Int → Bool → (Int × Int × Int × Int × Int × Unit) → Int → Int → (List Int) → (List Int) → (List (Int × Int × (List Int) × Int × Unit)) → Int → Int → Int → Int → Int → Int → (List Int) → (List Int) → Int → (List Int) → Int → Int → Int → (List Int) → Int → (List Int) → (List Int) → Prop) (k3 : Int → (List Int) → (List Int) → (List (Int × Int × (List Int) × Int × Unit)) → (List (Int × Int × Int × (List ((List UInt8) × Int × Int × Unit)) × Unit)) → Int → Unit → Int → (List Int) → Int → Int → Int → Int → Int → Bool → (Int × Int × Int × Int × Int × Unit) → Int → Int → (List Int) → (List Int) → (List (Int × Int × (List Int) × Int × Unit)) → Int → Int → Int → Int → Int → Int → (List Int) → (List Int) → Int → (Int × Int × Int × Int × Unit) → (List (List (Int × Bool × Unit))) → (Int × Int × Int × Int × Unit) → (List (List (Int × Bool × Unit))) → Int → Int → Int → (List Int) → Int → (List Int) → (List Int) → Prop) (k4 : Int → (List Int) → (List Int) → (List (Int × Int × (List Int) × Int × Unit)) → (List (Int × Int × Int × (List ((List UInt8) × Int × Int × Unit)) × Unit)) → Int → Int → (List Int) → Int → Int → Int → Int → Int → Bool → (Int × Int × Int × Int × Int × Unit) → Int → Int → (List Int) → (List Int) → (List (Int × Int × (List Int) × Int × Unit)) → Int → Int → Int → Int → Int → Int → (List Int) → (List Int) → Int → (Int × Int × Int × Int × Unit) → (List (List (Int × Bool × Unit))) → (Int × Int × Int × Int × Unit) → (List (List (Int × Bool × Unit))) → Int → (List Int) → Int → Int → Int → (List Int) → Int → (List Int) → (List Int) → Prop) (s1 : List Int) (s2 : List Int) (s3 : List (Int × Int × (List Int) × Int × Unit)) (s4 : List (Int × Int × Int × (List ((List UInt8) × Int × Int × Unit)) × Unit)) (s5 : Int × Int × Int × Int × (Int × Int × Int × Int × Unit) × (Int × Int × Int × Int × Unit) × Int × Unit) (s6 : Int) (s7 : Unit) (s8 : Unit) (s9 : Int) (s10 : List Int) (s11 : Int) (s12 : Int) (s13 : Int) (s14 : Int) (s15 : Int) (s16 : Bool) (s17 : Int × Int × Int × Int × Int × Unit) (s18 : Int) (s19 : Int) (s20 : List Int) (s21 : List Int) (s22 : List (Int × Int × (List Int) × Int × Unit)) (s23 : Int) (s24 : Int) (s25 : Int) (s26 : Int) (s27 : Int) (s28 : Int) (s29 : List Int) (s30 : List Int) (s31 : Int) (s32 : Int) (s33 : Int) (s34 : List Int) (s35 : Int) (s36 : List Int) (s37 : List Int) : Prop where
  of : tj45r10v2 k1 k2 k3 k4 s1 s2 s3 s4 s5 s6 s7 s8 s9 s10 s11 s12 s13 s14 s15 s16 s17 s18 s19 s20 s21 s22 s23 s24 s25 s26 s27 s28 s29 s30 s31 s32 s33 s34 s35 s36 s37

def tj45r8 (k1 : Int → (List Int) → (List Int) → (List (Int × Int × (List Int) × Int × Unit)) → (List (Int × Int × Int × (List ((List UInt8) × Int × Int × Unit)) × Unit)) → Int → Unit → Unit → Unit → Int → (List Int) → Int → Int → Int → Int → Int → Bool → (Int × Int × Int × Int × Int × Unit) → Int → Int → (List Int) → (List Int) → (List (Int × Int × (List Int) × Int × Unit)) → Int → Int → Int → (List Int) → Int → (List Int) → (List Int) → Prop) (k2 : Int → (List Int) → (List Int) → (List (Int × Int × (List Int) × Int × Unit)) → (List (Int × Int × Int × (List ((List UInt8) × Int × Int × Unit)) × Unit)) → Int → Unit → Unit → Int → (List Int) → Int → Int → Int → Int → Int → Bool → (Int × Int × Int × Int × Int × Unit) → Int → Int → (List Int) → (List Int) → (List (Int × Int × (List Int) × Int × Unit)) → Int → (List Int) → Int → Int → Int → (List Int) → Int → (List Int) → (List Int) → Prop) (k3 : Int → (List Int) → (List Int) → (List (Int × Int × (List Int) × Int × Unit)) → (List (Int × Int × Int × (List ((List UInt8) × Int × Int × Unit)) × Unit)) → Int → Unit → Unit → Int → (List Int) → Int → Int → Int → Int → Int → Bool → (Int × Int × Int × Int × Int × Unit) → Int → Int → (List Int) → (List Int) → (List (Int × Int × (List Int) × Int × Unit)) → Int → (Int × Int × Int × Int × Unit) → (List (List (Int × Bool × Unit))) → (Int × Int × Int × Int × Unit) → (List (List (Int × Bool × Unit))) → Int → Int → Int → (List Int) → Int → (List Int) → (List Int) → Prop) (k4 : Int → (List Int) → (List Int) → (List (Int × Int × (List Int) × Int × Unit)) → (List (Int × Int × Int × (List ((List UInt8) × Int × Int × Unit)) × Unit)) → Int → Unit → Int → (List Int) → Int → Int → Int → Int → Int → Bool → (Int × Int × Int × Int × Int × Unit) → Int → Int → (List Int) → (List Int) → (List (Int × Int × (List Int) × Int × Unit)) → Int → (Int × Int × Int × Int × Unit) → (List (List (Int × Bool × Unit))) → (Int × Int × Int × Int × Unit) → (List (List (Int × Bool × Unit))) → Int → (List Int) → Int → Int → Int → (List Int) → Int → (List Int) → (List Int) → Prop) (k5 : Int → (List Int) → (List Int) → (List (Int × Int × (List Int) × Int × Unit)) → (List (Int × Int × Int × (List ((List UInt8) × Int × Int × Unit)) × Unit)) → Int → Unit → Unit → Int → (List Int) → Int → Int → Int → Int → Int → Bool → (Int × Int × Int × Int × Int × Unit) → Int → Int → (List Int) → (List Int) → (List (Int × Int × (List Int) × Int × Unit)) → Int → Int → Int → Int → Int → Int → (List Int) → (List Int) → Int → Int → Int → (List Int) → Int → (List Int) → (List Int) → Prop) (k6 : Int → (List Int) → (List Int) → (List (Int × Int × (List Int) × Int × Unit)) → (List (Int × Int × Int × (List ((List UInt8) × Int × Int × Unit)) × Unit)) → Int → Unit → Int → (List Int) → Int → Int → Int → Int → Int → Bool → (Int × Int × Int × Int × Int × Unit) → Int → Int → (List Int) → (List Int) → (List (Int × Int × (List Int) × Int × Unit)) → Int → Int → Int → Int → Int → Int → (List Int) → (List Int) → Int → (List Int) → Int → Int → Int → (List Int) → Int → (List Int) → (List Int) → Prop) (k7 : Int → (List Int) → (List Int) → (List (Int × Int × (List Int) × Int × Unit)) → (List (Int × Int × Int × (List ((List UInt8) × Int × Int × Unit)) × Unit)) → Int → Unit → Int → (List Int) → Int → Int → Int → Int → Int → Bool → (Int × Int × Int × Int × Int × Unit) → Int → Int → (List Int) → (List Int) → (List (Int × Int × (List Int) × Int × Unit)) → Int → Int → Int → Int → Int → Int → (List Int) → (List Int) → Int → (Int × Int × Int × Int × Unit) → (List (List (Int × Bool × Unit))) → (Int × Int × Int × Int × Unit) → (List (List (Int × Bool × Unit))) → Int → Int → Int → (List Int) → Int → (List Int) → (List Int) → Prop) (k8 : Int → (List Int) → (List Int) → (List (Int × Int × (List Int) × Int × Unit)) → (List (Int × Int × Int × (List ((List UInt8) × Int × Int × Unit)) × Unit)) → Int → Int → (List Int) → Int → Int → Int → Int → Int → Bool → (Int × Int × Int × Int × Int × Unit) → Int → Int → (List Int) → (List Int) → (List (Int × Int × (List Int) × Int × Unit)) → Int → Int → Int → Int → Int → Int → (List Int) → (List Int) → Int → (Int × Int × Int × Int × Unit) → (List (List (Int × Bool × Unit))) → (Int × Int × Int × Int × Unit) → (List (List (Int × Bool × Unit))) → Int → (List Int) → Int → Int → Int → (List Int) → Int → (List Int) → (List Int) → Prop) (s1 : List Int) (s2 : List Int) (s3 : List (Int × Int × (List Int) × Int × Unit)) (s4 : List (Int × Int × Int × (List ((List UInt8) × Int × Int × Unit)) × Unit)) (s5 : Int) (s6 : Int × Int × Int × Int × (Int × Int × Int × Int × Unit) × (Int × Int × Int × Int × Unit) × Int × Unit) (s7 : Int) (s8 : Unit) (s9 : Unit) (s10 : Unit) (s11 : Int) (s12 : List Int) (s13 : Int) (s14 : Int) (s15 : Int) (s16 : Int) (s17 : Int) (s18 : Bool) (s19 : Int × Int × Int × Int × Int × Unit) (s20 : Int) (s21 : Int) (s22 : Int) (s23 : Int) (s24 : Int) (s25 : List Int) (s26 : Int) (s27 : List Int) (s28 : List Int) : Prop :=
  c114 s1
  (fun z29 => c114 s2
   (fun z30 => c115 s3
    (fun z31 z32 => c66 s6.1 s6.2.1 s6.2.2.1
     (fun z33 z34 => j45r10
      (fun z35 z36 z37 z38 z39 z40 z41 z42 z43 z44 z45 z46 z47 z48 z49 z50 z51 z52 z53 z54 z55 z56 z57 z58 z59 z60 z61 z62 z63 z64 => k1 z35 z36 z37 z38 z39 z40 z41 z42 z43 z44 z45 z46 z47 z48 z49 z50 z51 z52 z53 z54 z55 z56 z57 z58 z59 z60 z61 z62 z63 z64)
      (fun z65 z66 z67 z68 z69 z70 z71 z72 z73 z74 z75 z76 z77 z78 z79 z80 z81 z82 z83 z84 z85 z86 z87 z88 z89 z90 z91 z92 z93 z94 z95 => k2 z65 z66 z67 z68 z69 z70 z71 z72 z73 z74 z75 z76 z77 z78 z79 z80 z81 z82 z83 z84 z85 z86 z87 z88 z89 z90 z91 z92 z93 z94 z95)
      (fun z96 z97 z98 z99 z100 z101 z102 z103 z104 z105 z106 z107 z108 z109 z110 z111 z112 z113 z114 z115 z116 z117 z118 z119 z120 z121 z122 z123 z124 z125 z126 z127 z128 z129 => k3 z96 z97 z98 z99 z100 z101 z102 z103 z104 z105 z106 z107 z108 z109 z110 z111 z112 z113 z114 z115 z116 z117 z118 z119 z120 z121 z122 z123 z124 z125 z126 z127 z128 z129)
      (fun z130 z131 z132 z133 z134 z135 z136 z137 z138 z139 z140 z141 z142 z143 z144 z145 z146 z147 z148 z149 z150 z151 z152 z153 z154 z155 z156 z157 z158 z159 z160 z161 z162 z163 z164 => k4 z130 z131 z132 z133 z134 z135 z136 z137 z138 z139 z140 z141 z142 z143 z144 z145 z146 z147 z148 z149 z150 z151 z152 z153 z154 z155 z156 z157 z158 z159 z160 z161 z162 z163 z164)
      s1 s2 z31 s4 s6 s7 z33 s9 s10 s11 s12 s13 s14 s15 s16 s17 s18 s19 s20 s21 z29 z30 z32 s22 s23 s24 s25 s26 s27 s28)
     (fun z165 z166 z167 z168 z169 z170 z171 z172 => j45r10v2
      (fun z173 z174 z175 z176 z177 z178 z179 z180 z181 z182 z183 z184 z185 z186 z187 z188 z189 z190 z191 z192 z193 z194 z195 z196 z197 z198 z199 z200 z201 z202 z203 z204 z205 z206 z207 z208 z209 => k5 z173 z174 z175 z176 z177 z178 z179 z180 z181 z182 z183 z184 z185 z186 z187 z188 z189 z190 z191 z192 z193 z194 z195 z196 z197 z198 z199 z200 z201 z202 z203 z204 z205 z206 z207 z208 z209)
      (fun z210 z211 z212 z213 z214 z215 z216 z217 z218 z219 z220 z221 z222 z223 z224 z225 z226 z227 z228 z229 z230 z231 z232 z233 z234 z235 z236 z237 z238 z239 z240 z241 z242 z243 z244 z245 z246 z247 => k6 z210 z211 z212 z213 z214 z215 z216 z217 z218 z219 z220 z221 z222 z223 z224 z225 z226 z227 z228 z229 z230 z231 z232 z233 z234 z235 z236 z237 z238 z239 z240 z241 z242 z243 z244 z245 z246 z247)
      (fun z248 z249 z250 z251 z252 z253 z254 z255 z256 z257 z258 z259 z260 z261 z262 z263 z264 z265 z266 z267 z268 z269 z270 z271 z272 z273 z274 z275 z276 z277 z278 z279 z280 z281 z282 z283 z284 z285 z286 z287 z288 => k7 z248 z249 z250 z251 z252 z253 z254 z255 z256 z257 z258 z259 z260 z261 z262 z263 z264 z265 z266 z267 z268 z269 z270 z271 z272 z273 z274 z275 z276 z277 z278 z279 z280 z281 z282 z283 z284 z285 z286 z287 z288)
      (fun z289 z290 z291 z292 z293 z294 z295 z296 z297 z298 z299 z300 z301 z302 z303 z304 z305 z306 z307 z308 z309 z310 z311 z312 z313 z314 z315 z316 z317 z318 z319 z320 z321 z322 z323 z324 z325 z326 z327 z328 z329 z330 => k8 z289 z290 z291 z292 z293 z294 z295 z296 z297 z298 z299 z300 z301 z302 z303 z304 z305 z306 z307 z308 z309 z310 z311 z312 z313 z314 z315 z316 z317 z318 z319 z320 z321 z322 z323 z324 z325 z326 z327 z328 z329 z330)
      s1 s2 z31 s4 s6 s7 s9 s10 s11 s12 s13 s14 s15 s16 s17 s18 s19 s20 s21 z29 z30 z32 z166 z167 z168 z169 z170 z171 z172 [] s22 s23 s24 s25 s26 s27 s28))))
structure j45r8 (k1 : Int → (List Int) → (List Int) → (List (Int × Int × (List Int) × Int × Unit)) → (List (Int × Int × Int × (List ((List UInt8) × Int × Int × Unit)) × Unit)) → Int → Unit → Unit → Unit → Int → (List Int) → Int → Int → Int → Int → Int → Bool → (Int × Int × Int × Int × Int × Unit) → Int → Int → (List Int) → (List Int) → (List (Int × Int × (List Int) × Int × Unit)) → Int → Int → Int → (List Int) → Int → (List Int) → (List Int) → Prop) (k2 : Int → (List Int) → (List Int) → (List (Int × Int × (List Int) × Int × Unit)) → (List (Int × Int × Int × (List ((List UInt8) × Int × Int × Unit)) × Unit)) → Int → Unit → Unit → Int → (List Int) → Int → Int → Int → Int → Int → Bool → (Int × Int × Int × Int × Int × Unit) → Int → Int → (List Int) → (List Int) → (List (Int × Int × (List Int) × Int × Unit)) → Int → (List Int) → Int → Int → Int → (List Int) → Int → (List Int) → (List Int) → Prop) (k3 : Int → (List Int) → (List Int) → (List (Int × Int × (List Int) × Int × Unit)) → (List (Int × Int × Int × (List ((List UInt8) × Int × Int × Unit)) × Unit)) → Int → Unit → Unit → Int → (List Int) → Int → Int → Int → Int → Int → Bool → (Int × Int × Int × Int × Int × Unit) → Int → Int → (List Int) → (List Int) → (List (Int × Int × (List Int) × Int × Unit)) → Int → (Int × Int × Int × Int × Unit) → (List (List (Int × Bool × Unit))) → (Int × Int × Int × Int × Unit) → (List (List (Int × Bool × Unit))) → Int → Int → Int → (List Int) → Int → (List Int) → (List Int) → Prop) (k4 : Int → (List Int) → (List Int) → (List (Int × Int × (List Int) × Int × Unit)) → (List (Int × Int × Int × (List ((List UInt8) × Int × Int × Unit)) × Unit)) → Int → Unit → Int → (List Int) → Int → Int → Int → Int → Int → Bool → (Int × Int × Int × Int × Int × Unit) → Int → Int → (List Int) → (List Int) → (List (Int × Int × (List Int) × Int × Unit)) → Int → (Int × Int × Int × Int × Unit) → (List (List (Int × Bool × Unit))) → (Int × Int × Int × Int × Unit) → (List (List (Int × Bool × Unit))) → Int → (List Int) → Int → Int → Int → (List Int) → Int → (List Int) → (List Int) → Prop) (k5 : Int → (List Int) → (List Int) → (List (Int × Int × (List Int) × Int × Unit)) → (List (Int × Int × Int × (List ((List UInt8) × Int × Int × Unit)) × Unit)) → Int → Unit → Unit → Int → (List Int) → Int → Int → Int → Int → Int → Bool → (Int × Int × Int × Int × Int × Unit) → Int → Int → (List Int) → (List Int) → (List (Int × Int × (List Int) × Int × Unit)) → Int → Int → Int → Int → Int → Int → (List Int) → (List Int) → Int → Int → Int → (List Int) → Int → (List Int) → (List Int) → Prop) (k6 : Int → (List Int) → (List Int) → (List (Int × Int × (List Int) × Int × Unit)) → (List (Int × Int × Int × (List ((List UInt8) × Int × Int × Unit)) × Unit)) → Int → Unit → Int → (List Int) → Int → Int → Int → Int → Int → Bool → (Int × Int × Int × Int × Int × Unit) → Int → Int → (List Int) → (List Int) → (List (Int × Int × (List Int) × Int × Unit)) → Int → Int → Int → Int → Int → Int → (List Int) → (List Int) → Int → (List Int) → Int → Int → Int → (List Int) → Int → (List Int) → (List Int) → Prop) (k7 : Int → (List Int) → (List Int) → (List (Int × Int × (List Int) × Int × Unit)) → (List (Int × Int × Int × (List ((List UInt8) × Int × Int × Unit)) × Unit)) → Int → Unit → Int → (List Int) → Int → Int → Int → Int → Int → Bool → (Int × Int × Int × Int × Int × Unit) → Int → Int → (List Int) → (List Int) → (List (Int × Int × (List Int) × Int × Unit)) → Int → Int → Int → Int → Int → Int → (List Int) → (List Int) → Int → (Int × Int × Int × Int × Unit) → (List (List (Int × Bool × Unit))) → (Int × Int × Int × Int × Unit) → (List (List (Int × Bool × Unit))) → Int → Int → Int → (List Int) → Int → (List Int) → (List Int) → Prop) (k8 : Int → (List Int) → (List Int) → (List (Int × Int × (List Int) × Int × Unit)) → (List (Int × Int × Int × (List ((List UInt8) × Int × Int × Unit)) × Unit)) → Int → Int → (List Int) → Int → Int → Int → Int → Int → Bool → (Int × Int × Int × Int × Int × Unit) → Int → Int → (List Int) → (List Int) → (List (Int × Int × (List Int) × Int × Unit)) → Int → Int → Int → Int → Int → Int → (List Int) → (List Int) → Int → (Int × Int × Int × Int × Unit) → (List (List (Int × Bool × Unit))) → (Int × Int × Int × Int × Unit) → (List (List (Int × Bool × Unit))) → Int → (List Int) → Int → Int → Int → (List Int) → Int → (List Int) → (List Int) → Prop) (s1 : List Int) (s2 : List Int) (s3 : List (Int × Int × (List Int) × Int × Unit)) (s4 : List (Int × Int × Int × (List ((List UInt8) × Int × Int × Unit)) × Unit)) (s5 : Int) (s6 : Int × Int × Int × Int × (Int × Int × Int × Int × Unit) × (Int × Int × Int × Int × Unit) × Int × Unit) (s7 : Int) (s8 : Unit) (s9 : Unit) (s10 : Unit) (s11 : Int) (s12 : List Int) (s13 : Int) (s14 : Int) (s15 : Int) (s16 : Int) (s17 : Int) (s18 : Bool) (s19 : Int × Int × Int × Int × Int × Unit) (s20 : Int) (s21 : Int) (s22 : Int) (s23 : Int) (s24 : Int) (s25 : List Int) (s26 : Int) (s27 : List Int) (s28 : List Int) : Prop where
  of : tj45r8 k1 k2 k3 k4 k5 k6 k7 k8 s1 s2 s3 s4 s5 s6 s7 s8 s9 s10 s11 s12 s13 s14 s15 s16 s17 s18 s19 s20 s21 s22 s23 s24 s25 s26 s27 s28

def tc45 (x1 : Int) (x2 : Int × Int × Int × Int × (Int × Int × Int × Int × Unit) × (Int × Int × Int × Int × Unit) × Int × Unit) (x3 : List Int) (x4 : List Int) (x5 : List (Int × Int × (List Int) × Int × Unit)) (x6 : List (Int × Int × Int × (List ((List UInt8) × Int × Int × Unit)) × Unit)) (k1 : Unit → Int → (List Int) → (List Int) → (List (Int × Int × (List Int) × Int × Unit)) → (List (Int × Int × Int × (List ((List UInt8) × Int × Int × Unit)) × Unit)) → Prop) (k2 : Int → (List Int) → (List Int) → (List (Int × Int × (List Int) × Int × Unit)) → (List (Int × Int × Int × (List ((List UInt8) × Int × Int × Unit)) × Unit)) → Int → Unit → Unit → Unit → Int → (List Int) → Int → Int → Int → Int → Int → Bool → (Int × Int × Int × Int × Int × Unit) → Int → Int → (List Int) → (List Int) → (List (Int × Int × (List Int) × Int × Unit)) → Int → Int → Int → (List Int) → Int → (List Int) → (List Int) → Prop) (k3 : Int → (List Int) → (List Int) → (List (Int × Int × (List Int) × Int × Unit)) → (List (Int × Int × Int × (List ((List UInt8) × Int × Int × Unit)) × Unit)) → Int → Unit → Unit → Int → (List Int) → Int → Int → Int → Int → Int → Bool → (Int × Int × Int × Int × Int × Unit) → Int → Int → (List Int) → (List Int) → (List (Int × Int × (List Int) × Int × Unit)) → Int → (List Int) → Int → Int → Int → (List Int) → Int → (List Int) → (List Int) → Prop) (k4 : Int → (List Int) → (List Int) → (List (Int × Int × (List Int) × Int × Unit)) → (List (Int × Int × Int × (List ((List UInt8) × Int × Int × Unit)) × Unit)) → Int → Unit → Unit → Int → (List Int) → Int → Int → Int → Int → Int → Bool → (Int × Int × Int × Int × Int × Unit) → Int → Int → (List Int) → (List Int) → (List (Int × Int × (List Int) × Int × Unit)) → Int → (Int × Int × Int × Int × Unit) → (List (List (Int × Bool × Unit))) → (Int × Int × Int × Int × Unit) → (List (List (Int × Bool × Unit))) → Int → Int → Int → (List Int) → Int → (List Int) → (List Int) → Prop) (k5 : Int → (List Int) → (List Int) → (List (Int × Int × (List Int) × Int × Unit)) → (List (Int × Int × Int × (List ((List UInt8) × Int × Int × Unit)) × Unit)) → Int → Unit → Int → (List Int) → Int → Int → Int → Int → Int → Bool → (Int × Int × Int × Int × Int × Unit) → Int → Int → (List Int) → (List Int) → (List (Int × Int × (List Int) × Int × Unit)) → Int → (Int × Int × Int × Int × Unit) → (List (List (Int × Bool × Unit))) → (Int × Int × Int × Int × Unit) → (List (List (Int × Bool × Unit))) → Int → (List Int) → Int → Int → Int → (List Int) → Int → (List Int) → (List Int) → Prop) (k6 : Int → (List Int) → (List Int) → (List (Int × Int × (List Int) × Int × Unit)) → (List (Int × Int × Int × (List ((List UInt8) × Int × Int × Unit)) × Unit)) → Int → Unit → Unit → Int → (List Int) → Int → Int → Int → Int → Int → Bool → (Int × Int × Int × Int × Int × Unit) → Int → Int → (List Int) → (List Int) → (List (Int × Int × (List Int) × Int × Unit)) → Int → Int → Int → Int → Int → Int → (List Int) → (List Int) → Int → Int → Int → (List Int) → Int → (List Int) → (List Int) → Prop) (k7 : Int → (List Int) → (List Int) → (List (Int × Int × (List Int) × Int × Unit)) → (List (Int × Int × Int × (List ((List UInt8) × Int × Int × Unit)) × Unit)) → Int → Unit → Int → (List Int) → Int → Int → Int → Int → Int → Bool → (Int × Int × Int × Int × Int × Unit) → Int → Int → (List Int) → (List Int) → (List (Int × Int × (List Int) × Int × Unit)) → Int → Int → Int → Int → Int → Int → (List Int) → (List Int) → Int → (List Int) → Int → Int → Int → (List Int) → Int → (List Int) → (List Int) → Prop) (k8 : Int → (List Int) → (List Int) → (List (Int × Int × (List Int) × Int × Unit)) → (List (Int × Int × Int × (List ((List UInt8) × Int × Int × Unit)) × Unit)) → Int → Unit → Int → (List Int) → Int → Int → Int → Int → Int → Bool → (Int × Int × Int × Int × Int × Unit) → Int → Int → (List Int) → (List Int) → (List (Int × Int × (List Int) × Int × Unit)) → Int → Int → Int → Int → Int → Int → (List Int) → (List Int) → Int → (Int × Int × Int × Int × Unit) → (List (List (Int × Bool × Unit))) → (Int × Int × Int × Int × Unit) → (List (List (Int × Bool × Unit))) → Int → Int → Int → (List Int) → Int → (List Int) → (List Int) → Prop) (k9 : Int → (List Int) → (List Int) → (List (Int × Int × (List Int) × Int × Unit)) → (List (Int × Int × Int × (List ((List UInt8) × Int × Int × Unit)) × Unit)) → Int → Int → (List Int) → Int → Int → Int → Int → Int → Bool → (Int × Int × Int × Int × Int × Unit) → Int → Int → (List Int) → (List Int) → (List (Int × Int × (List Int) × Int × Unit)) → Int → Int → Int → Int → Int → Int → (List Int) → (List Int) → Int → (Int × Int × Int × Int × Unit) → (List (List (Int × Bool × Unit))) → (Int × Int × Int × Int × Unit) → (List (List (Int × Bool × Unit))) → Int → (List Int) → Int → Int → Int → (List Int) → Int → (List Int) → (List Int) → Prop) : Prop :=
  c112 (x3, x1, x4, x5, x6, ())
  (fun z7 => br ((z7 : Int) != 0)
   (k1 () z7 x3 x4 x5 x6)
   (c42 x2
    (fun z8 => br ((z8 : Int) != 0)
     (k1 () z8 x3 x4 x5 x6)
     (c113 
      (fun z9 z10 z11 z12 z13 => br (true && ((eqT (.int .i64) x1 x1) && (true && (true && true))))
       (br (eqT (.int .i64) x2.2.2.2.1 x2.2.2.2.1)
        (br (eqT (.int .i64) x1 x1)
         (j45r8
          (fun z14 z15 z16 z17 z18 z19 z20 z21 z22 z23 z24 z25 z26 z27 z28 z29 z30 z31 z32 z33 z34 z35 z36 z37 z38 z39 z40 z41 z42 z43 => k2 z14 z15 z16 z17 z18 z19 z20 z21 z22 z23 z24 z25 z26 z27 z28 z29 z30 z31 z32 z33 z34 z35 z36 z37 z38 z39 z40 z41 z42 z43)
          (fun z44 z45 z46 z47 z48 z49 z50 z51 z52 z53 z54 z55 z56 z57 z58 z59 z60 z61 z62 z63 z64 z65 z66 z67 z68 z69 z70 z71 z72 z73 z74 => k3 z44 z45 z46 z47 z48 z49 z50 z51 z52 z53 z54 z55 z56 z57 z58 z59 z60 z61 z62 z63 z64 z65 z66 z67 z68 z69 z70 z71 z72 z73 z74)
          (fun z75 z76 z77 z78 z79 z80 z81 z82 z83 z84 z85 z86 z87 z88 z89 z90 z91 z92 z93 z94 z95 z96 z97 z98 z99 z100 z101 z102 z103 z104 z105 z106 z107 z108 => k4 z75 z76 z77 z78 z79 z80 z81 z82 z83 z84 z85 z86 z87 z88 z89 z90 z91 z92 z93 z94 z95 z96 z97 z98 z99 z100 z101 z102 z103 z104 z105 z106 z107 z108)
          (fun z109 z110 z111 z112 z113 z114 z115 z116 z117 z118 z119 z120 z121 z122 z123 z124 z125 z126 z127 z128 z129 z130 z131 z132 z133 z134 z135 z136 z137 z138 z139 z140 z141 z142 z143 => k5 z109 z110 z111 z112 z113 z114 z115 z116 z117 z118 z119 z120 z121 z122 z123 z124 z125 z126 z127 z128 z129 z130 z131 z132 z133 z134 z135 z136 z137 z138 z139 z140 z141 z142 z143)
          (fun z144 z145 z146 z147 z148 z149 z150 z151 z152 z153 z154 z155 z156 z157 z158 z159 z160 z161 z162 z163 z164 z165 z166 z167 z168 z169 z170 z171 z172 z173 z174 z175 z176 z177 z178 z179 z180 => k6 z144 z145 z146 z147 z148 z149 z150 z151 z152 z153 z154 z155 z156 z157 z158 z159 z160 z161 z162 z163 z164 z165 z166 z167 z168 z169 z170 z171 z172 z173 z174 z175 z176 z177 z178 z179 z180)
          (fun z181 z182 z183 z184 z185 z186 z187 z188 z189 z190 z191 z192 z193 z194 z195 z196 z197 z198 z199 z200 z201 z202 z203 z204 z205 z206 z207 z208 z209 z210 z211 z212 z213 z214 z215 z216 z217 z218 => k7 z181 z182 z183 z184 z185 z186 z187 z188 z189 z190 z191 z192 z193 z194 z195 z196 z197 z198 z199 z200 z201 z202 z203 z204 z205 z206 z207 z208 z209 z210 z211 z212 z213 z214 z215 z216 z217 z218)
          (fun z219 z220 z221 z222 z223 z224 z225 z226 z227 z228 z229 z230 z231 z232 z233 z234 z235 z236 z237 z238 z239 z240 z241 z242 z243 z244 z245 z246 z247 z248 z249 z250 z251 z252 z253 z254 z255 z256 z257 z258 z259 => k8 z219 z220 z221 z222 z223 z224 z225 z226 z227 z228 z229 z230 z231 z232 z233 z234 z235 z236 z237 z238 z239 z240 z241 z242 z243 z244 z245 z246 z247 z248 z249 z250 z251 z252 z253 z254 z255 z256 z257 z258 z259)
          (fun z260 z261 z262 z263 z264 z265 z266 z267 z268 z269 z270 z271 z272 z273 z274 z275 z276 z277 z278 z279 z280 z281 z282 z283 z284 z285 z286 z287 z288 z289 z290 z291 z292 z293 z294 z295 z296 z297 z298 z299 z300 z301 => k9 z260 z261 z262 z263 z264 z265 z266 z267 z268 z269 z270 z271 z272 z273 z274 z275 z276 z277 z278 z279 z280 z281 z282 z283 z284 z285 z286 z287 z288 z289 z290 z291 z292 z293 z294 z295 z296 z297 z298 z299 z300 z301)
          x3 x4 x5 x6 x1 x2 x1 () () () x2.2.2.2.1 [0, 0, 0, 0, 0, 0, 0, 0, 0, 0, 0, 0, 0, 0, 0, 0] x1 0 0 0 0 false (0, 0, 0, 0, 0, ()) 0 0 z9 z10 z11 z12 z13 [] [])
         (False /- 942 -/))
        (False /- 942 -/))
       (False /- 942 -/))))))
structure c45 (x1 : Int) (x2 : Int × Int × Int × Int × (Int × Int × Int × Int × Unit) × (Int × Int × Int × Int × Unit) × Int × Unit) (x3 : List Int) (x4 : List Int) (x5 : List (Int × Int × (List Int) × Int × Unit)) (x6 : List (Int × Int × Int × (List ((List UInt8) × Int × Int × Unit)) × Unit)) (k1 : Unit → Int → (List Int) → (List Int) → (List (Int × Int × (List Int) × Int × Unit)) → (List (Int × Int × Int × (List ((List UInt8) × Int × Int × Unit)) × Unit)) → Prop) (k2 : Int → (List Int) → (List Int) → (List (Int × Int × (List Int) × Int × Unit)) → (List (Int × Int × Int × (List ((List UInt8) × Int × Int × Unit)) × Unit)) → Int → Unit → Unit → Unit → Int → (List Int) → Int → Int → Int → Int → Int → Bool → (Int × Int × Int × Int × Int × Unit) → Int → Int → (List Int) → (List Int) → (List (Int × Int × (List Int) × Int × Unit)) → Int → Int → Int → (List Int) → Int → (List Int) → (List Int) → Prop) (k3 : Int → (List Int) → (List Int) → (List (Int × Int × (List Int) × Int × Unit)) → (List (Int × Int × Int × (List ((List UInt8) × Int × Int × Unit)) × Unit)) → Int → Unit → Unit → Int → (List Int) → Int → Int → Int → Int → Int → Bool → (Int × Int × Int × Int × Int × Unit) → Int → Int → (List Int) → (List Int) → (List (Int × Int × (List Int) × Int × Unit)) → Int → (List Int) → Int → Int → Int → (List Int) → Int → (List Int) → (List Int) → Prop) (k4 : Int → (List Int) → (List Int) → (List (Int × Int × (List Int) × Int × Unit)) → (List (Int × Int × Int × (List ((List UInt8) × Int × Int × Unit)) × Unit)) → Int → Unit → Unit → Int → (List Int) → Int → Int → Int → Int → Int → Bool → (Int × Int × Int × Int × Int × Unit) → Int → Int → (List Int) → (List Int) → (List (Int × Int × (List Int) × Int × Unit)) → Int → (Int × Int × Int × Int × Unit) → (List (List (Int × Bool × Unit))) → (Int × Int × Int × Int × Unit) → (List (List (Int × Bool × Unit))) → Int → Int → Int → (List Int) → Int → (List Int) → (List Int) → Prop) (k5 : Int → (List Int) → (List Int) → (List (Int × Int × (List Int) × Int × Unit)) → (List (Int × Int × Int × (List ((List UInt8) × Int × Int × Unit)) × Unit)) → Int → Unit → Int → (List Int) → Int → Int → Int → Int → Int → Bool → (Int × Int × Int × Int × Int × Unit) → Int → Int → (List Int) → (List Int) → (List (Int × Int × (List Int) × Int × Unit)) → Int → (Int × Int × Int × Int × Unit) → (List (List (Int × Bool × Unit))) → (Int × Int × Int × Int × Unit) → (List (List (Int × Bool × Unit))) → Int → (List Int) → Int → Int → Int → (List Int) → Int → (List Int) → (List Int) → Prop) (k6 : Int → (List Int) → (List Int) → (List (Int × Int × (List Int) × Int × Unit)) → (List (Int × Int × Int × (List ((List UInt8) × Int × Int × Unit)) × Unit)) → Int → Unit → Unit → Int → (List Int) → Int → Int → Int → Int → Int → Bool → (Int × Int × Int × Int × Int × Unit) → Int → Int → (List Int) → (List Int) → (List (Int × Int × (List Int) × Int × Unit)) → Int → Int → Int → Int → Int → Int → (List Int) → (List Int) → Int → Int → Int → (List Int) → Int → (List Int) → (List Int) → Prop) (k7 : Int → (List Int) → (List Int) → (List (Int × Int × (List Int) × Int × Unit)) → (List (Int × Int × Int × (List ((List UInt8) × Int × Int × Unit)) × Unit)) → Int → Unit → Int → (List Int) → Int → Int → Int → Int → Int → Bool → (Int × Int × Int × Int × Int × Unit) → Int → Int → (List Int) → (List Int) → (List (Int × Int × (List Int) × Int × Unit)) → Int → Int → Int → Int → Int → Int → (List Int) → (List Int) → Int → (List Int) → Int → Int → Int → (List Int) → Int → (List Int) → (List Int) → Prop) (k8 : Int → (List Int) → (List Int) → (List (Int × Int × (List Int) × Int × Unit)) → (List (Int × Int × Int × (List ((List UInt8) × Int × Int × Unit)) × Unit)) → Int → Unit → Int → (List Int) → Int → Int → Int → Int → Int → Bool → (Int × Int × Int × Int × Int × Unit) → Int → Int → (List Int) → (List Int) → (List (Int × Int × (List Int) × Int × Unit)) → Int → Int → Int → Int → Int → Int → (List Int) → (List Int) → Int → (Int × Int × Int × Int × Unit) → (List (List (Int × Bool × Unit))) → (Int × Int × Int × Int × Unit) → (List (List (Int × Bool × Unit))) → Int → Int → Int → (List Int) → Int → (List Int) → (List Int) → Prop) (k9 : Int → (List Int) → (List Int) → (List (Int × Int × (List Int) × Int × Unit)) → (List (Int × Int × Int × (List ((List UInt8) × Int × Int × Unit)) × Unit)) → Int → Int → (List Int) → Int → Int → Int → Int → Int → Bool → (Int × Int × Int × Int × Int × Unit) → Int → Int → (List Int) → (List Int) → (List (Int × Int × (List Int) × Int × Unit)) → Int → Int → Int → Int → Int → Int → (List Int) → (List Int) → Int → (Int × Int × Int × Int × Unit) → (List (List (Int × Bool × Unit))) → (Int × Int × Int × Int × Unit) → (List (List (Int × Bool × Unit))) → Int → (List Int) → Int → Int → Int → (List Int) → Int → (List Int) → (List Int) → Prop) : Prop where
  of : tc45 x1 x2 x3 x4 x5 x6 k1 k2 k3 k4 k5 k6 k7 k8 k9

def tj8r17 (k1 : Bool → Prop) (s1 : Int) (s2 : Int × Int × Int × Int × (Int × Int × Int × Int × Unit) × (Int × Int × Int × Int × Unit) × Int × Unit) (s3 : Int) (s4 : List Int) (s5 : List Int) (s6 : List (Int × Int × (List Int) × Int × Unit)) (s7 : List (Int × Int × Int × (List ((List UInt8) × Int × Int × Unit)) × Unit)) : Prop :=
  c45 s3 s2 s4 s5 s6 s7
  (fun z8 z9 z10 z11 z12 z13 => c42 s2
   (fun z14 => br ((z14 : Int) == s1)
    (br ((z9 : Int) == s1)
     (k1 ((false : Bool) == ((s1 : Int) == 0)))
     (k1 false))
    (k1 false)))
  (fun z15 z16 z17 z18 z19 z20 z21 z22 z23 z24 z25 z26 z27 z28 z29 z30 z31 z32 z33 z34 z35 z36 z37 z38 z39 z40 z41 z42 z43 z44 => c42 s2
   (fun z45 => br ((z45 : Int) == s1)
    (br ((z15 : Int) == s1)
     (k1 ((true : Bool) == ((s1 : Int) == 0)))
     (k1 false))
    (k1 false)))
  (fun z46 z47 z48 z49 z50 z51 z52 z53 z54 z55 z56 z57 z58 z59 z60 z61 z62 z63 z64 z65 z66 z67 z68 z69 z70 z71 z72 z73 z74 z75 z76 => c42 s2
   (fun z77 => br ((z77 : Int) == s1)
    (br ((z46 : Int) == s1)
     (k1 ((true : Bool) == ((s1 : Int) == 0)))
     (k1 false))
    (k1 false)))
  (fun z78 z79 z80 z81 z82 z83 z84 z85 z86 z87 z88 z89 z90 z91 z92 z93 z94 z95 z96 z97 z98 z99 z100 z101 z102 z103 z104 z105 z106 z107 z108 z109 z110 z111 => c42 s2
   (fun z112 => br ((z112 : Int) == s1)
    (br ((z78 : Int) == s1)
     (k1 ((true : Bool) == ((s1 : Int) == 0)))
     (k1 false))
    (k1 false)))
  (fun z113 z114 z115 z116 z117 z118 z119 z120 z121 z122 z123 z124 z125 z126 z127 z128 z129 z130 z131 z132 z133 z134 z135 z136 z137 z138 z139 z140 z141 z142 z143 z144 z145 z146 z147 => c42 s2
   (fun z148 => br ((z148 : Int) == s1)
    (br ((z113 : Int) == s1)
     (k1 ((true : Bool) == ((s1 : Int) == 0)))
     (k1 false))
    (k1 false)))
  (fun z149 z150 z151 z152 z153 z154 z155 z156 z157 z158 z159 z160 z161 z162 z163 z164 z165 z166 z167 z168 z169 z170 z171 z172 z173 z174 z175 z176 z177 z178 z179 z180 z181 z182 z183 z184 z185 => c42 s2
   (fun z186 => br ((z186 : Int) == s1)
    (br ((z149 : Int) == s1)
     (k1 ((true : Bool) == ((s1 : Int) == 0)))
     (k1 false))
    (k1 false)))
  (fun z187 z188 z189 z190 z191 z192 z193 z194 z195 z196 z197 z198 z199 z200 z201 z202 z203 z204 z205 z206 z207 z208 z209 z210 z211 z212 z213 z214 z215 z216 z217 z218 z219 z220 z221 z222 z223 z224 => c42 s2
   (fun z225 => br ((z225 : Int) == s1)
    (br ((z187 : Int) == s1)
     (k1 ((true : Bool) == ((s1 : Int) == 0)))
     (k1 false))
    (k1 false)))
  (fun z226 z227 z228 z229 z230 z231 z232 z233 z234 z235 z236 z237 z238 z239 z240 z241 z242 z243 z244 z245 z246 z247 z248 z249 z250 z251 z252 z253 z254 z255 z256 z257 z258 z259 z260 z261 z262 z263 z264 z265 z266 => c42 s2
   (fun z267 => br ((z267 : Int) == s1)
    (br ((z226 : Int) == s1)
     (k1 ((true : Bool) == ((s1 : Int) == 0)))
     (k1 false))
    (k1 false)))
  (fun z268 z269 z270 z271 z272 z273 z274 z275 z276 z277 z278 z279 z280 z281 z282 z283 z284 z285 z286 z287 z288 z289 z290 z291 z292 z293 z294 z295 z296 z297 z298 z299 z300 z301 z302 z303 z304 z305 z306 z307 z308 z309 => c42 s2
   (fun z310 => br ((z310 : Int) == s1)
    (br ((z268 : Int) == s1)
     (k1 ((true : Bool) == ((s1 : Int) == 0)))
     (k1 false))
    (k1 false)))
structure j8r17 (k1 : Bool → Prop) (s1 : Int) (s2 : Int × Int × Int × Int × (Int × Int × Int × Int × Unit) × (Int × Int × Int × Int × Unit) × Int × Unit) (s3 : Int) (s4 : List Int) (s5 : List Int) (s6 : List (Int × Int × (List Int) × Int × Unit)) (s7 : List (Int × Int × Int × (List ((List UInt8) × Int × Int × Unit)) × Unit)) : Prop where
  of : tj8r17 k1 s1 s2 s3 s4 s5 s6 s7

def tc44 (x1 : Int × Int × Int × Int × Unit) (k1 : Int → Prop) : Prop :=
  br (decide ((x1.1 : Int) < 1))
  (k1 4)
  (br (decide ((x1.1 : Int) > 64))
   (k1 4)
   (br (decide ((x1.2.1 : Int) < 1))
    (k1 4)
    (br (decide ((x1.2.1 : Int) > 256))
     (k1 4)
     (br (decide ((x1.2.2.1 : Int) < 1))
      (k1 4)
      (br (decide ((x1.2.2.1 : Int) > 8))
       (k1 4)
       (br (decide ((x1.2.2.2.1 : Int) < 0))
        (k1 4)
        (br (decide ((x1.2.2.2.1 : Int) > 1000))
         (k1 4)
         (k1 0))))))))
structure c44 (x1 : Int × Int × Int × Int × Unit) (k1 : Int → Prop) : Prop where
  of : tc44 x1 k1

def tc8 (x1 : Int × Int × Int × Int × (Int × Int × Int × Int × Unit) × (Int × Int × Int × Int × Unit) × Int × Unit) (k1 : Bool → Prop) : Prop :=
  c43 128
  (fun z2 => c42 z2
   (fun z3 => br ((z3 : Int) != 0)
    (k1 false)
    (br (decide ((x1.2.2.2.1 : Int) < 0))
     (j8r17
      (fun z4 => k1 z4)
      4 x1 0 [0] [] [] [])
     (br (decide ((x1.1 : Int) < 32))
      (j8r17
       (fun z5 => k1 z5)
       4 x1 0 [0] [] [] [])
      (br (decide ((x1.1 : Int) > 65536))
       (j8r17
        (fun z6 => k1 z6)
        4 x1 0 [0] [] [] [])
       (br (decide ((x1.2.1 : Int) < 4))
        (j8r17
         (fun z7 => k1 z7)
         4 x1 0 [0] [] [] [])
        (br (decide ((x1.2.1 : Int) > (IntKind.wrap .i64 (Int.tdiv x1.1 2))))
         (j8r17
          (fun z8 => k1 z8)
          4 x1 0 [0] [] [] [])
         (br (decide ((x1.2.2.1 : Int) < 4))
          (j8r17
           (fun z9 => k1 z9)
           4 x1 0 [0] [] [] [])
          (br (decide ((x1.2.2.1 : Int) > (IntKind.wrap .i64 (Int.tdiv (IntKind.wrap .i64 (x1.1 - x1.2.1)) 2))))
           (j8r17
            (fun z10 => k1 z10)
            4 x1 0 [0] [] [] [])
           (c44 x1.2.2.2.2.1
            (fun z11 => br ((z11 : Int) != 0)
             (j8r17
              (fun z12 => k1 z12)
              4 x1 0 [0] [] [] [])
             (c44 x1.2.2.2.2.2.1
              (fun z13 => br ((z13 : Int) != 0)
               (j8r17
                (fun z14 => k1 z14)
                4 x1 0 [0] [] [] [])
               (br (decide ((x1.2.2.2.2.2.2.1 : Int) < 1))
                (j8r17
                 (fun z15 => k1 z15)
                 4 x1 0 [0] [] [] [])
                (br (decide ((x1.2.2.2.2.2.2.1 : Int) > 1024))
                 (j8r17
                  (fun z16 => k1 z16)
                  4 x1 0 [0] [] [] [])
                 (j8r17
                  (fun z17 => k1 z17)
                  0 x1 0 [0] [] [] []))))))))))))))))
structure c8 (x1 : Int × Int × Int × Int × (Int × Int × Int × Int × Unit) × (Int × Int × Int × Int × Unit) × Int × Unit) (k1 : Bool → Prop) : Prop where
  of : tc8 x1 k1

end Go.Proofs.Ytfdoaacapkopmaa
