/- What the functions compute, as plain Lean (printed by a program). -/
import Derived.Test.YtfdoaacapkopmaaATypT
namespace Go.Proofs.Ytfdoaacapkopmaa
open Go.Abs
set_option linter.unusedVariables false
def tl15r5 (k1 : Int → (List Int) → Prop) (s1 : Int) (s2 : Int) (s3 : Int) (s4 : List Int) : Prop :=
  ∀ (I1 : Int → Int → Int → (List Int) → Prop),
    (∀ (s1 : Int) (s2 : Int) (s3 : Int) (s4 : List Int), (br (decide ((s2 : Int) < s1))
    (br (decide ((0 : Int) ≤ s2 ∧ (s2 : Int) < (((List.length s4) : Nat) : Int)))
     (need False (s4)[(Int.toNat s2)]? fun y5 =>
      I1 s1 (IntKind.wrap .i64 (s2 + 1)) s3 (List.set s4 (Int.toNat s2) 1))
     (False /- 39 -/))
    (k1 s3 s4)) → I1 s1 s2 s3 s4) →
    I1 s1 s2 s3 s4
structure l15r5 (k1 : Int → (List Int) → Prop) (s1 : Int) (s2 : Int) (s3 : Int) (s4 : List Int) : Prop where
  of : tl15r5 k1 s1 s2 s3 s4

def tc15 (x1 : Int) (k1 : Unit → Int → Prop) (k2 : Int → Int → (List Int) → Prop) : Prop :=
  br (decide ((x1 : Int) < 1))
  (k1 () 4)
  (br (decide ((x1 : Int) > 1024))
   (k1 () 4)
   (br (decide ((0 : Int) ≤ x1 ∧ (x1 : Int) ≤ x1 ∧ ((x1 * 8) : Int) ≤ 140737488355328))
    (l15r5
     (fun z2 z3 => k2 0 z2 z3)
     (((List.length (List.replicate (Int.toNat x1) (0 : Int))) : Nat) : Int) 0 0 (List.replicate (Int.toNat x1) (0 : Int)))
    (False /- 111 -/)))
structure c15 (x1 : Int) (k1 : Unit → Int → Prop) (k2 : Int → Int → (List Int) → Prop) : Prop where
  of : tc15 x1 k1 k2

def tj3r2 (k1 : Bool → Prop) (s1 : Int) (s2 : List Int) (s3 : List Bool) (s4 : Unit) (s5 : Int) : Prop :=
  c15 1
  (fun z6 z7 => br ((z7 : Int) != 0)
   (k1 false)
   (k1 false))
  (fun z8 z9 z10 => br ((z8 : Int) != 0)
   (k1 false)
   (br (decide ((s1 : Int) < 1))
    (br ((s5 : Int) == 4)
     (k1 true)
     (k1 false))
    (br (decide ((s1 : Int) > 1024))
     (br ((s5 : Int) == 4)
      (k1 true)
      (k1 false))
     (br ((s5 : Int) != 0)
      (k1 false)
      (k1 false)))))
structure j3r2 (k1 : Bool → Prop) (s1 : Int) (s2 : List Int) (s3 : List Bool) (s4 : Unit) (s5 : Int) : Prop where
  of : tj3r2 k1 s1 s2 s3 s4 s5

def tc16 (x1 : Int) (x2 : Int) (x3 : List Int) (k1 : Bool → Int → Int → (List Int) → Prop) : Prop :=
  br (decide ((x1 : Int) < 0))
  (k1 false 4 x2 x3)
  (br (decide ((x1 : Int) ≥ 16384))
   (k1 false 4 x2 x3)
   (br (((((List.length x3) : Nat) : Int) : Int) == 0)
    (False /- 16 -/)
    (br (decide ((0 : Int) ≤ (Int.tmod x1 (((List.length x3) : Nat) : Int)) ∧ ((Int.tmod x1 (((List.length x3) : Nat) : Int)) : Int) < (((List.length x3) : Nat) : Int)))
     (need False (x3)[(Int.toNat (Int.tmod x1 (((List.length x3) : Nat) : Int)))]? fun y4 =>
      k1 (decide ((y4 : Int) ≥ 2)) 0 x2 x3)
     (False /- 39 -/))))
structure c16 (x1 : Int) (x2 : Int) (x3 : List Int) (k1 : Bool → Int → Int → (List Int) → Prop) : Prop where
  of : tc16 x1 x2 x3 k1

def tc17 (x1 : Int) (x2 : Bool) (x3 : Int) (x4 : List Int) (k1 : Bool → Int → Int → (List Int) → Prop) : Prop :=
  c16 x1 x3 x4
  (fun z5 z6 z7 z8 => br ((z6 : Int) != 0)
   (k1 false z6 z7 z8)
   (br (((((List.length z8) : Nat) : Int) : Int) == 0)
    (False /- 16 -/)
    (br (decide ((0 : Int) ≤ (Int.tmod x1 (((List.length z8) : Nat) : Int)) ∧ ((Int.tmod x1 (((List.length z8) : Nat) : Int)) : Int) < (((List.length z8) : Nat) : Int)))
     (br (x2)
      (need False (z8)[(Int.toNat (Int.tmod x1 (((List.length z8) : Nat) : Int)))]? fun y9 =>
       need False (z8)[(Int.toNat (Int.tmod x1 (((List.length z8) : Nat) : Int)))]? fun y10 =>
        br (!((z5 : Bool) == x2))
         (k1 (!((z5 : Bool) == x2)) 0 (IntKind.wrap .i64 (z7 + 1)) (List.set z8 (Int.toNat (Int.tmod x1 (((List.length z8) : Nat) : Int))) (minI (IntKind.wrap .i64 (y9 + 1)) 3)))
         (k1 (!((z5 : Bool) == x2)) 0 z7 (List.set z8 (Int.toNat (Int.tmod x1 (((List.length z8) : Nat) : Int))) (minI (IntKind.wrap .i64 (y9 + 1)) 3))))
      (need False (z8)[(Int.toNat (Int.tmod x1 (((List.length z8) : Nat) : Int)))]? fun y11 =>
       need False (z8)[(Int.toNat (Int.tmod x1 (((List.length z8) : Nat) : Int)))]? fun y12 =>
        br (!((z5 : Bool) == x2))
         (k1 (!((z5 : Bool) == x2)) 0 (IntKind.wrap .i64 (z7 + 1)) (List.set z8 (Int.toNat (Int.tmod x1 (((List.length z8) : Nat) : Int))) (maxI (IntKind.wrap .i64 (y11 - 1)) 0)))
         (k1 (!((z5 : Bool) == x2)) 0 z7 (List.set z8 (Int.toNat (Int.tmod x1 (((List.length z8) : Nat) : Int))) (maxI (IntKind.wrap .i64 (y11 - 1)) 0)))))
     (False /- 39 -/))))
structure c17 (x1 : Int) (x2 : Bool) (x3 : Int) (x4 : List Int) (k1 : Bool → Int → Int → (List Int) → Prop) : Prop where
  of : tc17 x1 x2 x3 x4 k1

def tl3r20 (k1 : Int → (List Int) → (List Bool) → Int → Int → Bool → Int → Bool → Int → Int → (List Int) → (List Bool) → Prop) (s1 : Int) (s2 : List Int) (s3 : List Bool) (s4 : Int) (s5 : Int) (s6 : Bool) (s7 : Int) (s8 : Bool) (s9 : Int) (s10 : Int) (s11 : Int) (s12 : Int) (s13 : List Int) (s14 : List Bool) : Prop :=
  ∀ (I1 : Int → (List Int) → (List Bool) → Int → Int → Bool → Int → Bool → Int → Int → Int → Int → (List Int) → (List Bool) → Prop),
    (∀ (s1 : Int) (s2 : List Int) (s3 : List Bool) (s4 : Int) (s5 : Int) (s6 : Bool) (s7 : Int) (s8 : Bool) (s9 : Int) (s10 : Int) (s11 : Int) (s12 : Int) (s13 : List Int) (s14 : List Bool), (br (decide ((s11 : Int) < s10))
    (need False (at? s2 s11) fun y15 =>
     br (decide ((y15 : Int) ≥ 0))
      (need False (at? s2 s11) fun y16 =>
       br (decide ((y16 : Int) < 16384))
        (need False (at? s2 s11) fun y17 =>
         br ((s1 : Int) == 0)
          (False /- 16 -/)
          (need False (at? s2 s5) fun y18 =>
           br ((s1 : Int) == 0)
            (False /- 16 -/)
            (br (((Int.tmod y17 s1) : Int) == (Int.tmod y18 s1))
             (need False (at? s3 s11) fun y19 =>
              br (roomB ((List.length s14) + 1) 1)
               (I1 s1 s2 s3 s4 s5 s6 s7 s8 s9 s10 (IntKind.wrap .i64 (s11 + 1)) s12 s13 (s14 ++ [y19]))
               (False /- 61 -/))
             (I1 s1 s2 s3 s4 s5 s6 s7 s8 s9 s10 (IntKind.wrap .i64 (s11 + 1)) s12 s13 s14))))
        (I1 s1 s2 s3 s4 s5 s6 s7 s8 s9 s10 (IntKind.wrap .i64 (s11 + 1)) s12 s13 s14))
      (I1 s1 s2 s3 s4 s5 s6 s7 s8 s9 s10 (IntKind.wrap .i64 (s11 + 1)) s12 s13 s14))
    (k1 s1 s2 s3 s4 s5 s6 s7 s8 s9 s12 s13 s14)) → I1 s1 s2 s3 s4 s5 s6 s7 s8 s9 s10 s11 s12 s13 s14) →
    I1 s1 s2 s3 s4 s5 s6 s7 s8 s9 s10 s11 s12 s13 s14
structure l3r20 (k1 : Int → (List Int) → (List Bool) → Int → Int → Bool → Int → Bool → Int → Int → (List Int) → (List Bool) → Prop) (s1 : Int) (s2 : List Int) (s3 : List Bool) (s4 : Int) (s5 : Int) (s6 : Bool) (s7 : Int) (s8 : Bool) (s9 : Int) (s10 : Int) (s11 : Int) (s12 : Int) (s13 : List Int) (s14 : List Bool) : Prop where
  of : tl3r20 k1 s1 s2 s3 s4 s5 s6 s7 s8 s9 s10 s11 s12 s13 s14

def tl18r3 (k1 : Int → Prop) (s1 : Int) (s2 : List Bool) (s3 : Int) (s4 : Int) : Prop :=
  ∀ (I1 : Int → (List Bool) → Int → Int → Prop),
    (∀ (s1 : Int) (s2 : List Bool) (s3 : Int) (s4 : Int), (br (decide ((s4 : Int) < s3))
    (need False (at? s2 s4) fun y5 =>
     br (y5)
      (br (decide ((s1 : Int) < 3))
       (br (!y5)
        (br (decide (((IntKind.wrap .i64 (s1 + 1)) : Int) > 0))
         (I1 (IntKind.wrap .i64 ((IntKind.wrap .i64 (s1 + 1)) - 1)) s2 s3 (IntKind.wrap .i64 (s4 + 1)))
         (I1 (IntKind.wrap .i64 (s1 + 1)) s2 s3 (IntKind.wrap .i64 (s4 + 1))))
        (I1 (IntKind.wrap .i64 (s1 + 1)) s2 s3 (IntKind.wrap .i64 (s4 + 1))))
       (br (!y5)
        (br (decide ((s1 : Int) > 0))
         (I1 (IntKind.wrap .i64 (s1 - 1)) s2 s3 (IntKind.wrap .i64 (s4 + 1)))
         (I1 s1 s2 s3 (IntKind.wrap .i64 (s4 + 1))))
        (I1 s1 s2 s3 (IntKind.wrap .i64 (s4 + 1)))))
      (br (!y5)
       (br (decide ((s1 : Int) > 0))
        (I1 (IntKind.wrap .i64 (s1 - 1)) s2 s3 (IntKind.wrap .i64 (s4 + 1)))
        (I1 s1 s2 s3 (IntKind.wrap .i64 (s4 + 1))))
       (I1 s1 s2 s3 (IntKind.wrap .i64 (s4 + 1)))))
    (k1 s1)) → I1 s1 s2 s3 s4) →
    I1 s1 s2 s3 s4
structure l18r3 (k1 : Int → Prop) (s1 : Int) (s2 : List Bool) (s3 : Int) (s4 : Int) : Prop where
  of : tl18r3 k1 s1 s2 s3 s4

def tc18 (x1 : List Bool) (k1 : Int → Prop) : Prop :=
  l18r3
  (fun z2 => k1 z2)
  1 x1 (((List.length x1) : Nat) : Int) 0
structure c18 (x1 : List Bool) (k1 : Int → Prop) : Prop where
  of : tc18 x1 k1

def tc19 (x1 : Int) (x2 : List Int) (k1 : Int → Int → (List Int) → Prop) : Prop :=
  k1 x1 x1 x2
structure c19 (x1 : Int) (x2 : List Int) (k1 : Int → Int → (List Int) → Prop) : Prop where
  of : tc19 x1 x2 k1

def tl3r11 (k1 : Bool → Prop) (k2 : Prop) (s1 : Int) (s2 : List Int) (s3 : List Bool) (s4 : Int) (s5 : Int) (s6 : Int) (s7 : List Int) : Prop :=
  ∀ (I1 : Int → (List Int) → (List Bool) → Int → Int → Int → (List Int) → Prop),
    (∀ (s1 : Int) (s2 : List Int) (s3 : List Bool) (s4 : Int) (s5 : Int) (s6 : Int) (s7 : List Int), (br (decide ((s5 : Int) < (((List.length s2) : Nat) : Int)))
    (br (decide ((s5 : Int) < (((List.length s3) : Nat) : Int)))
     (br (decide ((s5 : Int) < 60))
      (need False (at? s2 s5) fun y8 =>
       c16 y8 s6 s7
        (fun z9 z10 z11 z12 => need False (at? s2 s5) fun y13 =>
         need False (at? s3 s5) fun y14 =>
          c17 y13 y14 z11 z12
           (fun z15 z16 z17 z18 => need False (at? s2 s5) fun y19 =>
            br (decide ((y19 : Int) < 0))
             (br ((z10 : Int) != 4)
              (k1 false)
              (br ((z16 : Int) != 4)
               (k1 false)
               (br (z9)
                (k1 false)
                (br (z15)
                 (k1 false)
                 (I1 s1 s2 s3 s4 (IntKind.wrap .i64 (s5 + 1)) z17 z18)))))
             (need False (at? s2 s5) fun y20 =>
              br (decide ((y20 : Int) ≥ 16384))
               (br ((z10 : Int) != 4)
                (k1 false)
                (br ((z16 : Int) != 4)
                 (k1 false)
                 (br (z9)
                  (k1 false)
                  (br (z15)
                   (k1 false)
                   (I1 s1 s2 s3 s4 (IntKind.wrap .i64 (s5 + 1)) z17 z18)))))
               (l3r20
                (fun z21 z22 z23 z24 z25 z26 z27 z28 z29 z30 z31 z32 => c18 z32
                 (fun z33 => need False (at? z23 z25) fun y34 =>
                  br (!(((decide ((z33 : Int) ≥ 2)) : Bool) == y34))
                   (br ((z27 : Int) != 0)
                    (k1 false)
                    (br ((z29 : Int) != 0)
                     (k1 false)
                     (br (!((z26 : Bool) == (decide ((z33 : Int) ≥ 2))))
                      (k1 false)
                      (need False (at? z23 z25) fun y35 =>
                       br (!((z28 : Bool) == (!(((decide ((z33 : Int) ≥ 2)) : Bool) == y35))))
                        (k1 false)
                        (c19 z30 z31
                         (fun z36 z37 z38 => br ((z36 : Int) != (IntKind.wrap .i64 (z24 + 1)))
                          (k1 false)
                          (I1 z21 z22 z23 (IntKind.wrap .i64 (z24 + 1)) (IntKind.wrap .i64 (z25 + 1)) z37 z38)))))))
                   (br ((z27 : Int) != 0)
                    (k1 false)
                    (br ((z29 : Int) != 0)
                     (k1 false)
                     (br (!((z26 : Bool) == (decide ((z33 : Int) ≥ 2))))
                      (k1 false)
                      (need False (at? z23 z25) fun y39 =>
                       br (!((z28 : Bool) == (!(((decide ((z33 : Int) ≥ 2)) : Bool) == y39))))
                        (k1 false)
                        (c19 z30 z31
                         (fun z40 z41 z42 => br ((z40 : Int) != z24)
                          (k1 false)
                          (I1 z21 z22 z23 z24 (IntKind.wrap .i64 (z25 + 1)) z41 z42)))))))))
                s1 s2 s3 s4 s5 z9 z10 z15 z16 s5 0 z17 z18 [])))))
      (k2))
     (k2))
    (k2)) → I1 s1 s2 s3 s4 s5 s6 s7) →
    I1 s1 s2 s3 s4 s5 s6 s7
structure l3r11 (k1 : Bool → Prop) (k2 : Prop) (s1 : Int) (s2 : List Int) (s3 : List Bool) (s4 : Int) (s5 : Int) (s6 : Int) (s7 : List Int) : Prop where
  of : tl3r11 k1 k2 s1 s2 s3 s4 s5 s6 s7

def tj3r2v2 (k1 : Bool → Prop) (s1 : Int) (s2 : List Int) (s3 : List Bool) (s4 : Int) (s5 : Int) (s6 : List Int) : Prop :=
  c15 1
  (fun z7 z8 => br ((z8 : Int) != 0)
   (k1 false)
   (k1 false))
  (fun z9 z10 z11 => br ((z9 : Int) != 0)
   (k1 false)
   (br (decide ((s1 : Int) < 1))
    (br ((s4 : Int) == 4)
     (k1 false)
     (k1 false))
    (br (decide ((s1 : Int) > 1024))
     (br ((s4 : Int) == 4)
      (k1 false)
      (k1 false))
     (br ((s4 : Int) != 0)
      (k1 false)
      (l3r11
       (fun z12 => k1 z12)
       (k1 true)
       s1 s2 s3 0 0 s5 s6)))))
structure j3r2v2 (k1 : Bool → Prop) (s1 : Int) (s2 : List Int) (s3 : List Bool) (s4 : Int) (s5 : Int) (s6 : List Int) : Prop where
  of : tj3r2v2 k1 s1 s2 s3 s4 s5 s6

def tc3 (x1 : Int) (x2 : List Int) (x3 : List Bool) (k1 : Bool → Prop) : Prop :=
  c15 x1
  (fun z4 z5 => j3r2
   (fun z6 => k1 z6)
   x1 x2 x3 z4 z5)
  (fun z7 z8 z9 => j3r2v2
   (fun z10 => k1 z10)
   x1 x2 x3 z7 z8 z9)
structure c3 (x1 : Int) (x2 : List Int) (x3 : List Bool) (k1 : Bool → Prop) : Prop where
  of : tc3 x1 x2 x3 k1

end Go.Proofs.Ytfdoaacapkopmaa
