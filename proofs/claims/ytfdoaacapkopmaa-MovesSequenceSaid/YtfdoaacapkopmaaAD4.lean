/- What the functions compute, as plain Lean (printed by a program). -/
import Derived.Test.YtfdoaacapkopmaaATypT
namespace Go.Proofs.Ytfdoaacapkopmaa
open Go.Abs
set_option linter.unusedVariables false
def tc93 (x1 : List Int) (x2 : List Int) (k1 : Bool → (List Int) → Prop) : Prop :=
  need False (x1)[0]? fun y3 =>
  need False (x2)[0]? fun y4 =>
   k1 ((y3 : Int) == y4) x2
structure c93 (x1 : List Int) (x2 : List Int) (k1 : Bool → (List Int) → Prop) : Prop where
  of : tc93 x1 x2 k1

def tl97r2 (k1 : Int → (List Int) → Prop) (k2 : (List Int) → Prop) (s1 : List (List Int)) (s2 : Int) (s3 : Int) (s4 : List Int) : Prop :=
  ∀ (I1 : (List (List Int)) → Int → Int → (List Int) → Prop),
    (∀ (s1 : List (List Int)) (s2 : Int) (s3 : Int) (s4 : List Int), (br (decide ((s3 : Int) < s2))
    (need False (at? s1 s3) fun y5 =>
     c93 y5 s4
      (fun z6 z7 => br (z6)
       (k1 s3 z7)
       (I1 s1 s2 (IntKind.wrap .i64 (s3 + 1)) z7)))
    (k2 s4)) → I1 s1 s2 s3 s4) →
    I1 s1 s2 s3 s4
structure l97r2 (k1 : Int → (List Int) → Prop) (k2 : (List Int) → Prop) (s1 : List (List Int)) (s2 : Int) (s3 : Int) (s4 : List Int) : Prop where
  of : tl97r2 k1 k2 s1 s2 s3 s4

def tc97 (x1 : List (List Int)) (x2 : List Int) (k1 : Int → (List Int) → Prop) : Prop :=
  l97r2
  (fun z3 z4 => k1 z3 z4)
  (fun z5 => k1 (-1) z5)
  x1 (((List.length x1) : Nat) : Int) 0 x2
structure c97 (x1 : List (List Int)) (x2 : List Int) (k1 : Int → (List Int) → Prop) : Prop where
  of : tc97 x1 x2 k1

def tc92 (x1 : List (List Int)) (x2 : List Int) (k1 : Bool → (List Int) → Prop) : Prop :=
  c97 x1 x2
  (fun z3 z4 => k1 (decide ((z3 : Int) ≥ 0)) z4)
structure c92 (x1 : List (List Int)) (x2 : List Int) (k1 : Bool → (List Int) → Prop) : Prop where
  of : tc92 x1 x2 k1

def tl20r2 (k1 : Int → (List (List Int)) → Prop) (k2 : (List (List Int)) → Int → Prop) (s1 : List (List Int)) (s2 : Int) (s3 : List (List Int)) (s4 : Int) (s5 : Int) : Prop :=
  ∀ (I1 : (List (List Int)) → Int → (List (List Int)) → Int → Int → Prop),
    (∀ (s1 : List (List Int)) (s2 : Int) (s3 : List (List Int)) (s4 : Int) (s5 : Int), (br (decide ((s5 : Int) < s4))
    (need False (at? s3 s5) fun y6 =>
     need False (y6)[0]? fun y7 =>
      br (decide ((y7 : Int) < 0))
       (k1 4 [])
       (need False (y6)[1]? fun y8 =>
        br (decide ((y8 : Int) < 0))
         (k1 4 [])
         (br (decide ((0 : Int) ≤ 0 ∧ (0 : Int) ≤ s5 ∧ (s5 : Int) ≤ (((List.length s1) : Nat) : Int)))
          (c92 (List.drop 0 (List.take (Int.toNat s5) s1)) y6
           (fun z9 z10 => br (z9)
            (k1 7 [])
            (need False (z10)[0]? fun y11 =>
             br ((y11 : Int) == s2)
              (k1 1 [])
              (need False (z10)[1]? fun y12 =>
               br ((y12 : Int) == s2)
                (k1 1 [])
                (I1 s1 s2 s3 s4 (IntKind.wrap .i64 (s5 + 1)))))))
          (False /- 79 -/))))
    (k2 s1 s2)) → I1 s1 s2 s3 s4 s5) →
    I1 s1 s2 s3 s4 s5
structure l20r2 (k1 : Int → (List (List Int)) → Prop) (k2 : (List (List Int)) → Int → Prop) (s1 : List (List Int)) (s2 : Int) (s3 : List (List Int)) (s4 : Int) (s5 : Int) : Prop where
  of : tl20r2 k1 k2 s1 s2 s3 s4 s5

def tc95 (x1 : List (List Int)) (k1 : (List (List Int)) → Prop) : Prop :=
  br (List.isEmpty x1)
  ((k1 []) ∧
   (br (List.isEmpty x1)
    (k1 [])
    (br (roomB (0 + (List.length x1)) 16)
     (k1 ([] ++ x1))
     (False /- 61 -/))))
  (br (List.isEmpty x1)
   (k1 [])
   (br (roomB (0 + (List.length x1)) 16)
    (k1 ([] ++ x1))
    (False /- 61 -/)))
structure c95 (x1 : List (List Int)) (k1 : (List (List Int)) → Prop) : Prop where
  of : tc95 x1 k1

def tc96 (x1 : List Int) (k1 : Bool → Prop) : Prop :=
  need False (x1)[0]? fun y2 =>
  need False (x1)[1]? fun y3 =>
   k1 ((y2 : Int) == y3)
structure c96 (x1 : List Int) (k1 : Bool → Prop) : Prop where
  of : tc96 x1 k1

def tl97r2v2 (k1 : Int → Prop) (k2 : Prop) (s1 : List (List Int)) (s2 : Int) (s3 : Int) : Prop :=
  ∀ (I1 : (List (List Int)) → Int → Int → Prop),
    (∀ (s1 : List (List Int)) (s2 : Int) (s3 : Int), (br (decide ((s3 : Int) < s2))
    (need False (at? s1 s3) fun y4 =>
     c96 y4
      (fun z5 => br (z5)
       (k1 s3)
       (I1 s1 s2 (IntKind.wrap .i64 (s3 + 1)))))
    (k2)) → I1 s1 s2 s3) →
    I1 s1 s2 s3
structure l97r2v2 (k1 : Int → Prop) (k2 : Prop) (s1 : List (List Int)) (s2 : Int) (s3 : Int) : Prop where
  of : tl97r2v2 k1 k2 s1 s2 s3

def tc97v2 (x1 : List (List Int)) (k1 : Int → Prop) : Prop :=
  l97r2v2
  (fun z2 => k1 z2)
  (k1 (-1))
  x1 (((List.length x1) : Nat) : Int) 0
structure c97v2 (x1 : List (List Int)) (k1 : Int → Prop) : Prop where
  of : tc97v2 x1 k1

def tl94r5 (k1 : Int → (List (List Int)) → Prop) (s1 : Int) (s2 : Int) (s3 : List (List Int)) : Prop :=
  ∀ (I1 : Int → Int → (List (List Int)) → Prop),
    (∀ (s1 : Int) (s2 : Int) (s3 : List (List Int)), (br (decide ((s2 : Int) < (((List.length s3) : Nat) : Int)))
    (br (decide ((0 : Int) ≤ s2 ∧ (s2 : Int) < (((List.length s3) : Nat) : Int)))
     (need False (s3)[(Int.toNat s2)]? fun y4 =>
      c96 y4
       (fun z5 => br (!z5)
        (br (decide ((0 : Int) ≤ s1 ∧ (s1 : Int) < (((List.length s3) : Nat) : Int)))
         (need False (s3)[(Int.toNat s1)]? fun y6 =>
          I1 (IntKind.wrap .i64 (s1 + 1)) (IntKind.wrap .i64 (s2 + 1)) (List.set s3 (Int.toNat s1) y4))
         (False /- 39 -/))
        (I1 s1 (IntKind.wrap .i64 (s2 + 1)) s3)))
     (False /- 39 -/))
    (k1 s1 s3)) → I1 s1 s2 s3) →
    I1 s1 s2 s3
structure l94r5 (k1 : Int → (List (List Int)) → Prop) (s1 : Int) (s2 : Int) (s3 : List (List Int)) : Prop where
  of : tl94r5 k1 s1 s2 s3

def tc94 (x1 : List (List Int)) (k1 : (List (List Int)) → Prop) (k2 : Nat → Nat → Nat → (List (List Int)) → Prop) : Prop :=
  c97v2 x1
  (fun z2 => br ((z2 : Int) == (-1))
   (k1 x1)
   (l94r5
    (fun z3 z4 => br (decide ((0 : Int) ≤ z3 ∧ (z3 : Int) ≤ (((List.length z4) : Nat) : Int) ∧ ((((List.length z4) : Nat) : Int) : Int) ≤ (((List.length z4) : Nat) : Int) ∧ ((((List.length z4) : Nat) : Int) : Int) ≤ (((List.length z4) : Nat) : Int)))
     (br (decide ((0 : Int) ≤ 0 ∧ (0 : Int) ≤ z3 ∧ (z3 : Int) ≤ (((List.length (((List.take (Int.toNat z3) z4) ++ (List.replicate (Int.toNat ((((List.length z4) : Nat) : Int) - z3)) ([0, 0] : List (Int)))) ++ (List.drop ((Int.toNat z3) + (List.length (List.replicate (Int.toNat ((((List.length z4) : Nat) : Int) - z3)) ([0, 0] : List (Int))))) z4))) : Nat) : Int) ∧ ((((List.length (((List.take (Int.toNat z3) z4) ++ (List.replicate (Int.toNat ((((List.length z4) : Nat) : Int) - z3)) ([0, 0] : List (Int)))) ++ (List.drop ((Int.toNat z3) + (List.length (List.replicate (Int.toNat ((((List.length z4) : Nat) : Int) - z3)) ([0, 0] : List (Int))))) z4))) : Nat) : Int) : Int) ≤ (((List.length (((List.take (Int.toNat z3) z4) ++ (List.replicate (Int.toNat ((((List.length z4) : Nat) : Int) - z3)) ([0, 0] : List (Int)))) ++ (List.drop ((Int.toNat z3) + (List.length (List.replicate (Int.toNat ((((List.length z4) : Nat) : Int) - z3)) ([0, 0] : List (Int))))) z4))) : Nat) : Int)))
      (k2 0 (Int.toNat (z3 - 0)) (Int.toNat ((((List.length (((List.take (Int.toNat z3) z4) ++ (List.replicate (Int.toNat ((((List.length z4) : Nat) : Int) - z3)) ([0, 0] : List (Int)))) ++ (List.drop ((Int.toNat z3) + (List.length (List.replicate (Int.toNat ((((List.length z4) : Nat) : Int) - z3)) ([0, 0] : List (Int))))) z4))) : Nat) : Int) - 0)) (((List.take (Int.toNat z3) z4) ++ (List.replicate (Int.toNat ((((List.length z4) : Nat) : Int) - z3)) ([0, 0] : List (Int)))) ++ (List.drop ((Int.toNat z3) + (List.length (List.replicate (Int.toNat ((((List.length z4) : Nat) : Int) - z3)) ([0, 0] : List (Int))))) z4)))
      (False /- 82 -/))
     (False /- 82 -/))
    z2 (IntKind.wrap .i64 (z2 + 1)) x1))
structure c94 (x1 : List (List Int)) (k1 : (List (List Int)) → Prop) (k2 : Nat → Nat → Nat → (List (List Int)) → Prop) : Prop where
  of : tc94 x1 k1 k2

def tc99 (x1 : List Int) (x2 : List Int) (k1 : Bool → (List Int) → Prop) : Prop :=
  need False (x1)[1]? fun y3 =>
  need False (x2)[0]? fun y4 =>
   k1 ((y3 : Int) == y4) x2
structure c99 (x1 : List Int) (x2 : List Int) (k1 : Bool → (List Int) → Prop) : Prop where
  of : tc99 x1 x2 k1

def tl97r2v4 (k1 : Int → (List Int) → Prop) (k2 : (List Int) → Prop) (s1 : List (List Int)) (s2 : Int) (s3 : Int) (s4 : List Int) : Prop :=
  ∀ (I1 : (List (List Int)) → Int → Int → (List Int) → Prop),
    (∀ (s1 : List (List Int)) (s2 : Int) (s3 : Int) (s4 : List Int), (br (decide ((s3 : Int) < s2))
    (need False (at? s1 s3) fun y5 =>
     c99 y5 s4
      (fun z6 z7 => br (z6)
       (k1 s3 z7)
       (I1 s1 s2 (IntKind.wrap .i64 (s3 + 1)) z7)))
    (k2 s4)) → I1 s1 s2 s3 s4) →
    I1 s1 s2 s3 s4
structure l97r2v4 (k1 : Int → (List Int) → Prop) (k2 : (List Int) → Prop) (s1 : List (List Int)) (s2 : Int) (s3 : Int) (s4 : List Int) : Prop where
  of : tl97r2v4 k1 k2 s1 s2 s3 s4

def tc97v4 (x1 : List (List Int)) (x2 : List Int) (k1 : Int → (List Int) → Prop) : Prop :=
  l97r2v4
  (fun z3 z4 => k1 z3 z4)
  (fun z5 => k1 (-1) z5)
  x1 (((List.length x1) : Nat) : Int) 0 x2
structure c97v4 (x1 : List (List Int)) (x2 : List Int) (k1 : Int → (List Int) → Prop) : Prop where
  of : tc97v4 x1 x2 k1

def tc92v2 (x1 : List (List Int)) (x2 : List Int) (k1 : Bool → (List Int) → Prop) : Prop :=
  c97v4 x1 x2
  (fun z3 z4 => k1 (decide ((z3 : Int) ≥ 0)) z4)
structure c92v2 (x1 : List (List Int)) (x2 : List Int) (k1 : Bool → (List Int) → Prop) : Prop where
  of : tc92v2 x1 x2 k1

def tc98 (x1 : List Int) (x2 : List (List Int)) (k1 : Bool → (List (List Int)) → Prop) : Prop :=
  c92v2 x2 x1
  (fun z3 z4 => k1 (!z3) x2)
structure c98 (x1 : List Int) (x2 : List (List Int)) (k1 : Bool → (List (List Int)) → Prop) : Prop where
  of : tc98 x1 x2 k1

def tl97r2v3 (k1 : Int → (List (List Int)) → Prop) (k2 : (List (List Int)) → Prop) (s1 : Int) (s2 : Int) (s3 : List (List Int)) : Prop :=
  ∀ (I1 : Int → Int → (List (List Int)) → Prop),
    (∀ (s1 : Int) (s2 : Int) (s3 : List (List Int)), (br (decide ((s2 : Int) < s1))
    (br (decide ((0 : Int) ≤ s2 ∧ (s2 : Int) < (((List.length s3) : Nat) : Int)))
     (need False (s3)[(Int.toNat s2)]? fun y4 =>
      c98 y4 s3
       (fun z5 z6 => br (z5)
        (k1 s2 z6)
        (I1 s1 (IntKind.wrap .i64 (s2 + 1)) z6)))
     (False /- 39 -/))
    (k2 s3)) → I1 s1 s2 s3) →
    I1 s1 s2 s3
structure l97r2v3 (k1 : Int → (List (List Int)) → Prop) (k2 : (List (List Int)) → Prop) (s1 : Int) (s2 : Int) (s3 : List (List Int)) : Prop where
  of : tl97r2v3 k1 k2 s1 s2 s3

def tc97v3 (x1 : List (List Int)) (k1 : Int → (List (List Int)) → Prop) : Prop :=
  l97r2v3
  (fun z2 z3 => k1 z2 z3)
  (fun z4 => k1 (-1) z4)
  (((List.length x1) : Nat) : Int) 0 x1
structure c97v3 (x1 : List (List Int)) (k1 : Int → (List (List Int)) → Prop) : Prop where
  of : tc97v3 x1 k1

def tl20r19 (k1 : Int → (List (List Int)) → (List (List Int)) → Prop) (s1 : Int) (s2 : Int) (s3 : Int) (s4 : Int) (s5 : List (List Int)) (s6 : List (List Int)) : Prop :=
  ∀ (I1 : Int → Int → Int → Int → (List (List Int)) → (List (List Int)) → Prop),
    (∀ (s1 : Int) (s2 : Int) (s3 : Int) (s4 : Int) (s5 : List (List Int)) (s6 : List (List Int)), (br (decide ((s4 : Int) < s3))
    (br (decide ((0 : Int) ≤ s4 ∧ (s4 : Int) < (((List.length s5) : Nat) : Int)))
     (need False (s5)[(Int.toNat s4)]? fun y7 =>
      need False (y7)[1]? fun y8 =>
       br ((y8 : Int) == s2)
        (br (decide ((0 : Int) ≤ s4 ∧ (s4 : Int) < (((List.length s5) : Nat) : Int)))
         (need False (s5)[(Int.toNat s4)]? fun y9 =>
          need False (y9)[1]? fun y10 =>
           I1 s1 s2 s3 (IntKind.wrap .i64 (s4 + 1)) (List.set s5 (Int.toNat s4) (List.set y9 1 s1)) s6)
         (False /- 39 -/))
        (I1 s1 s2 s3 (IntKind.wrap .i64 (s4 + 1)) s5 s6))
     (False /- 39 -/))
    (k1 s1 s5 s6)) → I1 s1 s2 s3 s4 s5 s6) →
    I1 s1 s2 s3 s4 s5 s6
structure l20r19 (k1 : Int → (List (List Int)) → (List (List Int)) → Prop) (s1 : Int) (s2 : Int) (s3 : Int) (s4 : Int) (s5 : List (List Int)) (s6 : List (List Int)) : Prop where
  of : tl20r19 k1 s1 s2 s3 s4 s5 s6

def tc100 (x1 : Int) (x2 : Int) (x3 : List (List Int)) (k1 : (List (List Int)) → Prop) (k2 : Nat → Nat → Nat → (List (List Int)) → Prop) (k3 : (List (List Int)) → Prop) : Prop :=
  br (decide ((0 : Int) ≤ x1 ∧ (x1 : Int) ≤ x2 ∧ (x2 : Int) ≤ (((List.length x3) : Nat) : Int) ∧ ((((List.length x3) : Nat) : Int) : Int) ≤ (((List.length x3) : Nat) : Int)))
  (br ((x1 : Int) == x2)
   (k1 x3)
   (br (decide ((0 : Int) ≤ 0 ∧ (0 : Int) ≤ x1 ∧ (x1 : Int) ≤ (((List.length x3) : Nat) : Int) ∧ ((((List.length x3) : Nat) : Int) : Int) ≤ (((List.length x3) : Nat) : Int)))
    (br (decide ((0 : Int) ≤ x2 ∧ (x2 : Int) ≤ (((List.length x3) : Nat) : Int) ∧ ((((List.length x3) : Nat) : Int) : Int) ≤ (((List.length x3) : Nat) : Int) ∧ ((((List.length x3) : Nat) : Int) : Int) ≤ (((List.length x3) : Nat) : Int)))
     (br (decide (((Int.toNat (x1 - 0)) + (List.length (List.take (Int.toNat ((((List.length x3) : Nat) : Int) - x2)) (List.drop (Int.toNat x2) x3)))) ≤ (Int.toNat ((((List.length x3) : Nat) : Int) - 0))))
      (br (decide ((0 : Int) ≤ ((((Int.toNat (x1 - 0)) + (List.length (List.take (Int.toNat ((((List.length x3) : Nat) : Int) - x2)) (List.drop (Int.toNat x2) x3)))) : Nat) : Int) ∧ (((((Int.toNat (x1 - 0)) + (List.length (List.take (Int.toNat ((((List.length x3) : Nat) : Int) - x2)) (List.drop (Int.toNat x2) x3)))) : Nat) : Int) : Int) ≤ (((List.length x3) : Nat) : Int) ∧ ((((List.length x3) : Nat) : Int) : Int) ≤ (((Int.toNat ((((List.length x3) : Nat) : Int) - 0)) : Nat) : Int) ∧ ((((Int.toNat ((((List.length x3) : Nat) : Int) - 0)) : Nat) : Int) : Int) ≤ (((Int.toNat ((((List.length x3) : Nat) : Int) - 0)) : Nat) : Int)))
       (k2 0 ((Int.toNat (x1 - 0)) + (List.length (List.take (Int.toNat ((((List.length x3) : Nat) : Int) - x2)) (List.drop (Int.toNat x2) x3)))) (Int.toNat ((((List.length x3) : Nat) : Int) - 0)) (((List.take (0 + (Int.toNat ((((Int.toNat (x1 - 0)) + (List.length (List.take (Int.toNat ((((List.length x3) : Nat) : Int) - x2)) (List.drop (Int.toNat x2) x3)))) : Nat) : Int))) (((List.take (0 + (Int.toNat (x1 - 0))) x3) ++ (List.take (Int.toNat ((((List.length x3) : Nat) : Int) - x2)) (List.drop (Int.toNat x2) x3))) ++ (List.drop ((0 + (Int.toNat (x1 - 0))) + (List.length (List.take (Int.toNat ((((List.length x3) : Nat) : Int) - x2)) (List.drop (Int.toNat x2) x3)))) x3))) ++ (List.replicate (Int.toNat ((((List.length x3) : Nat) : Int) - ((((Int.toNat (x1 - 0)) + (List.length (List.take (Int.toNat ((((List.length x3) : Nat) : Int) - x2)) (List.drop (Int.toNat x2) x3)))) : Nat) : Int))) ([0, 0] : List (Int)))) ++ (List.drop ((0 + (Int.toNat ((((Int.toNat (x1 - 0)) + (List.length (List.take (Int.toNat ((((List.length x3) : Nat) : Int) - x2)) (List.drop (Int.toNat x2) x3)))) : Nat) : Int))) + (List.length (List.replicate (Int.toNat ((((List.length x3) : Nat) : Int) - ((((Int.toNat (x1 - 0)) + (List.length (List.take (Int.toNat ((((List.length x3) : Nat) : Int) - x2)) (List.drop (Int.toNat x2) x3)))) : Nat) : Int))) ([0, 0] : List (Int))))) (((List.take (0 + (Int.toNat (x1 - 0))) x3) ++ (List.take (Int.toNat ((((List.length x3) : Nat) : Int) - x2)) (List.drop (Int.toNat x2) x3))) ++ (List.drop ((0 + (Int.toNat (x1 - 0))) + (List.length (List.take (Int.toNat ((((List.length x3) : Nat) : Int) - x2)) (List.drop (Int.toNat x2) x3)))) x3)))))
       (False /- 84 -/))
      (br (roomB ((Int.toNat (x1 - 0)) + (List.length (List.take (Int.toNat ((((List.length x3) : Nat) : Int) - x2)) (List.drop (Int.toNat x2) x3)))) 16)
       (br (decide ((0 : Int) ≤ (((List.length ((List.take (Int.toNat (x1 - 0)) x3) ++ (List.take (Int.toNat ((((List.length x3) : Nat) : Int) - x2)) (List.drop (Int.toNat x2) x3)))) : Nat) : Int) ∧ ((((List.length ((List.take (Int.toNat (x1 - 0)) x3) ++ (List.take (Int.toNat ((((List.length x3) : Nat) : Int) - x2)) (List.drop (Int.toNat x2) x3)))) : Nat) : Int) : Int) ≤ (((List.length x3) : Nat) : Int) ∧ ((((List.length x3) : Nat) : Int) : Int) ≤ (((List.length ((List.take (Int.toNat (x1 - 0)) x3) ++ (List.take (Int.toNat ((((List.length x3) : Nat) : Int) - x2)) (List.drop (Int.toNat x2) x3)))) : Nat) : Int) ∧ ((((List.length ((List.take (Int.toNat (x1 - 0)) x3) ++ (List.take (Int.toNat ((((List.length x3) : Nat) : Int) - x2)) (List.drop (Int.toNat x2) x3)))) : Nat) : Int) : Int) ≤ (((List.length ((List.take (Int.toNat (x1 - 0)) x3) ++ (List.take (Int.toNat ((((List.length x3) : Nat) : Int) - x2)) (List.drop (Int.toNat x2) x3)))) : Nat) : Int)))
        (k3 (((List.take (Int.toNat (((List.length ((List.take (Int.toNat (x1 - 0)) x3) ++ (List.take (Int.toNat ((((List.length x3) : Nat) : Int) - x2)) (List.drop (Int.toNat x2) x3)))) : Nat) : Int)) ((List.take (Int.toNat (x1 - 0)) x3) ++ (List.take (Int.toNat ((((List.length x3) : Nat) : Int) - x2)) (List.drop (Int.toNat x2) x3)))) ++ (List.replicate (Int.toNat ((((List.length x3) : Nat) : Int) - (((List.length ((List.take (Int.toNat (x1 - 0)) x3) ++ (List.take (Int.toNat ((((List.length x3) : Nat) : Int) - x2)) (List.drop (Int.toNat x2) x3)))) : Nat) : Int))) ([0, 0] : List (Int)))) ++ (List.drop ((Int.toNat (((List.length ((List.take (Int.toNat (x1 - 0)) x3) ++ (List.take (Int.toNat ((((List.length x3) : Nat) : Int) - x2)) (List.drop (Int.toNat x2) x3)))) : Nat) : Int)) + (List.length (List.replicate (Int.toNat ((((List.length x3) : Nat) : Int) - (((List.length ((List.take (Int.toNat (x1 - 0)) x3) ++ (List.take (Int.toNat ((((List.length x3) : Nat) : Int) - x2)) (List.drop (Int.toNat x2) x3)))) : Nat) : Int))) ([0, 0] : List (Int))))) ((List.take (Int.toNat (x1 - 0)) x3) ++ (List.take (Int.toNat ((((List.length x3) : Nat) : Int) - x2)) (List.drop (Int.toNat x2) x3))))))
        (False /- 82 -/))
       (False /- 65 -/)))
     (False /- 82 -/))
    (False /- 82 -/)))
  (False /- 82 -/)
structure c100 (x1 : Int) (x2 : Int) (x3 : List (List Int)) (k1 : (List (List Int)) → Prop) (k2 : Nat → Nat → Nat → (List (List Int)) → Prop) (k3 : (List (List Int)) → Prop) : Prop where
  of : tc100 x1 x2 x3 k1 k2 k3

def tc98v2 (x1 : List Int) (x2 : Nat) (x3 : Nat) (x4 : Nat) (x5 : List (List Int)) (k1 : Bool → Nat → Nat → Nat → (List (List Int)) → Prop) : Prop :=
  c92v2 (List.take x3 (List.drop x2 x5)) x1
  (fun z6 z7 => k1 (!z6) x2 x3 x4 x5)
structure c98v2 (x1 : List Int) (x2 : Nat) (x3 : Nat) (x4 : Nat) (x5 : List (List Int)) (k1 : Bool → Nat → Nat → Nat → (List (List Int)) → Prop) : Prop where
  of : tc98v2 x1 x2 x3 x4 x5 k1

def tl97r2v5 (k1 : Int → (List (List Int)) → Nat → Nat → Nat → Prop) (k2 : (List (List Int)) → Nat → Nat → Nat → Prop) (s1 : Nat) (s2 : Nat) (s3 : Nat) (s4 : Int) (s5 : Int) (s6 : List (List Int)) (s7 : Nat) (s8 : Nat) (s9 : Nat) : Prop :=
  ∀ (I1 : Nat → Nat → Nat → Int → Int → (List (List Int)) → Nat → Nat → Nat → Prop),
    (∀ (s1 : Nat) (s2 : Nat) (s3 : Nat) (s4 : Int) (s5 : Int) (s6 : List (List Int)) (s7 : Nat) (s8 : Nat) (s9 : Nat), (br (decide ((s5 : Int) < s4))
    (br (decide ((0 : Int) ≤ s5 ∧ (s5 : Int) < ((s2 : Nat) : Int)))
     (need False (s6)[(s1 + (Int.toNat s5))]? fun y10 =>
      c98v2 y10 s7 s8 s9 s6
       (fun z11 z12 z13 z14 z15 => br (z11)
        (k1 s5 z15 z12 z13 z14)
        (I1 s1 s2 s3 s4 (IntKind.wrap .i64 (s5 + 1)) z15 z12 z13 z14)))
     (False /- 41 -/))
    (k2 s6 s7 s8 s9)) → I1 s1 s2 s3 s4 s5 s6 s7 s8 s9) →
    I1 s1 s2 s3 s4 s5 s6 s7 s8 s9
structure l97r2v5 (k1 : Int → (List (List Int)) → Nat → Nat → Nat → Prop) (k2 : (List (List Int)) → Nat → Nat → Nat → Prop) (s1 : Nat) (s2 : Nat) (s3 : Nat) (s4 : Int) (s5 : Int) (s6 : List (List Int)) (s7 : Nat) (s8 : Nat) (s9 : Nat) : Prop where
  of : tl97r2v5 k1 k2 s1 s2 s3 s4 s5 s6 s7 s8 s9

def tc97v5 (x1 : Nat) (x2 : Nat) (x3 : Nat) (x4 : List (List Int)) (x5 : Nat) (x6 : Nat) (x7 : Nat) (k1 : Int → (List (List Int)) → Nat → Nat → Nat → Prop) : Prop :=
  l97r2v5
  (fun z8 z9 z10 z11 z12 => k1 z8 z9 z10 z11 z12)
  (fun z13 z14 z15 z16 => k1 (-1) z13 z14 z15 z16)
  x1 x2 x3 ((x2 : Nat) : Int) 0 x4 x5 x6 x7
structure c97v5 (x1 : Nat) (x2 : Nat) (x3 : Nat) (x4 : List (List Int)) (x5 : Nat) (x6 : Nat) (x7 : Nat) (k1 : Int → (List (List Int)) → Nat → Nat → Nat → Prop) : Prop where
  of : tc97v5 x1 x2 x3 x4 x5 x6 x7 k1

def tl20r19v2 (k1 : Int → Nat → Nat → Nat → (List (List Int)) → (List (List Int)) → Prop) (s1 : Int) (s2 : Int) (s3 : Int) (s4 : Int) (s5 : Nat) (s6 : Nat) (s7 : Nat) (s8 : List (List Int)) (s9 : List (List Int)) : Prop :=
  ∀ (I1 : Int → Int → Int → Int → Nat → Nat → Nat → (List (List Int)) → (List (List Int)) → Prop),
    (∀ (s1 : Int) (s2 : Int) (s3 : Int) (s4 : Int) (s5 : Nat) (s6 : Nat) (s7 : Nat) (s8 : List (List Int)) (s9 : List (List Int)), (br (decide ((s4 : Int) < s3))
    (br (decide ((0 : Int) ≤ s4 ∧ (s4 : Int) < ((s6 : Nat) : Int)))
     (need False (s8)[(s5 + (Int.toNat s4))]? fun y10 =>
      need False (y10)[1]? fun y11 =>
       br ((y11 : Int) == s2)
        (br (decide ((0 : Int) ≤ s4 ∧ (s4 : Int) < ((s6 : Nat) : Int)))
         (need False (s8)[(s5 + (Int.toNat s4))]? fun y12 =>
          need False (y12)[1]? fun y13 =>
           I1 s1 s2 s3 (IntKind.wrap .i64 (s4 + 1)) s5 s6 s7 (List.set s8 (s5 + (Int.toNat s4)) (List.set y12 1 s1)) s9)
         (False /- 41 -/))
        (I1 s1 s2 s3 (IntKind.wrap .i64 (s4 + 1)) s5 s6 s7 s8 s9))
     (False /- 41 -/))
    (k1 s1 s5 s6 s7 s8 s9)) → I1 s1 s2 s3 s4 s5 s6 s7 s8 s9) →
    I1 s1 s2 s3 s4 s5 s6 s7 s8 s9
structure l20r19v2 (k1 : Int → Nat → Nat → Nat → (List (List Int)) → (List (List Int)) → Prop) (s1 : Int) (s2 : Int) (s3 : Int) (s4 : Int) (s5 : Nat) (s6 : Nat) (s7 : Nat) (s8 : List (List Int)) (s9 : List (List Int)) : Prop where
  of : tl20r19v2 k1 s1 s2 s3 s4 s5 s6 s7 s8 s9

def tc100v2 (x1 : Nat) (x2 : Nat) (x3 : Nat) (x4 : Int) (x5 : Int) (x6 : List (List Int)) (k1 : Nat → Nat → Nat → (List (List Int)) → Prop) (k2 : (List (List Int)) → Prop) : Prop :=
  br (decide ((0 : Int) ≤ x4 ∧ (x4 : Int) ≤ x5 ∧ (x5 : Int) ≤ ((x2 : Nat) : Int) ∧ (((x2 : Nat) : Int) : Int) ≤ ((x3 : Nat) : Int)))
  (br ((x4 : Int) == x5)
   (k1 x1 x2 x3 x6)
   (br (decide ((0 : Int) ≤ 0 ∧ (0 : Int) ≤ x4 ∧ (x4 : Int) ≤ ((x3 : Nat) : Int) ∧ (((x3 : Nat) : Int) : Int) ≤ ((x3 : Nat) : Int)))
    (br (decide ((0 : Int) ≤ x5 ∧ (x5 : Int) ≤ ((x2 : Nat) : Int) ∧ (((x2 : Nat) : Int) : Int) ≤ ((x3 : Nat) : Int) ∧ (((x3 : Nat) : Int) : Int) ≤ ((x3 : Nat) : Int)))
     (br (decide (((Int.toNat (x4 - 0)) + (List.length (List.take (Int.toNat (((x2 : Nat) : Int) - x5)) (List.drop (x1 + (Int.toNat x5)) x6)))) ≤ (Int.toNat (((x3 : Nat) : Int) - 0))))
      (br (decide ((0 : Int) ≤ ((((Int.toNat (x4 - 0)) + (List.length (List.take (Int.toNat (((x2 : Nat) : Int) - x5)) (List.drop (x1 + (Int.toNat x5)) x6)))) : Nat) : Int) ∧ (((((Int.toNat (x4 - 0)) + (List.length (List.take (Int.toNat (((x2 : Nat) : Int) - x5)) (List.drop (x1 + (Int.toNat x5)) x6)))) : Nat) : Int) : Int) ≤ ((x2 : Nat) : Int) ∧ (((x2 : Nat) : Int) : Int) ≤ (((Int.toNat (((x3 : Nat) : Int) - 0)) : Nat) : Int) ∧ ((((Int.toNat (((x3 : Nat) : Int) - 0)) : Nat) : Int) : Int) ≤ (((Int.toNat (((x3 : Nat) : Int) - 0)) : Nat) : Int)))
       (k1 (x1 + 0) ((Int.toNat (x4 - 0)) + (List.length (List.take (Int.toNat (((x2 : Nat) : Int) - x5)) (List.drop (x1 + (Int.toNat x5)) x6)))) (Int.toNat (((x3 : Nat) : Int) - 0)) (((List.take ((x1 + 0) + (Int.toNat ((((Int.toNat (x4 - 0)) + (List.length (List.take (Int.toNat (((x2 : Nat) : Int) - x5)) (List.drop (x1 + (Int.toNat x5)) x6)))) : Nat) : Int))) (((List.take ((x1 + 0) + (Int.toNat (x4 - 0))) x6) ++ (List.take (Int.toNat (((x2 : Nat) : Int) - x5)) (List.drop (x1 + (Int.toNat x5)) x6))) ++ (List.drop (((x1 + 0) + (Int.toNat (x4 - 0))) + (List.length (List.take (Int.toNat (((x2 : Nat) : Int) - x5)) (List.drop (x1 + (Int.toNat x5)) x6)))) x6))) ++ (List.replicate (Int.toNat (((x2 : Nat) : Int) - ((((Int.toNat (x4 - 0)) + (List.length (List.take (Int.toNat (((x2 : Nat) : Int) - x5)) (List.drop (x1 + (Int.toNat x5)) x6)))) : Nat) : Int))) ([0, 0] : List (Int)))) ++ (List.drop (((x1 + 0) + (Int.toNat ((((Int.toNat (x4 - 0)) + (List.length (List.take (Int.toNat (((x2 : Nat) : Int) - x5)) (List.drop (x1 + (Int.toNat x5)) x6)))) : Nat) : Int))) + (List.length (List.replicate (Int.toNat (((x2 : Nat) : Int) - ((((Int.toNat (x4 - 0)) + (List.length (List.take (Int.toNat (((x2 : Nat) : Int) - x5)) (List.drop (x1 + (Int.toNat x5)) x6)))) : Nat) : Int))) ([0, 0] : List (Int))))) (((List.take ((x1 + 0) + (Int.toNat (x4 - 0))) x6) ++ (List.take (Int.toNat (((x2 : Nat) : Int) - x5)) (List.drop (x1 + (Int.toNat x5)) x6))) ++ (List.drop (((x1 + 0) + (Int.toNat (x4 - 0))) + (List.length (List.take (Int.toNat (((x2 : Nat) : Int) - x5)) (List.drop (x1 + (Int.toNat x5)) x6)))) x6)))))
       (False /- 84 -/))
      (br (roomB ((Int.toNat (x4 - 0)) + (List.length (List.take (Int.toNat (((x2 : Nat) : Int) - x5)) (List.drop (x1 + (Int.toNat x5)) x6)))) 16)
       (br (decide ((x1 + 0) = 0))
        (br (decide ((0 : Int) ≤ (((List.length ((List.take (Int.toNat (x4 - 0)) x6) ++ (List.take (Int.toNat (((x2 : Nat) : Int) - x5)) (List.drop (x1 + (Int.toNat x5)) x6)))) : Nat) : Int) ∧ ((((List.length ((List.take (Int.toNat (x4 - 0)) x6) ++ (List.take (Int.toNat (((x2 : Nat) : Int) - x5)) (List.drop (x1 + (Int.toNat x5)) x6)))) : Nat) : Int) : Int) ≤ ((x2 : Nat) : Int) ∧ (((x2 : Nat) : Int) : Int) ≤ (((List.length ((List.take (Int.toNat (x4 - 0)) x6) ++ (List.take (Int.toNat (((x2 : Nat) : Int) - x5)) (List.drop (x1 + (Int.toNat x5)) x6)))) : Nat) : Int) ∧ ((((List.length ((List.take (Int.toNat (x4 - 0)) x6) ++ (List.take (Int.toNat (((x2 : Nat) : Int) - x5)) (List.drop (x1 + (Int.toNat x5)) x6)))) : Nat) : Int) : Int) ≤ (((List.length ((List.take (Int.toNat (x4 - 0)) x6) ++ (List.take (Int.toNat (((x2 : Nat) : Int) - x5)) (List.drop (x1 + (Int.toNat x5)) x6)))) : Nat) : Int)))
         (k2 (((List.take (Int.toNat (((List.length ((List.take (Int.toNat (x4 - 0)) x6) ++ (List.take (Int.toNat (((x2 : Nat) : Int) - x5)) (List.drop (x1 + (Int.toNat x5)) x6)))) : Nat) : Int)) ((List.take (Int.toNat (x4 - 0)) x6) ++ (List.take (Int.toNat (((x2 : Nat) : Int) - x5)) (List.drop (x1 + (Int.toNat x5)) x6)))) ++ (List.replicate (Int.toNat (((x2 : Nat) : Int) - (((List.length ((List.take (Int.toNat (x4 - 0)) x6) ++ (List.take (Int.toNat (((x2 : Nat) : Int) - x5)) (List.drop (x1 + (Int.toNat x5)) x6)))) : Nat) : Int))) ([0, 0] : List (Int)))) ++ (List.drop ((Int.toNat (((List.length ((List.take (Int.toNat (x4 - 0)) x6) ++ (List.take (Int.toNat (((x2 : Nat) : Int) - x5)) (List.drop (x1 + (Int.toNat x5)) x6)))) : Nat) : Int)) + (List.length (List.replicate (Int.toNat (((x2 : Nat) : Int) - (((List.length ((List.take (Int.toNat (x4 - 0)) x6) ++ (List.take (Int.toNat (((x2 : Nat) : Int) - x5)) (List.drop (x1 + (Int.toNat x5)) x6)))) : Nat) : Int))) ([0, 0] : List (Int))))) ((List.take (Int.toNat (x4 - 0)) x6) ++ (List.take (Int.toNat (((x2 : Nat) : Int) - x5)) (List.drop (x1 + (Int.toNat x5)) x6))))))
         (False /- 82 -/))
        (False /- 64 -/))
       (False /- 65 -/)))
     (False /- 84 -/))
    (False /- 84 -/)))
  (False /- 84 -/)
structure c100v2 (x1 : Nat) (x2 : Nat) (x3 : Nat) (x4 : Int) (x5 : Int) (x6 : List (List Int)) (k1 : Nat → Nat → Nat → (List (List Int)) → Prop) (k2 : (List (List Int)) → Prop) : Prop where
  of : tc100v2 x1 x2 x3 x4 x5 x6 k1 k2

def tl20r13 (k1 : (List (List Int)) → Prop) (s1 : Int) (s2 : List (List Int)) (s3 : List (List Int)) : Prop :=
  ∀ (I1 : Int → (List (List Int)) → (List (List Int)) → Prop) (I2 : Int → Nat → Nat → Nat → (List (List Int)) → (List (List Int)) → Prop),
    (∀ (s1 : Int) (s2 : List (List Int)) (s3 : List (List Int)), (br (decide (((((List.length s2) : Nat) : Int) : Int) > 0))
    (c97v3 s2
     (fun z4 z5 => br (decide ((z4 : Int) < 0))
      (br (decide ((0 : Int) ≤ 0 ∧ (0 : Int) < (((List.length z5) : Nat) : Int)))
       (need False (z5)[0]? fun y6 =>
        need False (y6)[0]? fun y7 =>
         br (roomB ((List.length s3) + 1) 16)
          (l20r19
           (fun z8 z9 z10 => br (decide ((0 : Int) ≤ 0 ∧ (0 : Int) < (((List.length z9) : Nat) : Int)))
            (need False (z9)[0]? fun y11 =>
             br (roomB ((List.length z10) + 1) 16)
              (c100 0 1 z9
               (fun z12 => I1 z8 z12 (z10 ++ [y11]))
               (fun z13 z14 z15 z16 => I2 z8 z13 z14 z15 z16 (z10 ++ [y11]))
               (fun z17 => I1 z8 z17 (z10 ++ [y11])))
              (False /- 61 -/))
            (False /- 39 -/))
           s1 y7 (((List.length z5) : Nat) : Int) 0 z5 (s3 ++ [[s1, y7]]))
          (False /- 61 -/))
       (False /- 39 -/))
      (br (decide ((0 : Int) ≤ z4 ∧ (z4 : Int) < (((List.length z5) : Nat) : Int)))
       (need False (z5)[(Int.toNat z4)]? fun y18 =>
        br (roomB ((List.length s3) + 1) 16)
         (c100 z4 (IntKind.wrap .i64 (z4 + 1)) z5
          (fun z19 => I1 s1 z19 (s3 ++ [y18]))
          (fun z20 z21 z22 z23 => I2 s1 z20 z21 z22 z23 (s3 ++ [y18]))
          (fun z24 => I1 s1 z24 (s3 ++ [y18])))
         (False /- 61 -/))
       (False /- 39 -/))))
    (k1 s3)) → I1 s1 s2 s3) →
    (∀ (s25 : Int) (s26 : Nat) (s27 : Nat) (s28 : Nat) (s29 : List (List Int)) (s30 : List (List Int)), (br (decide ((((s27 : Nat) : Int) : Int) > 0))
    (c97v5 s26 s27 s28 s29 s26 s27 s28
     (fun z31 z32 z33 z34 z35 => br (decide ((z31 : Int) < 0))
      (br (decide ((0 : Int) ≤ 0 ∧ (0 : Int) < ((z34 : Nat) : Int)))
       (need False (z32)[(z33 + 0)]? fun y36 =>
        need False (y36)[0]? fun y37 =>
         br (roomB ((List.length s30) + 1) 16)
          (l20r19v2
           (fun z38 z39 z40 z41 z42 z43 => br (decide ((0 : Int) ≤ 0 ∧ (0 : Int) < ((z40 : Nat) : Int)))
            (need False (z42)[(z39 + 0)]? fun y44 =>
             br (roomB ((List.length z43) + 1) 16)
              (c100v2 z39 z40 z41 0 1 z42
               (fun z45 z46 z47 z48 => I2 z38 z45 z46 z47 z48 (z43 ++ [y44]))
               (fun z49 => I1 z38 z49 (z43 ++ [y44])))
              (False /- 61 -/))
            (False /- 41 -/))
           s25 y37 ((z34 : Nat) : Int) 0 z33 z34 z35 z32 (s30 ++ [[s25, y37]]))
          (False /- 61 -/))
       (False /- 41 -/))
      (br (decide ((0 : Int) ≤ z31 ∧ (z31 : Int) < ((z34 : Nat) : Int)))
       (need False (z32)[(z33 + (Int.toNat z31))]? fun y50 =>
        br (roomB ((List.length s30) + 1) 16)
         (c100v2 z33 z34 z35 z31 (IntKind.wrap .i64 (z31 + 1)) z32
          (fun z51 z52 z53 z54 => I2 s25 z51 z52 z53 z54 (s30 ++ [y50]))
          (fun z55 => I1 s25 z55 (s30 ++ [y50])))
         (False /- 61 -/))
       (False /- 41 -/))))
    (k1 s30)) → I2 s25 s26 s27 s28 s29 s30) →
    I1 s1 s2 s3
structure l20r13 (k1 : (List (List Int)) → Prop) (s1 : Int) (s2 : List (List Int)) (s3 : List (List Int)) : Prop where
  of : tl20r13 k1 s1 s2 s3

def tl20r13v2 (k1 : (List (List Int)) → Prop) (s1 : Int) (s2 : Nat) (s3 : Nat) (s4 : Nat) (s5 : List (List Int)) (s6 : List (List Int)) : Prop :=
  ∀ (I1 : Int → Nat → Nat → Nat → (List (List Int)) → (List (List Int)) → Prop) (I2 : Int → (List (List Int)) → (List (List Int)) → Prop),
    (∀ (s1 : Int) (s2 : Nat) (s3 : Nat) (s4 : Nat) (s5 : List (List Int)) (s6 : List (List Int)), (br (decide ((((s3 : Nat) : Int) : Int) > 0))
    (c97v5 s2 s3 s4 s5 s2 s3 s4
     (fun z7 z8 z9 z10 z11 => br (decide ((z7 : Int) < 0))
      (br (decide ((0 : Int) ≤ 0 ∧ (0 : Int) < ((z10 : Nat) : Int)))
       (need False (z8)[(z9 + 0)]? fun y12 =>
        need False (y12)[0]? fun y13 =>
         br (roomB ((List.length s6) + 1) 16)
          (l20r19v2
           (fun z14 z15 z16 z17 z18 z19 => br (decide ((0 : Int) ≤ 0 ∧ (0 : Int) < ((z16 : Nat) : Int)))
            (need False (z18)[(z15 + 0)]? fun y20 =>
             br (roomB ((List.length z19) + 1) 16)
              (c100v2 z15 z16 z17 0 1 z18
               (fun z21 z22 z23 z24 => I1 z14 z21 z22 z23 z24 (z19 ++ [y20]))
               (fun z25 => I2 z14 z25 (z19 ++ [y20])))
              (False /- 61 -/))
            (False /- 41 -/))
           s1 y13 ((z10 : Nat) : Int) 0 z9 z10 z11 z8 (s6 ++ [[s1, y13]]))
          (False /- 61 -/))
       (False /- 41 -/))
      (br (decide ((0 : Int) ≤ z7 ∧ (z7 : Int) < ((z10 : Nat) : Int)))
       (need False (z8)[(z9 + (Int.toNat z7))]? fun y26 =>
        br (roomB ((List.length s6) + 1) 16)
         (c100v2 z9 z10 z11 z7 (IntKind.wrap .i64 (z7 + 1)) z8
          (fun z27 z28 z29 z30 => I1 s1 z27 z28 z29 z30 (s6 ++ [y26]))
          (fun z31 => I2 s1 z31 (s6 ++ [y26])))
         (False /- 61 -/))
       (False /- 41 -/))))
    (k1 s6)) → I1 s1 s2 s3 s4 s5 s6) →
    (∀ (s32 : Int) (s33 : List (List Int)) (s34 : List (List Int)), (br (decide (((((List.length s33) : Nat) : Int) : Int) > 0))
    (c97v3 s33
     (fun z35 z36 => br (decide ((z35 : Int) < 0))
      (br (decide ((0 : Int) ≤ 0 ∧ (0 : Int) < (((List.length z36) : Nat) : Int)))
       (need False (z36)[0]? fun y37 =>
        need False (y37)[0]? fun y38 =>
         br (roomB ((List.length s34) + 1) 16)
          (l20r19
           (fun z39 z40 z41 => br (decide ((0 : Int) ≤ 0 ∧ (0 : Int) < (((List.length z40) : Nat) : Int)))
            (need False (z40)[0]? fun y42 =>
             br (roomB ((List.length z41) + 1) 16)
              (c100 0 1 z40
               (fun z43 => I2 z39 z43 (z41 ++ [y42]))
               (fun z44 z45 z46 z47 => I1 z39 z44 z45 z46 z47 (z41 ++ [y42]))
               (fun z48 => I2 z39 z48 (z41 ++ [y42])))
              (False /- 61 -/))
            (False /- 39 -/))
           s32 y38 (((List.length z36) : Nat) : Int) 0 z36 (s34 ++ [[s32, y38]]))
          (False /- 61 -/))
       (False /- 39 -/))
      (br (decide ((0 : Int) ≤ z35 ∧ (z35 : Int) < (((List.length z36) : Nat) : Int)))
       (need False (z36)[(Int.toNat z35)]? fun y49 =>
        br (roomB ((List.length s34) + 1) 16)
         (c100 z35 (IntKind.wrap .i64 (z35 + 1)) z36
          (fun z50 => I2 s32 z50 (s34 ++ [y49]))
          (fun z51 z52 z53 z54 => I1 s32 z51 z52 z53 z54 (s34 ++ [y49]))
          (fun z55 => I2 s32 z55 (s34 ++ [y49])))
         (False /- 61 -/))
       (False /- 39 -/))))
    (k1 s34)) → I2 s32 s33 s34) →
    I1 s1 s2 s3 s4 s5 s6
structure l20r13v2 (k1 : (List (List Int)) → Prop) (s1 : Int) (s2 : Nat) (s3 : Nat) (s4 : Nat) (s5 : List (List Int)) (s6 : List (List Int)) : Prop where
  of : tl20r13v2 k1 s1 s2 s3 s4 s5 s6

def tc20 (x1 : List (List Int)) (x2 : Int) (k1 : Int → (List (List Int)) → Prop) : Prop :=
  l20r2
  (fun z3 z4 => k1 z3 z4)
  (fun z5 z6 => c95 z5
   (fun z7 => c94 z7
    (fun z8 => l20r13
     (fun z9 => k1 0 z9)
     z6 z8 [])
    (fun z10 z11 z12 z13 => l20r13v2
     (fun z14 => k1 0 z14)
     z6 z10 z11 z12 z13 [])))
  x1 x2 x1 (((List.length x1) : Nat) : Int) 0
structure c20 (x1 : List (List Int)) (x2 : Int) (k1 : Int → (List (List Int)) → Prop) : Prop where
  of : tc20 x1 x2 k1

def tj4r17 (k1 : Bool → Int → (List (List Int)) → Prop) (k2 : (List (List Int)) → Int → Int → (List (List Int)) → Int → Int → (List (List Int)) → (List Int) → Prop) (s1 : List (List Int)) (s2 : Int) (s3 : Int) (s4 : Int) (s5 : List (List Int)) (s6 : Int) (s7 : Int) (s8 : List (List Int)) (s9 : List Int) (s10 : List Int) : Prop :=
  br ((s4 : Int) != 0)
  (br ((s3 : Int) == s4)
   (k1 (((((List.length s8) : Nat) : Int) : Int) == 0) s3 s8)
   (k1 false s3 s8))
  (need False (s10)[0]? fun y11 =>
   br (roomB ((List.length s9) + 1) 8)
    (k2 s1 s2 s3 s5 s6 s7 s8 (s9 ++ [y11]))
    (False /- 61 -/))
structure j4r17 (k1 : Bool → Int → (List (List Int)) → Prop) (k2 : (List (List Int)) → Int → Int → (List (List Int)) → Int → Int → (List (List Int)) → (List Int) → Prop) (s1 : List (List Int)) (s2 : Int) (s3 : Int) (s4 : Int) (s5 : List (List Int)) (s6 : Int) (s7 : Int) (s8 : List (List Int)) (s9 : List Int) (s10 : List Int) : Prop where
  of : tj4r17 k1 k2 s1 s2 s3 s4 s5 s6 s7 s8 s9 s10

def tl21r2 (k1 : Bool → Prop) (k2 : Prop) (s1 : Int) (s2 : List Int) (s3 : Int) (s4 : Int) : Prop :=
  ∀ (I1 : Int → (List Int) → Int → Int → Prop),
    (∀ (s1 : Int) (s2 : List Int) (s3 : Int) (s4 : Int), (br (decide ((s4 : Int) < s3))
    (need False (at? s2 s4) fun y5 =>
     br ((y5 : Int) == s1)
      (k1 true)
      (I1 s1 s2 s3 (IntKind.wrap .i64 (s4 + 1))))
    (k2)) → I1 s1 s2 s3 s4) →
    I1 s1 s2 s3 s4
structure l21r2 (k1 : Bool → Prop) (k2 : Prop) (s1 : Int) (s2 : List Int) (s3 : Int) (s4 : Int) : Prop where
  of : tl21r2 k1 k2 s1 s2 s3 s4

def tc21 (x1 : List Int) (x2 : Int) (k1 : Bool → Prop) : Prop :=
  l21r2
  (fun z3 => k1 z3)
  (k1 false)
  x2 x1 (((List.length x1) : Nat) : Int) 0
structure c21 (x1 : List Int) (x2 : Int) (k1 : Bool → Prop) : Prop where
  of : tc21 x1 x2 k1

def tl4r8 (k1 : Bool → Int → (List (List Int)) → Prop) (k2 : (List (List Int)) → Int → Int → (List (List Int)) → (List Int) → Prop) (s1 : List (List Int)) (s2 : Int) (s3 : Int) (s4 : List (List Int)) (s5 : Int) (s6 : Int) (s7 : List (List Int)) (s8 : List Int) : Prop :=
  ∀ (I1 : (List (List Int)) → Int → Int → (List (List Int)) → Int → Int → (List (List Int)) → (List Int) → Prop),
    (∀ (s1 : List (List Int)) (s2 : Int) (s3 : Int) (s4 : List (List Int)) (s5 : Int) (s6 : Int) (s7 : List (List Int)) (s8 : List Int), (br (decide ((s6 : Int) < s5))
    (need False (at? s4 s6) fun y9 =>
     need False (y9)[0]? fun y10 =>
      br (decide ((y10 : Int) < 0))
       (j4r17
        (fun z11 z12 z13 => k1 z11 z12 z13)
        (fun z14 z15 z16 z17 z18 z19 z20 z21 => I1 z14 z15 z16 z17 z18 (IntKind.wrap .i64 (z19 + 1)) z20 z21)
        s1 s2 s3 4 s4 s5 s6 s7 s8 y9)
       (need False (y9)[1]? fun y22 =>
        br (decide ((y22 : Int) < 0))
         (j4r17
          (fun z23 z24 z25 => k1 z23 z24 z25)
          (fun z26 z27 z28 z29 z30 z31 z32 z33 => I1 z26 z27 z28 z29 z30 (IntKind.wrap .i64 (z31 + 1)) z32 z33)
          s1 s2 s3 4 s4 s5 s6 s7 s8 y9)
         (need False (y9)[0]? fun y34 =>
          c21 s8 y34
           (fun z35 => br (z35)
            (j4r17
             (fun z36 z37 z38 => k1 z36 z37 z38)
             (fun z39 z40 z41 z42 z43 z44 z45 z46 => I1 z39 z40 z41 z42 z43 (IntKind.wrap .i64 (z44 + 1)) z45 z46)
             s1 s2 s3 7 s4 s5 s6 s7 s8 y9)
            (need False (y9)[0]? fun y47 =>
             br ((y47 : Int) == s2)
              (j4r17
               (fun z48 z49 z50 => k1 z48 z49 z50)
               (fun z51 z52 z53 z54 z55 z56 z57 z58 => I1 z51 z52 z53 z54 z55 (IntKind.wrap .i64 (z56 + 1)) z57 z58)
               s1 s2 s3 1 s4 s5 s6 s7 s8 y9)
              (need False (y9)[1]? fun y59 =>
               br ((y59 : Int) == s2)
                (j4r17
                 (fun z60 z61 z62 => k1 z60 z61 z62)
                 (fun z63 z64 z65 z66 z67 z68 z69 z70 => I1 z63 z64 z65 z66 z67 (IntKind.wrap .i64 (z68 + 1)) z69 z70)
                 s1 s2 s3 1 s4 s5 s6 s7 s8 y9)
                (j4r17
                 (fun z71 z72 z73 => k1 z71 z72 z73)
                 (fun z74 z75 z76 z77 z78 z79 z80 z81 => I1 z74 z75 z76 z77 z78 (IntKind.wrap .i64 (z79 + 1)) z80 z81)
                 s1 s2 s3 0 s4 s5 s6 s7 s8 y9)))))))
    (k2 s1 s2 s3 s7 s8)) → I1 s1 s2 s3 s4 s5 s6 s7 s8) →
    I1 s1 s2 s3 s4 s5 s6 s7 s8
structure l4r8 (k1 : Bool → Int → (List (List Int)) → Prop) (k2 : (List (List Int)) → Int → Int → (List (List Int)) → (List Int) → Prop) (s1 : List (List Int)) (s2 : Int) (s3 : Int) (s4 : List (List Int)) (s5 : Int) (s6 : Int) (s7 : List (List Int)) (s8 : List Int) : Prop where
  of : tl4r8 k1 k2 s1 s2 s3 s4 s5 s6 s7 s8

def tl22r2 (k1 : Int → (List Int) → (List Int) → Prop) (k2 : Int → (List Int) → (List Int) → Prop) (s1 : Int) (s2 : Int) (s3 : Int) (s4 : List Int) (s5 : List Int) : Prop :=
  ∀ (I1 : Int → Int → Int → (List Int) → (List Int) → Prop),
    (∀ (s1 : Int) (s2 : Int) (s3 : Int) (s4 : List Int) (s5 : List Int), (br (decide ((s3 : Int) < s2))
    (br (decide ((0 : Int) ≤ s3 ∧ (s3 : Int) < (((List.length s4) : Nat) : Int)))
     (need False (s4)[(Int.toNat s3)]? fun y6 =>
      br ((y6 : Int) == s1)
       (k1 s3 s4 s5)
       (I1 s1 s2 (IntKind.wrap .i64 (s3 + 1)) s4 s5))
     (False /- 39 -/))
    (k2 s1 s4 s5)) → I1 s1 s2 s3 s4 s5) →
    I1 s1 s2 s3 s4 s5
structure l22r2 (k1 : Int → (List Int) → (List Int) → Prop) (k2 : Int → (List Int) → (List Int) → Prop) (s1 : Int) (s2 : Int) (s3 : Int) (s4 : List Int) (s5 : List Int) : Prop where
  of : tl22r2 k1 k2 s1 s2 s3 s4 s5

def tc22 (x1 : Int) (x2 : List Int) (x3 : List Int) (k1 : Int → (List Int) → (List Int) → Prop) (k2 : Int → (List Int) → (List Int) → Prop) : Prop :=
  l22r2
  (fun z4 z5 z6 => k1 z4 z5 z6)
  (fun z7 z8 z9 => (br (eqT (.int .i64) z7 z7)
    ((br (roomB ((List.length z8) + 1) 8)
      (br (eqT (.int .i64) z7 z7)
       (br (roomB ((List.length z9) + 1) 8)
        (k2 (IntKind.wrap .i64 ((((List.length (z8 ++ [z7])) : Nat) : Int) - 1)) (z8 ++ [z7]) (z9 ++ [z7]))
        (False /- 61 -/))
       (False /- 942 -/))
      (False /- 61 -/)) ∧
     (br (roomB ((List.length z8) + 1) 8)
      (br (roomB ((List.length z9) + 1) 8)
       (k2 (IntKind.wrap .i64 ((((List.length (z8 ++ [z7])) : Nat) : Int) - 1)) (z8 ++ [z7]) (z9 ++ [z7]))
       (False /- 61 -/))
      (False /- 61 -/)))
    (False /- 942 -/)) ∧
   (br (eqT (.int .i64) z7 z7)
    (br (roomB ((List.length z8) + 1) 8)
     (br (roomB ((List.length z9) + 1) 8)
      (k2 (IntKind.wrap .i64 ((((List.length (z8 ++ [z7])) : Nat) : Int) - 1)) (z8 ++ [z7]) (z9 ++ [z7]))
      (False /- 61 -/))
     (False /- 61 -/))
    (False /- 942 -/)))
  x1 (((List.length x2) : Nat) : Int) 0 x2 x3
structure c22 (x1 : Int) (x2 : List Int) (x3 : List Int) (k1 : Int → (List Int) → (List Int) → Prop) (k2 : Int → (List Int) → (List Int) → Prop) : Prop where
  of : tc22 x1 x2 x3 k1 k2

def tl4r24 (k1 : (List (List Int)) → Int → Int → (List Int) → (List Int) → (List Int) → Prop) (s1 : List (List Int)) (s2 : Int) (s3 : Int) (s4 : Int) (s5 : Int) (s6 : List Int) (s7 : List Int) (s8 : List Int) (s9 : List (List Int)) : Prop :=
  ∀ (I1 : (List (List Int)) → Int → Int → Int → Int → (List Int) → (List Int) → (List Int) → (List (List Int)) → Prop),
    (∀ (s1 : List (List Int)) (s2 : Int) (s3 : Int) (s4 : Int) (s5 : Int) (s6 : List Int) (s7 : List Int) (s8 : List Int) (s9 : List (List Int)), (br (decide ((s5 : Int) < s4))
    (br (decide ((0 : Int) ≤ s5 ∧ (s5 : Int) < (((List.length s9) : Nat) : Int)))
     (need False (s9)[(Int.toNat s5)]? fun y10 =>
      need False (y10)[0]? fun y11 =>
       c22 y11 s7 s8
        (fun z12 z13 z14 => need False (y10)[1]? fun y15 =>
         c22 y15 z13 z14
          (fun z16 z17 z18 => br (decide ((0 : Int) ≤ z16 ∧ (z16 : Int) < (((List.length z18) : Nat) : Int)))
           (need False (z18)[(Int.toNat z16)]? fun y19 =>
            br (decide ((0 : Int) ≤ z12 ∧ (z12 : Int) < (((List.length z18) : Nat) : Int)))
             (need False (z18)[(Int.toNat z12)]? fun y20 =>
              I1 s1 s2 s3 s4 (IntKind.wrap .i64 (s5 + 1)) s6 z17 (List.set z18 (Int.toNat z12) y19) s9)
             (False /- 39 -/))
           (False /- 39 -/))
          (fun z21 z22 z23 => br (decide ((0 : Int) ≤ z21 ∧ (z21 : Int) < (((List.length z23) : Nat) : Int)))
           (need False (z23)[(Int.toNat z21)]? fun y24 =>
            br (decide ((0 : Int) ≤ z12 ∧ (z12 : Int) < (((List.length z23) : Nat) : Int)))
             (need False (z23)[(Int.toNat z12)]? fun y25 =>
              I1 s1 s2 s3 s4 (IntKind.wrap .i64 (s5 + 1)) s6 z22 (List.set z23 (Int.toNat z12) y24) s9)
             (False /- 39 -/))
           (False /- 39 -/)))
        (fun z26 z27 z28 => need False (y10)[1]? fun y29 =>
         c22 y29 z27 z28
          (fun z30 z31 z32 => br (decide ((0 : Int) ≤ z30 ∧ (z30 : Int) < (((List.length z32) : Nat) : Int)))
           (need False (z32)[(Int.toNat z30)]? fun y33 =>
            br (decide ((0 : Int) ≤ z26 ∧ (z26 : Int) < (((List.length z32) : Nat) : Int)))
             (need False (z32)[(Int.toNat z26)]? fun y34 =>
              I1 s1 s2 s3 s4 (IntKind.wrap .i64 (s5 + 1)) s6 z31 (List.set z32 (Int.toNat z26) y33) s9)
             (False /- 39 -/))
           (False /- 39 -/))
          (fun z35 z36 z37 => br (decide ((0 : Int) ≤ z35 ∧ (z35 : Int) < (((List.length z37) : Nat) : Int)))
           (need False (z37)[(Int.toNat z35)]? fun y38 =>
            br (decide ((0 : Int) ≤ z26 ∧ (z26 : Int) < (((List.length z37) : Nat) : Int)))
             (need False (z37)[(Int.toNat z26)]? fun y39 =>
              I1 s1 s2 s3 s4 (IntKind.wrap .i64 (s5 + 1)) s6 z36 (List.set z37 (Int.toNat z26) y38) s9)
             (False /- 39 -/))
           (False /- 39 -/))))
     (False /- 39 -/))
    (k1 s1 s2 s3 s6 s7 s8)) → I1 s1 s2 s3 s4 s5 s6 s7 s8 s9) →
    I1 s1 s2 s3 s4 s5 s6 s7 s8 s9
structure l4r24 (k1 : (List (List Int)) → Int → Int → (List Int) → (List Int) → (List Int) → Prop) (s1 : List (List Int)) (s2 : Int) (s3 : Int) (s4 : Int) (s5 : Int) (s6 : List Int) (s7 : List Int) (s8 : List Int) (s9 : List (List Int)) : Prop where
  of : tl4r24 k1 s1 s2 s3 s4 s5 s6 s7 s8 s9

def tl4r31 (k1 : Bool → Prop) (k2 : Int → Int → (List Int) → (List Int) → (List Int) → Prop) (s1 : Int) (s2 : Int) (s3 : List (List Int)) (s4 : Int) (s5 : Int) (s6 : List Int) (s7 : List Int) (s8 : List Int) : Prop :=
  ∀ (I1 : Int → Int → (List (List Int)) → Int → Int → (List Int) → (List Int) → (List Int) → Prop),
    (∀ (s1 : Int) (s2 : Int) (s3 : List (List Int)) (s4 : Int) (s5 : Int) (s6 : List Int) (s7 : List Int) (s8 : List Int), (br (decide ((s5 : Int) < s4))
    (need False (at? s3 s5) fun y9 =>
     need False (y9)[0]? fun y10 =>
      c22 y10 s7 s8
       (fun z11 z12 z13 => br (decide ((0 : Int) ≤ z11 ∧ (z11 : Int) < (((List.length z13) : Nat) : Int)))
        (need False (z13)[(Int.toNat z11)]? fun y14 =>
         need False (y9)[1]? fun y15 =>
          br ((y14 : Int) != y15)
           (k1 false)
           (I1 s1 s2 s3 s4 (IntKind.wrap .i64 (s5 + 1)) s6 z12 z13))
        (False /- 39 -/))
       (fun z16 z17 z18 => br (decide ((0 : Int) ≤ z16 ∧ (z16 : Int) < (((List.length z18) : Nat) : Int)))
        (need False (z18)[(Int.toNat z16)]? fun y19 =>
         need False (y9)[1]? fun y20 =>
          br ((y19 : Int) != y20)
           (k1 false)
           (I1 s1 s2 s3 s4 (IntKind.wrap .i64 (s5 + 1)) s6 z17 z18))
        (False /- 39 -/)))
    (k2 s1 s2 s6 s7 s8)) → I1 s1 s2 s3 s4 s5 s6 s7 s8) →
    I1 s1 s2 s3 s4 s5 s6 s7 s8
structure l4r31 (k1 : Bool → Prop) (k2 : Int → Int → (List Int) → (List Int) → (List Int) → Prop) (s1 : Int) (s2 : Int) (s3 : List (List Int)) (s4 : Int) (s5 : Int) (s6 : List Int) (s7 : List Int) (s8 : List Int) : Prop where
  of : tl4r31 k1 k2 s1 s2 s3 s4 s5 s6 s7 s8

def tl4r38 (k1 : Bool → Prop) (k2 : Int → Prop) (s1 : Int) (s2 : Int) (s3 : Int) (s4 : Int) (s5 : List Int) (s6 : List Int) (s7 : List Int) : Prop :=
  ∀ (I1 : Int → Int → Int → Int → (List Int) → (List Int) → (List Int) → Prop),
    (∀ (s1 : Int) (s2 : Int) (s3 : Int) (s4 : Int) (s5 : List Int) (s6 : List Int) (s7 : List Int), (br (decide ((s4 : Int) < s3))
    (br (decide ((0 : Int) ≤ s4 ∧ (s4 : Int) < (((List.length s7) : Nat) : Int)))
     (need False (s7)[(Int.toNat s4)]? fun y8 =>
      br ((y8 : Int) != s1)
       (c21 s5 y8
        (fun z9 => br (!z9)
         (br (decide ((0 : Int) ≤ s4 ∧ (s4 : Int) < (((List.length s6) : Nat) : Int)))
          (need False (s6)[(Int.toNat s4)]? fun y10 =>
           br ((y10 : Int) != y8)
            (k1 false)
            (I1 s1 s2 s3 (IntKind.wrap .i64 (s4 + 1)) s5 s6 s7))
          (False /- 39 -/))
         (I1 s1 s2 s3 (IntKind.wrap .i64 (s4 + 1)) s5 s6 s7)))
       (I1 s1 s2 s3 (IntKind.wrap .i64 (s4 + 1)) s5 s6 s7))
     (False /- 39 -/))
    (k2 s2)) → I1 s1 s2 s3 s4 s5 s6 s7) →
    I1 s1 s2 s3 s4 s5 s6 s7
structure l4r38 (k1 : Bool → Prop) (k2 : Int → Prop) (s1 : Int) (s2 : Int) (s3 : Int) (s4 : Int) (s5 : List Int) (s6 : List Int) (s7 : List Int) : Prop where
  of : tl4r38 k1 k2 s1 s2 s3 s4 s5 s6 s7

def tc4 (x1 : List (List Int)) (x2 : Int) (k1 : Bool → Prop) : Prop :=
  br (decide ((0 : Int) ≤ 0 ∧ (0 : Int) ≤ (minI (((List.length x1) : Nat) : Int) 40) ∧ ((minI (((List.length x1) : Nat) : Int) 40) : Int) ≤ (((List.length x1) : Nat) : Int)))
  (c20 [[1, 2], [2, 1]] 9
   (fun z3 z4 => br ((z3 : Int) != 0)
    (k1 false)
    (br (((((List.length z4) : Nat) : Int) : Int) != 3)
     (k1 false)
     (br (decide ((0 : Int) ≤ 0 ∧ (0 : Int) < (((List.length z4) : Nat) : Int)))
      (need False (z4)[0]? fun y5 =>
       br (!(eqT (.arr 2 (.int .i64)) y5 ([9, 1] : List Int)))
        (k1 false)
        (br (decide ((0 : Int) ≤ 1 ∧ (1 : Int) < (((List.length z4) : Nat) : Int)))
         (need False (z4)[1]? fun y6 =>
          br (!(eqT (.arr 2 (.int .i64)) y6 ([1, 2] : List Int)))
           (k1 false)
           (br (decide ((0 : Int) ≤ 2 ∧ (2 : Int) < (((List.length z4) : Nat) : Int)))
            (need False (z4)[2]? fun y7 =>
             br (!(eqT (.arr 2 (.int .i64)) y7 ([2, 9] : List Int)))
              (k1 false)
              (c20 (List.drop 0 (List.take (Int.toNat (minI (((List.length x1) : Nat) : Int) 40)) x1)) x2
               (fun z8 z9 => l4r8
                (fun z10 z11 z12 => k1 z10)
                (fun z13 z14 z15 z16 z17 => l4r24
                 (fun z18 z19 z20 z21 z22 z23 => l4r31
                  (fun z24 => k1 z24)
                  (fun z25 z26 z27 z28 z29 => l4r38
                   (fun z30 => k1 z30)
                   (fun z31 => k1 ((z31 : Int) == 0))
                   z25 z26 (((List.length z28) : Nat) : Int) 0 z27 z29 z28)
                  z19 z20 z18 (((List.length z18) : Nat) : Int) 0 z21 z22 z23)
                 z13 z14 z15 (((List.length z16) : Nat) : Int) 0 z17 [] [] z16)
                (List.drop 0 (List.take (Int.toNat (minI (((List.length x1) : Nat) : Int) 40)) x1)) x2 z8 (List.drop 0 (List.take (Int.toNat (minI (((List.length x1) : Nat) : Int) 40)) x1)) (((List.length (List.drop 0 (List.take (Int.toNat (minI (((List.length x1) : Nat) : Int) 40)) x1))) : Nat) : Int) 0 z9 [])))
            (False /- 39 -/)))
         (False /- 39 -/)))
      (False /- 39 -/)))))
  (False /- 79 -/)
structure c4 (x1 : List (List Int)) (x2 : Int) (k1 : Bool → Prop) : Prop where
  of : tc4 x1 x2 k1

end Go.Proofs.Ytfdoaacapkopmaa
