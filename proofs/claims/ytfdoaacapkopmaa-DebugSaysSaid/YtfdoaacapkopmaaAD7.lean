/- What the functions compute, as plain Lean (printed by a program). -/
import Derived.Test.YtfdoaacapkopmaaATypT
namespace Go.Proofs.Ytfdoaacapkopmaa
open Go.Abs
set_option linter.unusedVariables false
def tl39r5 (k1 : Int → Prop) (k2 : Prop) (s1 : Int) (s2 : List (Int × Int × Int × (List ((List UInt8) × Int × Int × Unit)) × Unit)) (s3 : Int) (s4 : Int) (s5 : (List Int) × Int × (List Int) × (List (Int × Int × (List Int) × Int × Unit)) × (List (Int × Int × Int × (List ((List UInt8) × Int × Int × Unit)) × Unit)) × Unit) : Prop :=
  ∀ (I1 : Int → (List (Int × Int × Int × (List ((List UInt8) × Int × Int × Unit)) × Unit)) → Int → Int → ((List Int) × Int × (List Int) × (List (Int × Int × (List Int) × Int × Unit)) × (List (Int × Int × Int × (List ((List UInt8) × Int × Int × Unit)) × Unit)) × Unit) → Prop),
    (∀ (s1 : Int) (s2 : List (Int × Int × Int × (List ((List UInt8) × Int × Int × Unit)) × Unit)) (s3 : Int) (s4 : Int) (s5 : (List Int) × Int × (List Int) × (List (Int × Int × (List Int) × Int × Unit)) × (List (Int × Int × Int × (List ((List UInt8) × Int × Int × Unit)) × Unit)) × Unit), (br (decide ((s4 : Int) < s3))
    (need False (at? s2 s4) fun y6 =>
     br (decide ((y6.1 : Int) < 0))
      (k1 4)
      (br (decide ((y6.1 : Int) ≥ (((List.length s5.1) : Nat) : Int)))
       (k1 4)
       (br (decide ((y6.2.1 : Int) < 0))
        (k1 4)
        (br (decide ((y6.2.1 : Int) ≥ (((List.length s5.2.2.1) : Nat) : Int)))
         (k1 4)
         (br (decide ((y6.2.2.1 : Int) < 0))
          (k1 4)
          (br (decide ((y6.1 : Int) < s1))
           (k1 3)
           (I1 y6.1 s2 s3 (IntKind.wrap .i64 (s4 + 1)) s5)))))))
    (k2)) → I1 s1 s2 s3 s4 s5) →
    I1 s1 s2 s3 s4 s5
structure l39r5 (k1 : Int → Prop) (k2 : Prop) (s1 : Int) (s2 : List (Int × Int × Int × (List ((List UInt8) × Int × Int × Unit)) × Unit)) (s3 : Int) (s4 : Int) (s5 : (List Int) × Int × (List Int) × (List (Int × Int × (List Int) × Int × Unit)) × (List (Int × Int × Int × (List ((List UInt8) × Int × Int × Unit)) × Unit)) × Unit) : Prop where
  of : tl39r5 k1 k2 s1 s2 s3 s4 s5

def tc39 (x1 : (List Int) × Int × (List Int) × (List (Int × Int × (List Int) × Int × Unit)) × (List (Int × Int × Int × (List ((List UInt8) × Int × Int × Unit)) × Unit)) × Unit) (k1 : Int → Prop) : Prop :=
  br (decide (((((List.length x1.2.2.2.2.1) : Nat) : Int) : Int) > 16384))
  (k1 2)
  (l39r5
   (fun z2 => k1 z2)
   (k1 0)
   (-1) x1.2.2.2.2.1 (((List.length x1.2.2.2.2.1) : Nat) : Int) 0 x1)
structure c39 (x1 : (List Int) × Int × (List Int) × (List (Int × Int × (List Int) × Int × Unit)) × (List (Int × Int × Int × (List ((List UInt8) × Int × Int × Unit)) × Unit)) × Unit) (k1 : Int → Prop) : Prop where
  of : tc39 x1 k1

def tc165 (x1 : Int) (k1 : Bool → Prop) : Prop :=
  k1 ((x1 : Int) != x1)
structure c165 (x1 : Int) (k1 : Bool → Prop) : Prop where
  of : tc165 x1 k1

def tc158 (x1 : Int) (x2 : Int) (k1 : Bool → Prop) : Prop :=
  c165 x1
  (fun z3 => br (z3)
   (c165 x2
    (fun z4 => br (!z4)
     (k1 true)
     (k1 (decide ((x1 : Int) < x2)))))
   (k1 (decide ((x1 : Int) < x2))))
structure c158 (x1 : Int) (x2 : Int) (k1 : Bool → Prop) : Prop where
  of : tc158 x1 x2 k1

def tl135r3 (k1 : (List Int) → Int → Int → Int → Prop) (s1 : List Int) (s2 : Int) (s3 : Int) (s4 : Int) (s5 : Int) : Prop :=
  ∀ (I1 : (List Int) → Int → Int → Int → Int → Prop),
    (∀ (s1 : List Int) (s2 : Int) (s3 : Int) (s4 : Int) (s5 : Int), (br (decide ((s4 : Int) < s5))
    (need False (at? s1 (IntKind.wrap .i64 (shrI .u64 (IntKind.wrap .u64 (IntKind.wrap .i64 (s4 + s5))) 1))) fun y6 =>
     c158 y6 s2
      (fun z7 => br (z7)
       (I1 s1 s2 s3 (IntKind.wrap .i64 ((IntKind.wrap .i64 (shrI .u64 (IntKind.wrap .u64 (IntKind.wrap .i64 (s4 + s5))) 1)) + 1)) s5)
       (I1 s1 s2 s3 s4 (IntKind.wrap .i64 (shrI .u64 (IntKind.wrap .u64 (IntKind.wrap .i64 (s4 + s5))) 1)))))
    (k1 s1 s2 s3 s4)) → I1 s1 s2 s3 s4 s5) →
    I1 s1 s2 s3 s4 s5
structure l135r3 (k1 : (List Int) → Int → Int → Int → Prop) (s1 : List Int) (s2 : Int) (s3 : Int) (s4 : Int) (s5 : Int) : Prop where
  of : tl135r3 k1 s1 s2 s3 s4 s5

def tc159 (x1 : Int) (k1 : Bool → Prop) : Prop :=
  k1 ((x1 : Int) != x1)
structure c159 (x1 : Int) (k1 : Bool → Prop) : Prop where
  of : tc159 x1 k1

def tc135 (x1 : List Int) (x2 : Int) (k1 : Int → Bool → Prop) : Prop :=
  l135r3
  (fun z3 z4 z5 z6 => br (decide ((z6 : Int) < z5))
   (need False (at? z3 z6) fun y7 =>
    br ((y7 : Int) == z4)
     (k1 z6 true)
     (need False (at? z3 z6) fun y8 =>
      c159 y8
       (fun z9 => br (z9)
        (c159 z4
         (fun z10 => k1 z6 z10))
        (k1 z6 false))))
   (k1 z6 false))
  x1 x2 (((List.length x1) : Nat) : Int) 0 (((List.length x1) : Nat) : Int)
structure c135 (x1 : List Int) (x2 : Int) (k1 : Int → Bool → Prop) : Prop where
  of : tc135 x1 x2 k1

def tc110 (x1 : (List Int) × Int × (List Int) × (List (Int × Int × (List Int) × Int × Unit)) × (List (Int × Int × Int × (List ((List UInt8) × Int × Int × Unit)) × Unit)) × Unit) (x2 : Int) (k1 : Int → Prop) : Prop :=
  br (decide ((x2 : Int) < 0))
  (k1 (-1))
  (br (decide ((x2 : Int) ≥ (((List.length x1.1) : Nat) : Int)))
   (k1 (-1))
   (c135 x1.2.2.1 x2
    (fun z3 z4 => br (z4)
     (k1 z3)
     (k1 (IntKind.wrap .i64 (z3 - 1))))))
structure c110 (x1 : (List Int) × Int × (List Int) × (List (Int × Int × (List Int) × Int × Unit)) × (List (Int × Int × Int × (List ((List UInt8) × Int × Int × Unit)) × Unit)) × Unit) (x2 : Int) (k1 : Int → Prop) : Prop where
  of : tc110 x1 x2 k1

def tc111 (x1 : List ((List UInt8) × Int × Int × Unit)) (k1 : (List ((List UInt8) × Int × Int × Unit)) → Prop) : Prop :=
  br (List.isEmpty x1)
  ((k1 []) ∧
   (br (List.isEmpty x1)
    (k1 [])
    (br (roomB (0 + (List.length x1)) 32)
     (k1 ([] ++ x1))
     (False /- 61 -/))))
  (br (List.isEmpty x1)
   (k1 [])
   (br (roomB (0 + (List.length x1)) 32)
    (k1 ([] ++ x1))
    (False /- 61 -/)))
structure c111 (x1 : List ((List UInt8) × Int × Int × Unit)) (k1 : (List ((List UInt8) × Int × Int × Unit)) → Prop) : Prop where
  of : tc111 x1 k1

def tl38r9 (k1 : Int → Int → (List ((List UInt8) × Int × Int × Unit)) → Int → Int → (List ((List UInt8) × Int × Int × Unit)) → Prop) (s1 : Int) (s2 : Int) (s3 : List (Int × Int × Int × (List ((List UInt8) × Int × Int × Unit)) × Unit)) (s4 : Int) (s5 : Int) (s6 : (List Int) × Int × (List Int) × (List (Int × Int × (List Int) × Int × Unit)) × (List (Int × Int × Int × (List ((List UInt8) × Int × Int × Unit)) × Unit)) × Unit) (s7 : Int) (s8 : Int) (s9 : List ((List UInt8) × Int × Int × Unit)) (s10 : Int) (s11 : Int) (s12 : List ((List UInt8) × Int × Int × Unit)) : Prop :=
  ∀ (I1 : Int → Int → (List (Int × Int × Int × (List ((List UInt8) × Int × Int × Unit)) × Unit)) → Int → Int → ((List Int) × Int × (List Int) × (List (Int × Int × (List Int) × Int × Unit)) × (List (Int × Int × Int × (List ((List UInt8) × Int × Int × Unit)) × Unit)) × Unit) → Int → Int → (List ((List UInt8) × Int × Int × Unit)) → Int → Int → (List ((List UInt8) × Int × Int × Unit)) → Prop),
    (∀ (s1 : Int) (s2 : Int) (s3 : List (Int × Int × Int × (List ((List UInt8) × Int × Int × Unit)) × Unit)) (s4 : Int) (s5 : Int) (s6 : (List Int) × Int × (List Int) × (List (Int × Int × (List Int) × Int × Unit)) × (List (Int × Int × Int × (List ((List UInt8) × Int × Int × Unit)) × Unit)) × Unit) (s7 : Int) (s8 : Int) (s9 : List ((List UInt8) × Int × Int × Unit)) (s10 : Int) (s11 : Int) (s12 : List ((List UInt8) × Int × Int × Unit)), (br (decide ((s5 : Int) < s4))
    (need False (at? s3 s5) fun y13 =>
     br (decide ((y13.1 : Int) ≤ s1))
      (need False (at? s6.2.2.1 s2) fun y14 =>
       br (decide ((y13.1 : Int) ≥ y14))
        (br ((y13.2.1 : Int) == s2)
         (c111 y13.2.2.2.1
          (fun z15 => br (eqT (.int .i64) y13.2.2.1 y13.2.2.1)
           (I1 s1 s2 s3 s4 (IntKind.wrap .i64 (s5 + 1)) s6 s7 s8 s9 s10 y13.2.2.1 z15)
           (False /- 942 -/)))
         (I1 s1 s2 s3 s4 (IntKind.wrap .i64 (s5 + 1)) s6 s7 s8 s9 s10 s11 s12))
        (I1 s1 s2 s3 s4 (IntKind.wrap .i64 (s5 + 1)) s6 s7 s8 s9 s10 s11 s12))
      (I1 s1 s2 s3 s4 (IntKind.wrap .i64 (s5 + 1)) s6 s7 s8 s9 s10 s11 s12))
    (k1 s7 s8 s9 s10 s11 s12)) → I1 s1 s2 s3 s4 s5 s6 s7 s8 s9 s10 s11 s12) →
    I1 s1 s2 s3 s4 s5 s6 s7 s8 s9 s10 s11 s12
structure l38r9 (k1 : Int → Int → (List ((List UInt8) × Int × Int × Unit)) → Int → Int → (List ((List UInt8) × Int × Int × Unit)) → Prop) (s1 : Int) (s2 : Int) (s3 : List (Int × Int × Int × (List ((List UInt8) × Int × Int × Unit)) × Unit)) (s4 : Int) (s5 : Int) (s6 : (List Int) × Int × (List Int) × (List (Int × Int × (List Int) × Int × Unit)) × (List (Int × Int × Int × (List ((List UInt8) × Int × Int × Unit)) × Unit)) × Unit) (s7 : Int) (s8 : Int) (s9 : List ((List UInt8) × Int × Int × Unit)) (s10 : Int) (s11 : Int) (s12 : List ((List UInt8) × Int × Int × Unit)) : Prop where
  of : tl38r9 k1 s1 s2 s3 s4 s5 s6 s7 s8 s9 s10 s11 s12

def tc38 (x1 : (List Int) × Int × (List Int) × (List (Int × Int × (List Int) × Int × Unit)) × (List (Int × Int × Int × (List ((List UInt8) × Int × Int × Unit)) × Unit)) × Unit) (x2 : Int) (k1 : Int → Int → Int → (List ((List UInt8) × Int × Int × Unit)) → Prop) : Prop :=
  c39 x1
  (fun z3 => br ((z3 : Int) != 0)
   (k1 0 0 z3 [])
   (c110 x1 x2
    (fun z4 => br (decide ((z4 : Int) < 0))
     (k1 0 0 12 [])
     (l38r9
      (fun z5 z6 z7 z8 z9 z10 => k1 z8 z9 0 z10)
      x2 z4 x1.2.2.2.2.1 (((List.length x1.2.2.2.2.1) : Nat) : Int) 0 x1 0 0 [] z4 0 []))))
structure c38 (x1 : (List Int) × Int × (List Int) × (List (Int × Int × (List Int) × Int × Unit)) × (List (Int × Int × Int × (List ((List UInt8) × Int × Int × Unit)) × Unit)) × Unit) (x2 : Int) (k1 : Int → Int → Int → (List ((List UInt8) × Int × Int × Unit)) → Prop) : Prop where
  of : tc38 x1 x2 k1

def tl7r8 (k1 : Int → Int → Int → Int → (List (Int × Int × Int × (List ((List UInt8) × Int × Int × Unit)) × Unit)) → (List Int) → (List Int) → (List (Int × Int × (List Int) × Int × Unit)) → Int → Int → (List ((List UInt8) × Int × Int × Unit)) → Prop) (s1 : Int) (s2 : Int) (s3 : Int) (s4 : List (Int × Int × Int × (List ((List UInt8) × Int × Int × Unit)) × Unit)) (s5 : Int) (s6 : Int) (s7 : Int) (s8 : List (Int × Int × Int × (List ((List UInt8) × Int × Int × Unit)) × Unit)) (s9 : List Int) (s10 : List Int) (s11 : List (Int × Int × (List Int) × Int × Unit)) (s12 : Int) (s13 : Int) (s14 : List ((List UInt8) × Int × Int × Unit)) : Prop :=
  ∀ (I1 : Int → Int → Int → (List (Int × Int × Int × (List ((List UInt8) × Int × Int × Unit)) × Unit)) → Int → Int → Int → (List (Int × Int × Int × (List ((List UInt8) × Int × Int × Unit)) × Unit)) → (List Int) → (List Int) → (List (Int × Int × (List Int) × Int × Unit)) → Int → Int → (List ((List UInt8) × Int × Int × Unit)) → Prop),
    (∀ (s1 : Int) (s2 : Int) (s3 : Int) (s4 : List (Int × Int × Int × (List ((List UInt8) × Int × Int × Unit)) × Unit)) (s5 : Int) (s6 : Int) (s7 : Int) (s8 : List (Int × Int × Int × (List ((List UInt8) × Int × Int × Unit)) × Unit)) (s9 : List Int) (s10 : List Int) (s11 : List (Int × Int × (List Int) × Int × Unit)) (s12 : Int) (s13 : Int) (s14 : List ((List UInt8) × Int × Int × Unit)), (br (decide ((s6 : Int) < s5))
    (need False (at? s4 s6) fun y15 =>
     br ((s3 : Int) != 0)
      (I1 s1 s2 s3 s4 s5 (IntKind.wrap .i64 (s6 + 1)) s7 s8 s9 s10 s11 s12 s13 s14)
      (br (decide ((y15.1 : Int) < 0))
       (I1 s1 s2 4 s4 s5 (IntKind.wrap .i64 (s6 + 1)) s7 s8 s9 s10 s11 s12 s13 s14)
       (br (decide ((y15.1 : Int) ≥ 40))
        (I1 s1 s2 4 s4 s5 (IntKind.wrap .i64 (s6 + 1)) s7 s8 s9 s10 s11 s12 s13 s14)
        (br (decide ((y15.2.1 : Int) < 0))
         (I1 s1 s2 4 s4 s5 (IntKind.wrap .i64 (s6 + 1)) s7 s8 s9 s10 s11 s12 s13 s14)
         (br (decide ((y15.2.1 : Int) > 2))
          (I1 s1 s2 4 s4 s5 (IntKind.wrap .i64 (s6 + 1)) s7 s8 s9 s10 s11 s12 s13 s14)
          (br (decide ((y15.2.2.1 : Int) < 0))
           (I1 s1 s2 4 s4 s5 (IntKind.wrap .i64 (s6 + 1)) s7 s8 s9 s10 s11 s12 s13 s14)
           (br (decide ((s6 : Int) > 0))
            (need False (at? s8 (IntKind.wrap .i64 (s6 - 1))) fun y16 =>
             br (decide ((y15.1 : Int) < y16.1))
              (I1 s1 s2 3 s4 s5 (IntKind.wrap .i64 (s6 + 1)) s7 s8 s9 s10 s11 s12 s13 s14)
              (I1 s1 s2 s3 s4 s5 (IntKind.wrap .i64 (s6 + 1)) s7 s8 s9 s10 s11 s12 s13 s14))
            (I1 s1 s2 s3 s4 s5 (IntKind.wrap .i64 (s6 + 1)) s7 s8 s9 s10 s11 s12 s13 s14))))))))
    (k1 s1 s2 s3 s7 s8 s9 s10 s11 s12 s13 s14)) → I1 s1 s2 s3 s4 s5 s6 s7 s8 s9 s10 s11 s12 s13 s14) →
    I1 s1 s2 s3 s4 s5 s6 s7 s8 s9 s10 s11 s12 s13 s14
structure l7r8 (k1 : Int → Int → Int → Int → (List (Int × Int × Int × (List ((List UInt8) × Int × Int × Unit)) × Unit)) → (List Int) → (List Int) → (List (Int × Int × (List Int) × Int × Unit)) → Int → Int → (List ((List UInt8) × Int × Int × Unit)) → Prop) (s1 : Int) (s2 : Int) (s3 : Int) (s4 : List (Int × Int × Int × (List ((List UInt8) × Int × Int × Unit)) × Unit)) (s5 : Int) (s6 : Int) (s7 : Int) (s8 : List (Int × Int × Int × (List ((List UInt8) × Int × Int × Unit)) × Unit)) (s9 : List Int) (s10 : List Int) (s11 : List (Int × Int × (List Int) × Int × Unit)) (s12 : Int) (s13 : Int) (s14 : List ((List UInt8) × Int × Int × Unit)) : Prop where
  of : tl7r8 k1 s1 s2 s3 s4 s5 s6 s7 s8 s9 s10 s11 s12 s13 s14

def tc106 (x1 : Int) (x2 : Int) (k1 : Int → Prop) : Prop :=
  br ((x2 : Int) == 0)
  (False /- 16 -/)
  (br (decide (((Int.tmod x1 x2) : Int) < 0))
   (k1 (IntKind.wrap .i64 ((Int.tmod x1 x2) + x2)))
   (k1 (Int.tmod x1 x2)))
structure c106 (x1 : Int) (x2 : Int) (k1 : Int → Prop) : Prop where
  of : tc106 x1 x2 k1

def tc40 (x1 : Int) (x2 : Int) (k1 : Int → Prop) : Prop :=
  c106 x1 x2
  (fun z3 => k1 z3)
structure c40 (x1 : Int) (x2 : Int) (k1 : Int → Prop) : Prop where
  of : tc40 x1 x2 k1

def tl7r21 (k1 : Int → Int → Int → Int → Int → (List (Int × Int × Int × (List ((List UInt8) × Int × Int × Unit)) × Unit)) → (List Int) → (List Int) → (List (Int × Int × (List Int) × Int × Unit)) → Int → Int → (List ((List UInt8) × Int × Int × Unit)) → Prop) (s1 : Int) (s2 : Int) (s3 : Int) (s4 : Int) (s5 : Int) (s6 : Int) (s7 : Int) (s8 : List (Int × Int × Int × (List ((List UInt8) × Int × Int × Unit)) × Unit)) (s9 : List Int) (s10 : List Int) (s11 : List (Int × Int × (List Int) × Int × Unit)) (s12 : Int) (s13 : Int) (s14 : List ((List UInt8) × Int × Int × Unit)) : Prop :=
  ∀ (I1 : Int → Int → Int → Int → Int → Int → Int → (List (Int × Int × Int × (List ((List UInt8) × Int × Int × Unit)) × Unit)) → (List Int) → (List Int) → (List (Int × Int × (List Int) × Int × Unit)) → Int → Int → (List ((List UInt8) × Int × Int × Unit)) → Prop),
    (∀ (s1 : Int) (s2 : Int) (s3 : Int) (s4 : Int) (s5 : Int) (s6 : Int) (s7 : Int) (s8 : List (Int × Int × Int × (List ((List UInt8) × Int × Int × Unit)) × Unit)) (s9 : List Int) (s10 : List Int) (s11 : List (Int × Int × (List Int) × Int × Unit)) (s12 : Int) (s13 : Int) (s14 : List ((List UInt8) × Int × Int × Unit)), (br (decide ((s6 : Int) < s5))
    (br (decide ((0 : Int) ≤ s6 ∧ (s6 : Int) < (((List.length s10) : Nat) : Int)))
     (need False (s10)[(Int.toNat s6)]? fun y15 =>
      br (decide ((s1 : Int) ≥ y15))
       (br (decide ((s1 : Int) < 40))
        (I1 s1 s2 s3 s6 s5 (IntKind.wrap .i64 (s6 + 1)) s7 s8 s9 s10 s11 s12 s13 s14)
        (I1 s1 s2 s3 s4 s5 (IntKind.wrap .i64 (s6 + 1)) s7 s8 s9 s10 s11 s12 s13 s14))
       (I1 s1 s2 s3 s4 s5 (IntKind.wrap .i64 (s6 + 1)) s7 s8 s9 s10 s11 s12 s13 s14))
     (False /- 39 -/))
    (k1 s1 s2 s3 s4 s7 s8 s9 s10 s11 s12 s13 s14)) → I1 s1 s2 s3 s4 s5 s6 s7 s8 s9 s10 s11 s12 s13 s14) →
    I1 s1 s2 s3 s4 s5 s6 s7 s8 s9 s10 s11 s12 s13 s14
structure l7r21 (k1 : Int → Int → Int → Int → Int → (List (Int × Int × Int × (List ((List UInt8) × Int × Int × Unit)) × Unit)) → (List Int) → (List Int) → (List (Int × Int × (List Int) × Int × Unit)) → Int → Int → (List ((List UInt8) × Int × Int × Unit)) → Prop) (s1 : Int) (s2 : Int) (s3 : Int) (s4 : Int) (s5 : Int) (s6 : Int) (s7 : Int) (s8 : List (Int × Int × Int × (List ((List UInt8) × Int × Int × Unit)) × Unit)) (s9 : List Int) (s10 : List Int) (s11 : List (Int × Int × (List Int) × Int × Unit)) (s12 : Int) (s13 : Int) (s14 : List ((List UInt8) × Int × Int × Unit)) : Prop where
  of : tl7r21 k1 s1 s2 s3 s4 s5 s6 s7 s8 s9 s10 s11 s12 s13 s14

def tl41r9 (k1 : (List Int) → Prop) (s1 : Int) (s2 : Int) (s3 : Int) (s4 : List (Int × Int × Int × (List ((List UInt8) × Int × Int × Unit)) × Unit)) (s5 : Int) (s6 : Int) (s7 : List Int) : Prop :=
  ∀ (I1 : Int → Int → Int → (List (Int × Int × Int × (List ((List UInt8) × Int × Int × Unit)) × Unit)) → Int → Int → (List Int) → Prop),
    (∀ (s1 : Int) (s2 : Int) (s3 : Int) (s4 : List (Int × Int × Int × (List ((List UInt8) × Int × Int × Unit)) × Unit)) (s5 : Int) (s6 : Int) (s7 : List Int), (br (decide ((s6 : Int) < s5))
    (need False (at? s4 s6) fun y8 =>
     br ((y8.2.1 : Int) != s1)
      (I1 s1 s2 s3 s4 s5 (IntKind.wrap .i64 (s6 + 1)) s7)
      (br ((y8.2.2.1 : Int) != s3)
       (br ((y8.2.2.1 : Int) == s2)
        (br (roomB ((List.length s7) + 1) 8)
         (I1 s1 s2 y8.2.2.1 s4 s5 (IntKind.wrap .i64 (s6 + 1)) (s7 ++ [y8.1]))
         (False /- 61 -/))
        (I1 s1 s2 y8.2.2.1 s4 s5 (IntKind.wrap .i64 (s6 + 1)) s7))
       (I1 s1 s2 y8.2.2.1 s4 s5 (IntKind.wrap .i64 (s6 + 1)) s7)))
    (k1 s7)) → I1 s1 s2 s3 s4 s5 s6 s7) →
    I1 s1 s2 s3 s4 s5 s6 s7
structure l41r9 (k1 : (List Int) → Prop) (s1 : Int) (s2 : Int) (s3 : Int) (s4 : List (Int × Int × Int × (List ((List UInt8) × Int × Int × Unit)) × Unit)) (s5 : Int) (s6 : Int) (s7 : List Int) : Prop where
  of : tl41r9 k1 s1 s2 s3 s4 s5 s6 s7

def tc41 (x1 : (List Int) × Int × (List Int) × (List (Int × Int × (List Int) × Int × Unit)) × (List (Int × Int × Int × (List ((List UInt8) × Int × Int × Unit)) × Unit)) × Unit) (x2 : Int) (x3 : Int) (k1 : Int → (List Int) → Prop) : Prop :=
  c39 x1
  (fun z4 => br ((z4 : Int) != 0)
   (k1 z4 [])
   (br (decide ((x2 : Int) < 0))
    (k1 12 [])
    (br (decide ((x2 : Int) ≥ (((List.length x1.2.2.1) : Nat) : Int)))
     (k1 12 [])
     (l41r9
      (fun z5 => k1 0 z5)
      x2 x3 0 x1.2.2.2.2.1 (((List.length x1.2.2.2.2.1) : Nat) : Int) 0 []))))
structure c41 (x1 : (List Int) × Int × (List Int) × (List (Int × Int × (List Int) × Int × Unit)) × (List (Int × Int × Int × (List ((List UInt8) × Int × Int × Unit)) × Unit)) × Unit) (x2 : Int) (x3 : Int) (k1 : Int → (List Int) → Prop) : Prop where
  of : tc41 x1 x2 x3 k1

def tj7r39 (k1 : Int → Int → Int → Int → Int → Int → Int → (List (Int × Int × Int × (List ((List UInt8) × Int × Int × Unit)) × Unit)) → Int → Int → Int → (List (Int × Int × Int × (List ((List UInt8) × Int × Int × Unit)) × Unit)) → (List Int) → (List Int) → (List (Int × Int × (List Int) × Int × Unit)) → Int → Int → (List ((List UInt8) × Int × Int × Unit)) → (List Int) → (List Int) → Prop) (s1 : Int) (s2 : Int) (s3 : Int) (s4 : Int) (s5 : Int) (s6 : Int) (s7 : Int) (s8 : List (Int × Int × Int × (List ((List UInt8) × Int × Int × Unit)) × Unit)) (s9 : Int) (s10 : Int) (s11 : Int) (s12 : List (Int × Int × Int × (List ((List UInt8) × Int × Int × Unit)) × Unit)) (s13 : List Int) (s14 : List Int) (s15 : List (Int × Int × (List Int) × Int × Unit)) (s16 : Int) (s17 : Int) (s18 : List ((List UInt8) × Int × Int × Unit)) (s19 : List Int) (s20 : List Int) (s21 : Int × Int × Int × (List ((List UInt8) × Int × Int × Unit)) × Unit) : Prop :=
  br ((s21.2.1 : Int) == s4)
  (br (decide ((s4 : Int) ≥ 0))
   (br (decide ((0 : Int) ≤ s4 ∧ (s4 : Int) < (((List.length s14) : Nat) : Int)))
    (need False (s14)[(Int.toNat s4)]? fun y22 =>
     br (decide ((s21.1 : Int) ≥ y22))
      (br (decide ((s21.1 : Int) ≤ s1))
       (k1 s1 s2 s3 s4 s5 s6 s21.2.2.1 s8 s9 s10 s11 s12 s13 s14 s15 s16 s17 s18 s19 s20)
       (k1 s1 s2 s3 s4 s5 s6 s7 s8 s9 s10 s11 s12 s13 s14 s15 s16 s17 s18 s19 s20))
      (k1 s1 s2 s3 s4 s5 s6 s7 s8 s9 s10 s11 s12 s13 s14 s15 s16 s17 s18 s19 s20))
    (False /- 39 -/))
   (k1 s1 s2 s3 s4 s5 s6 s7 s8 s9 s10 s11 s12 s13 s14 s15 s16 s17 s18 s19 s20))
  (k1 s1 s2 s3 s4 s5 s6 s7 s8 s9 s10 s11 s12 s13 s14 s15 s16 s17 s18 s19 s20)
structure j7r39 (k1 : Int → Int → Int → Int → Int → Int → Int → (List (Int × Int × Int × (List ((List UInt8) × Int × Int × Unit)) × Unit)) → Int → Int → Int → (List (Int × Int × Int × (List ((List UInt8) × Int × Int × Unit)) × Unit)) → (List Int) → (List Int) → (List (Int × Int × (List Int) × Int × Unit)) → Int → Int → (List ((List UInt8) × Int × Int × Unit)) → (List Int) → (List Int) → Prop) (s1 : Int) (s2 : Int) (s3 : Int) (s4 : Int) (s5 : Int) (s6 : Int) (s7 : Int) (s8 : List (Int × Int × Int × (List ((List UInt8) × Int × Int × Unit)) × Unit)) (s9 : Int) (s10 : Int) (s11 : Int) (s12 : List (Int × Int × Int × (List ((List UInt8) × Int × Int × Unit)) × Unit)) (s13 : List Int) (s14 : List Int) (s15 : List (Int × Int × (List Int) × Int × Unit)) (s16 : Int) (s17 : Int) (s18 : List ((List UInt8) × Int × Int × Unit)) (s19 : List Int) (s20 : List Int) (s21 : Int × Int × Int × (List ((List UInt8) × Int × Int × Unit)) × Unit) : Prop where
  of : tj7r39 k1 s1 s2 s3 s4 s5 s6 s7 s8 s9 s10 s11 s12 s13 s14 s15 s16 s17 s18 s19 s20 s21

def tl7r33 (k1 : Int → Int → Int → Int → Int → Int → (List ((List UInt8) × Int × Int × Unit)) → (List Int) → (List Int) → Prop) (s1 : Int) (s2 : Int) (s3 : Int) (s4 : Int) (s5 : Int) (s6 : Int) (s7 : Int) (s8 : List (Int × Int × Int × (List ((List UInt8) × Int × Int × Unit)) × Unit)) (s9 : Int) (s10 : Int) (s11 : Int) (s12 : List (Int × Int × Int × (List ((List UInt8) × Int × Int × Unit)) × Unit)) (s13 : List Int) (s14 : List Int) (s15 : List (Int × Int × (List Int) × Int × Unit)) (s16 : Int) (s17 : Int) (s18 : List ((List UInt8) × Int × Int × Unit)) (s19 : List Int) (s20 : List Int) : Prop :=
  ∀ (I1 : Int → Int → Int → Int → Int → Int → Int → (List (Int × Int × Int × (List ((List UInt8) × Int × Int × Unit)) × Unit)) → Int → Int → Int → (List (Int × Int × Int × (List ((List UInt8) × Int × Int × Unit)) × Unit)) → (List Int) → (List Int) → (List (Int × Int × (List Int) × Int × Unit)) → Int → Int → (List ((List UInt8) × Int × Int × Unit)) → (List Int) → (List Int) → Prop),
    (∀ (s1 : Int) (s2 : Int) (s3 : Int) (s4 : Int) (s5 : Int) (s6 : Int) (s7 : Int) (s8 : List (Int × Int × Int × (List ((List UInt8) × Int × Int × Unit)) × Unit)) (s9 : Int) (s10 : Int) (s11 : Int) (s12 : List (Int × Int × Int × (List ((List UInt8) × Int × Int × Unit)) × Unit)) (s13 : List Int) (s14 : List Int) (s15 : List (Int × Int × (List Int) × Int × Unit)) (s16 : Int) (s17 : Int) (s18 : List ((List UInt8) × Int × Int × Unit)) (s19 : List Int) (s20 : List Int), (br (decide ((s10 : Int) < s9))
    (need False (at? s8 s10) fun y21 =>
     br ((y21.2.1 : Int) == 1)
      (br ((y21.2.2.1 : Int) == s2)
       (br ((s6 : Int) != s2)
        (br (roomB ((List.length s20) + 1) 8)
         (j7r39
          (fun z22 z23 z24 z25 z26 z27 z28 z29 z30 z31 z32 z33 z34 z35 z36 z37 z38 z39 z40 z41 => I1 z22 z23 z24 z25 z26 z27 z28 z29 z30 (IntKind.wrap .i64 (z31 + 1)) z32 z33 z34 z35 z36 z37 z38 z39 z40 z41)
          s1 s2 s3 s4 s5 y21.2.2.1 s7 s8 s9 s10 s11 s12 s13 s14 s15 s16 s17 s18 s19 (s20 ++ [y21.1]) y21)
         (False /- 61 -/))
        (j7r39
         (fun z42 z43 z44 z45 z46 z47 z48 z49 z50 z51 z52 z53 z54 z55 z56 z57 z58 z59 z60 z61 => I1 z42 z43 z44 z45 z46 z47 z48 z49 z50 (IntKind.wrap .i64 (z51 + 1)) z52 z53 z54 z55 z56 z57 z58 z59 z60 z61)
         s1 s2 s3 s4 s5 y21.2.2.1 s7 s8 s9 s10 s11 s12 s13 s14 s15 s16 s17 s18 s19 s20 y21))
       (j7r39
        (fun z62 z63 z64 z65 z66 z67 z68 z69 z70 z71 z72 z73 z74 z75 z76 z77 z78 z79 z80 z81 => I1 z62 z63 z64 z65 z66 z67 z68 z69 z70 (IntKind.wrap .i64 (z71 + 1)) z72 z73 z74 z75 z76 z77 z78 z79 z80 z81)
        s1 s2 s3 s4 s5 y21.2.2.1 s7 s8 s9 s10 s11 s12 s13 s14 s15 s16 s17 s18 s19 s20 y21))
      (j7r39
       (fun z82 z83 z84 z85 z86 z87 z88 z89 z90 z91 z92 z93 z94 z95 z96 z97 z98 z99 z100 z101 => I1 z82 z83 z84 z85 z86 z87 z88 z89 z90 (IntKind.wrap .i64 (z91 + 1)) z92 z93 z94 z95 z96 z97 z98 z99 z100 z101)
       s1 s2 s3 s4 s5 s6 s7 s8 s9 s10 s11 s12 s13 s14 s15 s16 s17 s18 s19 s20 y21))
    (k1 s3 s4 s5 s7 s16 s17 s18 s19 s20)) → I1 s1 s2 s3 s4 s5 s6 s7 s8 s9 s10 s11 s12 s13 s14 s15 s16 s17 s18 s19 s20) →
    I1 s1 s2 s3 s4 s5 s6 s7 s8 s9 s10 s11 s12 s13 s14 s15 s16 s17 s18 s19 s20
structure l7r33 (k1 : Int → Int → Int → Int → Int → Int → (List ((List UInt8) × Int × Int × Unit)) → (List Int) → (List Int) → Prop) (s1 : Int) (s2 : Int) (s3 : Int) (s4 : Int) (s5 : Int) (s6 : Int) (s7 : Int) (s8 : List (Int × Int × Int × (List ((List UInt8) × Int × Int × Unit)) × Unit)) (s9 : Int) (s10 : Int) (s11 : Int) (s12 : List (Int × Int × Int × (List ((List UInt8) × Int × Int × Unit)) × Unit)) (s13 : List Int) (s14 : List Int) (s15 : List (Int × Int × (List Int) × Int × Unit)) (s16 : Int) (s17 : Int) (s18 : List ((List UInt8) × Int × Int × Unit)) (s19 : List Int) (s20 : List Int) : Prop where
  of : tl7r33 k1 s1 s2 s3 s4 s5 s6 s7 s8 s9 s10 s11 s12 s13 s14 s15 s16 s17 s18 s19 s20

def tl32r4 (k1 : Bool → Prop) (k2 : Prop) (s1 : List Int) (s2 : List Int) (s3 : Int) (s4 : Int) : Prop :=
  ∀ (I1 : (List Int) → (List Int) → Int → Int → Prop),
    (∀ (s1 : List Int) (s2 : List Int) (s3 : Int) (s4 : Int), (br (decide ((s4 : Int) < s3))
    (need False (at? s1 s4) fun y5 =>
     need False (at? s2 s4) fun y6 =>
      br ((y5 : Int) != y6)
       (k1 false)
       (I1 s1 s2 s3 (IntKind.wrap .i64 (s4 + 1))))
    (k2)) → I1 s1 s2 s3 s4) →
    I1 s1 s2 s3 s4
structure l32r4 (k1 : Bool → Prop) (k2 : Prop) (s1 : List Int) (s2 : List Int) (s3 : Int) (s4 : Int) : Prop where
  of : tl32r4 k1 k2 s1 s2 s3 s4

def tc32 (x1 : List Int) (x2 : List Int) (k1 : Bool → Prop) : Prop :=
  br (((((List.length x1) : Nat) : Int) : Int) != (((List.length x2) : Nat) : Int))
  (k1 false)
  (l32r4
   (fun z3 => k1 z3)
   (k1 true)
   x1 x2 (((List.length x1) : Nat) : Int) 0)
structure c32 (x1 : List Int) (x2 : List Int) (k1 : Bool → Prop) : Prop where
  of : tc32 x1 x2 k1

def tc7 (x1 : List (Int × Int × Int × (List ((List UInt8) × Int × Int × Unit)) × Unit)) (x2 : Int) (x3 : Int) (k1 : Bool → Prop) : Prop :=
  c38 ((List.replicate 9 (0 : Int)), 0, [2], [], [(3, 0, 7, [], ())], ()) 5
  (fun z4 z5 z6 z7 => br ((z6 : Int) != 0)
   (k1 false)
   (br ((z5 : Int) != 7)
    (k1 false)
    (br ((z4 : Int) != 0)
     (k1 false)
     (br (decide ((0 : Int) ≤ 0 ∧ (0 : Int) ≤ (minI (((List.length x1) : Nat) : Int) 20) ∧ ((minI (((List.length x1) : Nat) : Int) 20) : Int) ≤ (((List.length x1) : Nat) : Int)))
      (l7r8
       (fun z8 z9 z10 z11 z12 z13 z14 z15 z16 z17 z18 => c39 (z13, z11, z14, z15, z12, ())
        (fun z19 => br ((z19 : Int) != z10)
         (k1 false)
         (c40 z8 45
          (fun z20 => l7r21
           (fun z21 z22 z23 z24 z25 z26 z27 z28 z29 z30 z31 z32 => c38 (z27, z25, z28, z29, z26, ()) z21
            (fun z33 z34 z35 z36 => c41 (z27, z25, z28, z29, z26, ()) 1 z22
             (fun z37 z38 => br ((z23 : Int) != 0)
              (br ((z35 : Int) == z23)
               (br ((z37 : Int) == z23)
                (k1 (((((List.length z38) : Nat) : Int) : Int) == 0))
                (k1 false))
               (k1 false))
              (l7r33
               (fun z39 z40 z41 z42 z43 z44 z45 z46 z47 => br ((z41 : Int) != 0)
                (k1 false)
                (c32 z46 z47
                 (fun z48 => br (!z48)
                  (k1 false)
                  (br (decide ((z40 : Int) < 0))
                   (k1 ((z39 : Int) == 12))
                   (br ((z39 : Int) == 0)
                    (br ((z43 : Int) == z40)
                     (k1 ((z44 : Int) == z42))
                     (k1 false))
                    (k1 false))))))
               z21 z22 z35 z24 z37 0 0 z26 (((List.length z26) : Nat) : Int) 0 z25 z26 z27 z28 z29 z33 z34 z36 z38 []))))
           (IntKind.wrap .i64 (z20 - 2)) z9 z10 (-1) (((List.length z14) : Nat) : Int) 0 z11 z12 z13 z14 z15 z16 z17 z18))))
       x2 x3 0 (List.drop 0 (List.take (Int.toNat (minI (((List.length x1) : Nat) : Int) 20)) x1)) (((List.length (List.drop 0 (List.take (Int.toNat (minI (((List.length x1) : Nat) : Int) 20)) x1))) : Nat) : Int) 0 0 (List.drop 0 (List.take (Int.toNat (minI (((List.length x1) : Nat) : Int) 20)) x1)) (List.replicate 40 (0 : Int)) [2, 9, 20] [] z4 z5 z7)
      (False /- 79 -/)))))
structure c7 (x1 : List (Int × Int × Int × (List ((List UInt8) × Int × Int × Unit)) × Unit)) (x2 : Int) (x3 : Int) (k1 : Bool → Prop) : Prop where
  of : tc7 x1 x2 x3 k1

end Go.Proofs.Ytfdoaacapkopmaa
