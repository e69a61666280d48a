/- The functions compute that (printed by a program). -/
import Derived.Test.YteeigkbjjoedoacAD3
import Derived.Test.YteeigkbjjoedoacAEnvC
import Derived.KernelRfl
namespace Go.Proofs.Yteeigkbjjoedoac
open Go.Abs
set_option maxRecDepth 100000
set_option maxHeartbeats 4000000
set_option linter.unusedVariables false
abbrev wI : Ty := .int .i64
abbrev w0 : Ty := .pair (.sl wI) (.pair (.sl (.pair wI (.pair wI (.pair wI (.pair (.sl wI) .unit))))) (.pair (.pair wI (.pair wI (.pair wI (.pair (.sl wI) (.pair (.sl (.pair wI (.pair (.sl wI) .unit))) .unit))))) .unit))
abbrev w1 : Ty := .pair wI (.pair (.sl w0) .unit)
abbrev w2 : Ty := .pair wI (.pair wI .unit)
abbrev w3 : Ty := .pair wI (.pair (.sl wI) .unit)
abbrev w4 : Ty := .pair wI (.pair (.sl wI) (.pair wI .unit))
abbrev w5 : Ty := .pair wI (.pair wI (.pair wI (.pair (.sl wI) (.pair (.sl w3) .unit))))
abbrev w6 : Ty := .sl wI
theorem cD {t : Ty} {l : List AV} {F : t.T → List AV → Prop} (h : asCons l fun a r => asD t a fun s => F s r) : ∃ s r, l = .d t s :: r ∧ F s r := by
  obtain ⟨a, r, rfl, h1⟩ := asCons_inv h
  obtain ⟨s, rfl, h2⟩ := asD_inv h1
  exact ⟨s, r, rfl, h2⟩
theorem cP {p : AV} {l : List AV} {F : List AV → Prop} (h : asCons l fun a r => asP p a <| F r) : ∃ r, l = p :: r ∧ F r := by
  obtain ⟨a, r, rfl, h1⟩ := asCons_inv h
  obtain ⟨rfl, h2⟩ := asP_inv h1
  exact ⟨r, rfl, h2⟩
theorem cR {t : Ty} {ex : Bool} {l : List Ob} {F : List t.T → List Ob → Prop} (h : asCons l fun a r => asRw t ex a fun s => F s r) : ∃ s r, l = .row t s ex :: r ∧ F s r := by
  obtain ⟨a, r, rfl, h1⟩ := asCons_inv h
  obtain ⟨s, rfl, h2⟩ := asRw_inv h1
  exact ⟨s, r, rfl, h2⟩
theorem oD {u t : Ty} {l : List Ob} {F : t.T → List Ob → Prop} (h : asCons l fun a r => asOne u a fun v => asD t v fun s => F s r) : ∃ s r, l = .one u (.d t s) :: r ∧ F s r := by
  obtain ⟨a, r, rfl, h1⟩ := asCons_inv h
  obtain ⟨v, rfl, h2⟩ := asOne_inv h1
  obtain ⟨s, rfl, h3⟩ := asD_inv h2
  exact ⟨s, r, rfl, h3⟩
theorem oP {u : Ty} {p : AV} {l : List Ob} {F : List Ob → Prop} (h : asCons l fun a r => asOne u a fun v => asP p v <| F r) : ∃ r, l = .one u p :: r ∧ F r := by
  obtain ⟨a, r, rfl, h1⟩ := asCons_inv h
  obtain ⟨v, rfl, h2⟩ := asOne_inv h1
  obtain ⟨rfl, h3⟩ := asP_inv h2
  exact ⟨r, rfl, h3⟩
theorem cN {α : Type} {l : List α} {F} (h : asNil l F) : l = [] ∧ F := asNil_inv h
abbrev wF := inlF (PA (ACall E)) E 8
abbrev wL := List (Nat × List Nat × Pat × LSp)
abbrev wS := List (Nat × Pat × Sp)
abbrev dD (t : Ty) (l : List AV) (F : t.T → List AV → Prop) : Prop := asCons l fun a r => asD t a fun s => F s r
abbrev dP (p : AV) (l : List AV) (F : List AV → Prop) : Prop := asCons l fun a r => asP p a <| F r
abbrev dR (t : Ty) (ex : Bool) (l : List Ob) (F : List t.T → List Ob → Prop) : Prop := asCons l fun a r => asRw t ex a fun s => F s r
abbrev dO (u t : Ty) (l : List Ob) (F : t.T → List Ob → Prop) : Prop := asCons l fun a r => asOne u a fun v => asD t v fun s => F s r
abbrev dQ (u : Ty) (p : AV) (l : List Ob) (F : List Ob → Prop) : Prop := asCons l fun a r => asOne u a fun v => asP p v <| F r
theorem cM {α β : Type} {l : List α} {m : List β} {F} (h : asNil l (asNil m F)) : l = [] ∧ m = [] ∧ F := ⟨(asNil_inv h).1, (asNil_inv (asNil_inv h).2).1, (asNil_inv (asNil_inv h).2).2⟩
theorem nS : SpecOK E (ofL ([] : wS)) := specOK_nil
abbrev nL : wL := []
abbrev wH (n : Nat) (f : Func) (c : Code) (L : wL) : Prop := ∀ c' ∈ subsOf (E.info n).keep c, SubOK E wF (E.info n).keep 0 f.ntmps (lofL L) c'
theorem cDD {t0 : Ty} {t1 : Ty} {l : List AV} {F : t0.T → t1.T → List AV → Prop} (h : dD t0 l fun s0 r0 => dD t1 r0 fun s1 r1 => F s0 s1 r1) : ∃ s0 s1 r, l = .d t0 s0 :: .d t1 s1 :: r ∧ F s0 s1 r := by
  obtain ⟨s0, r0, rfl, h0⟩ := cD h
  obtain ⟨s1, r1, rfl, h1⟩ := cD h0
  exact ⟨s0, s1, r1, rfl, h1⟩
theorem cDP {t0 : Ty} {p1 : AV} {l : List AV} {F : t0.T → List AV → Prop} (h : dD t0 l fun s0 r0 => dP p1 r0 fun r1 => F s0 r1) : ∃ s0 r, l = .d t0 s0 :: p1 :: r ∧ F s0 r := by
  obtain ⟨s0, r0, rfl, h0⟩ := cD h
  obtain ⟨r1, rfl, h1⟩ := cP h0
  exact ⟨s0, r1, rfl, h1⟩
theorem cPD {p0 : AV} {t1 : Ty} {l : List AV} {F : t1.T → List AV → Prop} (h : dP p0 l fun r0 => dD t1 r0 fun s1 r1 => F s1 r1) : ∃ s1 r, l = p0 :: .d t1 s1 :: r ∧ F s1 r := by
  obtain ⟨r0, rfl, h0⟩ := cP h
  obtain ⟨s1, r1, rfl, h1⟩ := cD h0
  exact ⟨s1, r1, rfl, h1⟩
theorem cPP {p0 : AV} {p1 : AV} {l : List AV} {F : List AV → Prop} (h : dP p0 l fun r0 => dP p1 r0 fun r1 => F r1) : ∃ r, l = p0 :: p1 :: r ∧ F r := by
  obtain ⟨r0, rfl, h0⟩ := cP h
  obtain ⟨r1, rfl, h1⟩ := cP h0
  exact ⟨r1, rfl, h1⟩
theorem cDDD {t0 : Ty} {t1 : Ty} {t2 : Ty} {l : List AV} {F : t0.T → t1.T → t2.T → List AV → Prop} (h : dD t0 l fun s0 r0 => dD t1 r0 fun s1 r1 => dD t2 r1 fun s2 r2 => F s0 s1 s2 r2) : ∃ s0 s1 s2 r, l = .d t0 s0 :: .d t1 s1 :: .d t2 s2 :: r ∧ F s0 s1 s2 r := by
  obtain ⟨s0, r0, rfl, h0⟩ := cD h
  obtain ⟨s1, r1, rfl, h1⟩ := cD h0
  obtain ⟨s2, r2, rfl, h2⟩ := cD h1
  exact ⟨s0, s1, s2, r2, rfl, h2⟩
theorem cDDP {t0 : Ty} {t1 : Ty} {p2 : AV} {l : List AV} {F : t0.T → t1.T → List AV → Prop} (h : dD t0 l fun s0 r0 => dD t1 r0 fun s1 r1 => dP p2 r1 fun r2 => F s0 s1 r2) : ∃ s0 s1 r, l = .d t0 s0 :: .d t1 s1 :: p2 :: r ∧ F s0 s1 r := by
  obtain ⟨s0, r0, rfl, h0⟩ := cD h
  obtain ⟨s1, r1, rfl, h1⟩ := cD h0
  obtain ⟨r2, rfl, h2⟩ := cP h1
  exact ⟨s0, s1, r2, rfl, h2⟩
theorem cDPP {t0 : Ty} {p1 : AV} {p2 : AV} {l : List AV} {F : t0.T → List AV → Prop} (h : dD t0 l fun s0 r0 => dP p1 r0 fun r1 => dP p2 r1 fun r2 => F s0 r2) : ∃ s0 r, l = .d t0 s0 :: p1 :: p2 :: r ∧ F s0 r := by
  obtain ⟨s0, r0, rfl, h0⟩ := cD h
  obtain ⟨r1, rfl, h1⟩ := cP h0
  obtain ⟨r2, rfl, h2⟩ := cP h1
  exact ⟨s0, r2, rfl, h2⟩
theorem cPDD {p0 : AV} {t1 : Ty} {t2 : Ty} {l : List AV} {F : t1.T → t2.T → List AV → Prop} (h : dP p0 l fun r0 => dD t1 r0 fun s1 r1 => dD t2 r1 fun s2 r2 => F s1 s2 r2) : ∃ s1 s2 r, l = p0 :: .d t1 s1 :: .d t2 s2 :: r ∧ F s1 s2 r := by
  obtain ⟨r0, rfl, h0⟩ := cP h
  obtain ⟨s1, r1, rfl, h1⟩ := cD h0
  obtain ⟨s2, r2, rfl, h2⟩ := cD h1
  exact ⟨s1, s2, r2, rfl, h2⟩
theorem cPPD {p0 : AV} {p1 : AV} {t2 : Ty} {l : List AV} {F : t2.T → List AV → Prop} (h : dP p0 l fun r0 => dP p1 r0 fun r1 => dD t2 r1 fun s2 r2 => F s2 r2) : ∃ s2 r, l = p0 :: p1 :: .d t2 s2 :: r ∧ F s2 r := by
  obtain ⟨r0, rfl, h0⟩ := cP h
  obtain ⟨r1, rfl, h1⟩ := cP h0
  obtain ⟨s2, r2, rfl, h2⟩ := cD h1
  exact ⟨s2, r2, rfl, h2⟩
theorem cPPP {p0 : AV} {p1 : AV} {p2 : AV} {l : List AV} {F : List AV → Prop} (h : dP p0 l fun r0 => dP p1 r0 fun r1 => dP p2 r1 fun r2 => F r2) : ∃ r, l = p0 :: p1 :: p2 :: r ∧ F r := by
  obtain ⟨r0, rfl, h0⟩ := cP h
  obtain ⟨r1, rfl, h1⟩ := cP h0
  obtain ⟨r2, rfl, h2⟩ := cP h1
  exact ⟨r2, rfl, h2⟩
theorem cDDDD {t0 : Ty} {t1 : Ty} {t2 : Ty} {t3 : Ty} {l : List AV} {F : t0.T → t1.T → t2.T → t3.T → List AV → Prop} (h : dD t0 l fun s0 r0 => dD t1 r0 fun s1 r1 => dD t2 r1 fun s2 r2 => dD t3 r2 fun s3 r3 => F s0 s1 s2 s3 r3) : ∃ s0 s1 s2 s3 r, l = .d t0 s0 :: .d t1 s1 :: .d t2 s2 :: .d t3 s3 :: r ∧ F s0 s1 s2 s3 r := by
  obtain ⟨s0, r0, rfl, h0⟩ := cD h
  obtain ⟨s1, r1, rfl, h1⟩ := cD h0
  obtain ⟨s2, r2, rfl, h2⟩ := cD h1
  obtain ⟨s3, r3, rfl, h3⟩ := cD h2
  exact ⟨s0, s1, s2, s3, r3, rfl, h3⟩
theorem cDDDP {t0 : Ty} {t1 : Ty} {t2 : Ty} {p3 : AV} {l : List AV} {F : t0.T → t1.T → t2.T → List AV → Prop} (h : dD t0 l fun s0 r0 => dD t1 r0 fun s1 r1 => dD t2 r1 fun s2 r2 => dP p3 r2 fun r3 => F s0 s1 s2 r3) : ∃ s0 s1 s2 r, l = .d t0 s0 :: .d t1 s1 :: .d t2 s2 :: p3 :: r ∧ F s0 s1 s2 r := by
  obtain ⟨s0, r0, rfl, h0⟩ := cD h
  obtain ⟨s1, r1, rfl, h1⟩ := cD h0
  obtain ⟨s2, r2, rfl, h2⟩ := cD h1
  obtain ⟨r3, rfl, h3⟩ := cP h2
  exact ⟨s0, s1, s2, r3, rfl, h3⟩
theorem cDDPD {t0 : Ty} {t1 : Ty} {p2 : AV} {t3 : Ty} {l : List AV} {F : t0.T → t1.T → t3.T → List AV → Prop} (h : dD t0 l fun s0 r0 => dD t1 r0 fun s1 r1 => dP p2 r1 fun r2 => dD t3 r2 fun s3 r3 => F s0 s1 s3 r3) : ∃ s0 s1 s3 r, l = .d t0 s0 :: .d t1 s1 :: p2 :: .d t3 s3 :: r ∧ F s0 s1 s3 r := by
  obtain ⟨s0, r0, rfl, h0⟩ := cD h
  obtain ⟨s1, r1, rfl, h1⟩ := cD h0
  obtain ⟨r2, rfl, h2⟩ := cP h1
  obtain ⟨s3, r3, rfl, h3⟩ := cD h2
  exact ⟨s0, s1, s3, r3, rfl, h3⟩
theorem cDDPP {t0 : Ty} {t1 : Ty} {p2 : AV} {p3 : AV} {l : List AV} {F : t0.T → t1.T → List AV → Prop} (h : dD t0 l fun s0 r0 => dD t1 r0 fun s1 r1 => dP p2 r1 fun r2 => dP p3 r2 fun r3 => F s0 s1 r3) : ∃ s0 s1 r, l = .d t0 s0 :: .d t1 s1 :: p2 :: p3 :: r ∧ F s0 s1 r := by
  obtain ⟨s0, r0, rfl, h0⟩ := cD h
  obtain ⟨s1, r1, rfl, h1⟩ := cD h0
  obtain ⟨r2, rfl, h2⟩ := cP h1
  obtain ⟨r3, rfl, h3⟩ := cP h2
  exact ⟨s0, s1, r3, rfl, h3⟩
theorem cDPDD {t0 : Ty} {p1 : AV} {t2 : Ty} {t3 : Ty} {l : List AV} {F : t0.T → t2.T → t3.T → List AV → Prop} (h : dD t0 l fun s0 r0 => dP p1 r0 fun r1 => dD t2 r1 fun s2 r2 => dD t3 r2 fun s3 r3 => F s0 s2 s3 r3) : ∃ s0 s2 s3 r, l = .d t0 s0 :: p1 :: .d t2 s2 :: .d t3 s3 :: r ∧ F s0 s2 s3 r := by
  obtain ⟨s0, r0, rfl, h0⟩ := cD h
  obtain ⟨r1, rfl, h1⟩ := cP h0
  obtain ⟨s2, r2, rfl, h2⟩ := cD h1
  obtain ⟨s3, r3, rfl, h3⟩ := cD h2
  exact ⟨s0, s2, s3, r3, rfl, h3⟩
theorem cDPPD {t0 : Ty} {p1 : AV} {p2 : AV} {t3 : Ty} {l : List AV} {F : t0.T → t3.T → List AV → Prop} (h : dD t0 l fun s0 r0 => dP p1 r0 fun r1 => dP p2 r1 fun r2 => dD t3 r2 fun s3 r3 => F s0 s3 r3) : ∃ s0 s3 r, l = .d t0 s0 :: p1 :: p2 :: .d t3 s3 :: r ∧ F s0 s3 r := by
  obtain ⟨s0, r0, rfl, h0⟩ := cD h
  obtain ⟨r1, rfl, h1⟩ := cP h0
  obtain ⟨r2, rfl, h2⟩ := cP h1
  obtain ⟨s3, r3, rfl, h3⟩ := cD h2
  exact ⟨s0, s3, r3, rfl, h3⟩
theorem cDPPP {t0 : Ty} {p1 : AV} {p2 : AV} {p3 : AV} {l : List AV} {F : t0.T → List AV → Prop} (h : dD t0 l fun s0 r0 => dP p1 r0 fun r1 => dP p2 r1 fun r2 => dP p3 r2 fun r3 => F s0 r3) : ∃ s0 r, l = .d t0 s0 :: p1 :: p2 :: p3 :: r ∧ F s0 r := by
  obtain ⟨s0, r0, rfl, h0⟩ := cD h
  obtain ⟨r1, rfl, h1⟩ := cP h0
  obtain ⟨r2, rfl, h2⟩ := cP h1
  obtain ⟨r3, rfl, h3⟩ := cP h2
  exact ⟨s0, r3, rfl, h3⟩
theorem cPDDD {p0 : AV} {t1 : Ty} {t2 : Ty} {t3 : Ty} {l : List AV} {F : t1.T → t2.T → t3.T → List AV → Prop} (h : dP p0 l fun r0 => dD t1 r0 fun s1 r1 => dD t2 r1 fun s2 r2 => dD t3 r2 fun s3 r3 => F s1 s2 s3 r3) : ∃ s1 s2 s3 r, l = p0 :: .d t1 s1 :: .d t2 s2 :: .d t3 s3 :: r ∧ F s1 s2 s3 r := by
  obtain ⟨r0, rfl, h0⟩ := cP h
  obtain ⟨s1, r1, rfl, h1⟩ := cD h0
  obtain ⟨s2, r2, rfl, h2⟩ := cD h1
  obtain ⟨s3, r3, rfl, h3⟩ := cD h2
  exact ⟨s1, s2, s3, r3, rfl, h3⟩
theorem cPDPD {p0 : AV} {t1 : Ty} {p2 : AV} {t3 : Ty} {l : List AV} {F : t1.T → t3.T → List AV → Prop} (h : dP p0 l fun r0 => dD t1 r0 fun s1 r1 => dP p2 r1 fun r2 => dD t3 r2 fun s3 r3 => F s1 s3 r3) : ∃ s1 s3 r, l = p0 :: .d t1 s1 :: p2 :: .d t3 s3 :: r ∧ F s1 s3 r := by
  obtain ⟨r0, rfl, h0⟩ := cP h
  obtain ⟨s1, r1, rfl, h1⟩ := cD h0
  obtain ⟨r2, rfl, h2⟩ := cP h1
  obtain ⟨s3, r3, rfl, h3⟩ := cD h2
  exact ⟨s1, s3, r3, rfl, h3⟩
theorem cPPDD {p0 : AV} {p1 : AV} {t2 : Ty} {t3 : Ty} {l : List AV} {F : t2.T → t3.T → List AV → Prop} (h : dP p0 l fun r0 => dP p1 r0 fun r1 => dD t2 r1 fun s2 r2 => dD t3 r2 fun s3 r3 => F s2 s3 r3) : ∃ s2 s3 r, l = p0 :: p1 :: .d t2 s2 :: .d t3 s3 :: r ∧ F s2 s3 r := by
  obtain ⟨r0, rfl, h0⟩ := cP h
  obtain ⟨r1, rfl, h1⟩ := cP h0
  obtain ⟨s2, r2, rfl, h2⟩ := cD h1
  obtain ⟨s3, r3, rfl, h3⟩ := cD h2
  exact ⟨s2, s3, r3, rfl, h3⟩
theorem cPPDP {p0 : AV} {p1 : AV} {t2 : Ty} {p3 : AV} {l : List AV} {F : t2.T → List AV → Prop} (h : dP p0 l fun r0 => dP p1 r0 fun r1 => dD t2 r1 fun s2 r2 => dP p3 r2 fun r3 => F s2 r3) : ∃ s2 r, l = p0 :: p1 :: .d t2 s2 :: p3 :: r ∧ F s2 r := by
  obtain ⟨r0, rfl, h0⟩ := cP h
  obtain ⟨r1, rfl, h1⟩ := cP h0
  obtain ⟨s2, r2, rfl, h2⟩ := cD h1
  obtain ⟨r3, rfl, h3⟩ := cP h2
  exact ⟨s2, r3, rfl, h3⟩
theorem cPPPD {p0 : AV} {p1 : AV} {p2 : AV} {t3 : Ty} {l : List AV} {F : t3.T → List AV → Prop} (h : dP p0 l fun r0 => dP p1 r0 fun r1 => dP p2 r1 fun r2 => dD t3 r2 fun s3 r3 => F s3 r3) : ∃ s3 r, l = p0 :: p1 :: p2 :: .d t3 s3 :: r ∧ F s3 r := by
  obtain ⟨r0, rfl, h0⟩ := cP h
  obtain ⟨r1, rfl, h1⟩ := cP h0
  obtain ⟨r2, rfl, h2⟩ := cP h1
  obtain ⟨s3, r3, rfl, h3⟩ := cD h2
  exact ⟨s3, r3, rfl, h3⟩
theorem cPPPP {p0 : AV} {p1 : AV} {p2 : AV} {p3 : AV} {l : List AV} {F : List AV → Prop} (h : dP p0 l fun r0 => dP p1 r0 fun r1 => dP p2 r1 fun r2 => dP p3 r2 fun r3 => F r3) : ∃ r, l = p0 :: p1 :: p2 :: p3 :: r ∧ F r := by
  obtain ⟨r0, rfl, h0⟩ := cP h
  obtain ⟨r1, rfl, h1⟩ := cP h0
  obtain ⟨r2, rfl, h2⟩ := cP h1
  obtain ⟨r3, rfl, h3⟩ := cP h2
  exact ⟨r3, rfl, h3⟩
def sp13 : Sp := fun args τ K => asNil args <| asNil τ <| c13  (fun z1 z2 => K (.agg [I z1, .vec 0]) [.row w0 z2 false])
theorem h13 : ∀ args τ K, sp13 args τ K → ACall E 13 args τ K := by
  intro args τ K h0
  obtain ⟨rfl, rfl, h2⟩ := cM h0
  exact ACall.spec2 (fn := Try.f13) (c := codeOf Try.f13) (L := lofL nL) nS (by kernel_rfl) (by kernel_rfl) (inlOK _) (all_eq (by kernel_rfl) all_nil) (by kernel_rfl) h2.of
def lsl37r3 : LSp := fun vs σ K => dP (.ptr 0 0 []) vs fun r1 => dD wI r1 fun s1 r2 => dD (.sl w0) r2 fun s2 r3 => dD wI r3 fun s3 r4 => dD wI r4 fun s4 r5 => asNil r5 <| dO w1 w1 σ fun s5 r6 => asNil r6 <| l37r3 (fun z1 z2 => K (.exit 0) [(1, .ptr 0 0 []), (3, I z1)] [.one w1 (.d w1 z2)]) s1 s2 s3 s4 s5
theorem l37r3v : LoopV E wF (E.info 37).keep 0 Try.f37.ntmps 38000003 (body Try.f37 3) ([1, 3, 10, 11, 12], lsl37r3) := by
  intro vs σ K h0
  obtain ⟨s1, s2, s3, r4, rfl, h8⟩ := cPDDD h0
  obtain ⟨s4, r5, rfl, h10⟩ := cD h8
  obtain ⟨rfl, h11⟩ := cN h10
  obtain ⟨s5, r6, rfl, h14⟩ := oD h11
  obtain ⟨rfl, h15⟩ := cN h14
  intro J hJ
  have hp : wH 37 Try.f37 (body Try.f37 3) nL := all_eq (by kernel_rfl) all_nil
  exact h15.of (fun s1 s2 s3 s4 s5 => J [(38000003, .undef), (1, .ptr 0 0 []), (3, I s1), (10, .d (.sl w0) s2), (11, I s3), (12, I s4)] [.one w1 (.d w1 s5)]) (fun s1 s2 s3 s4 s5 hb => loop_round2 nS (inlOK _) hp hJ (by kernel_rfl) hb)
def sp51 : Sp := fun args τ K => dD wI args fun x1 r1 => dD wI r1 fun x2 r2 => dD wI r2 fun x3 r3 => asNil r3 <| asNil τ <| c51 x1 x2 x3 (fun z1 => K (B z1) [])
theorem h51 : ∀ args τ K, sp51 args τ K → ACall E 51 args τ K := by
  intro args τ K h0
  obtain ⟨x1, x2, x3, r3, rfl, h6⟩ := cDDD h0
  obtain ⟨rfl, rfl, h8⟩ := cM h6
  exact ACall.spec2 (fn := Try.f51) (c := codeOf Try.f51) (L := lofL nL) nS (by kernel_rfl) (by kernel_rfl) (inlOK _) (all_eq (by kernel_rfl) all_nil) (by kernel_rfl) h8.of
abbrev S68 : wS := [(51, none, sp51)]
theorem hS68 : SpecOK E (ofL S68) := specOK_cons h51 specOK_nil
def sp68 : Sp := fun args τ K => dP (.ptr 0 0 []) args fun r1 => dD wI r1 fun x1 r2 => dD w2 r2 fun x2 r3 => asNil r3 <| asCons τ fun a4 r4 => asOne (.pair w1 (.pair (.opq .map) .unit)) a4 fun a5 => asAgL a5 fun l6 => dD w1 l6 fun x3 r7 => dP (.mp 1) r7 fun r8 => asNil r8 <| asCons r4 fun a9 r9 => asKv w2 a9 fun x4 => asNil r9 <| c68 x1 x2 x3 x4 (fun z1 z2 z3 => K (I z1) [.one (.pair w1 (.pair (.opq .map) .unit)) (.agg [.d w1 z2, .mp 1]), .kv w2 z3])
theorem h68 : ∀ args τ K, sp68 args τ K → ACall E 68 args τ K := by
  intro args τ K h0
  obtain ⟨x1, x2, r3, rfl, h6⟩ := cPDD h0
  obtain ⟨rfl, h7⟩ := cN h6
  obtain ⟨a4, r4, rfl, h8⟩ := asCons_inv h7
  obtain ⟨a5, rfl, h9⟩ := asOne_inv h8
  obtain ⟨l6, rfl, h10⟩ := asAgL_inv h9
  obtain ⟨x3, r8, rfl, h14⟩ := cDP h10
  obtain ⟨rfl, h15⟩ := cN h14
  obtain ⟨a9, r9, rfl, h16⟩ := asCons_inv h15
  obtain ⟨x4, rfl, h17⟩ := asKv_inv h16
  obtain ⟨rfl, h18⟩ := cN h17
  exact ACall.spec2 (fn := Try.f68) (c := codeOf Try.f68) (L := lofL nL) hS68 (by kernel_rfl) (by kernel_rfl) (inlOK _) (all_eq (by kernel_rfl) all_nil) (by kernel_rfl) h18.of
abbrev Sl52r3 : wS := [(68, none, sp68)]
theorem hSl52r3 : SpecOK E (ofL Sl52r3) := specOK_cons h68 specOK_nil
def lsl52r3 : LSp := fun vs σ K => dP (.ptr 0 0 []) vs fun r1 => dD wI r1 fun s1 r2 => dP (.ptr 2 0 []) r2 fun r3 => dD w6 r3 fun s2 r4 => dD wI r4 fun s3 r5 => dD wI r5 fun s4 r6 => asNil r6 <| asCons σ fun a7 r7 => asOne (.pair w1 (.pair (.opq .map) .unit)) a7 fun a8 => asAgL a8 fun l9 => dD w1 l9 fun s5 r10 => dP (.mp 1) r10 fun r11 => asNil r11 <| asCons r7 fun a12 r12 => asKv w2 a12 fun s6 => dO w0 w0 r12 fun s7 r13 => asNil r13 <| l52r3 (fun z1 z2 z3 => K .ret [(0, .undef), (1, .undef), (4, I z1), (5, .undef)] [.one (.pair w1 (.pair (.opq .map) .unit)) (.agg [.d w1 z2, .mp 1]), .kv w2 z3]) (fun z1 z2 z3 z4 => K (.exit 0) [(0, .ptr 0 0 []), (1, I z1), (4, .undef), (5, .ptr 2 0 [])] [.one (.pair w1 (.pair (.opq .map) .unit)) (.agg [.d w1 z2, .mp 1]), .kv w2 z3, .one w0 (.d w0 z4)]) s1 s2 s3 s4 s5 s6 s7
theorem l52r3v : LoopV E wF (E.info 52).keep 2 Try.f52.ntmps 53000003 (body Try.f52 3) ([0, 1, 5, 22, 23, 24], lsl52r3) := by
  intro vs σ K h0
  obtain ⟨s1, s2, r4, rfl, h8⟩ := cPDPD h0
  obtain ⟨s3, s4, r6, rfl, h12⟩ := cDD h8
  obtain ⟨rfl, h13⟩ := cN h12
  obtain ⟨a7, r7, rfl, h14⟩ := asCons_inv h13
  obtain ⟨a8, rfl, h15⟩ := asOne_inv h14
  obtain ⟨l9, rfl, h16⟩ := asAgL_inv h15
  obtain ⟨s5, r11, rfl, h20⟩ := cDP h16
  obtain ⟨rfl, h21⟩ := cN h20
  obtain ⟨a12, r12, rfl, h22⟩ := asCons_inv h21
  obtain ⟨s6, rfl, h23⟩ := asKv_inv h22
  obtain ⟨s7, r13, rfl, h26⟩ := oD h23
  obtain ⟨rfl, h27⟩ := cN h26
  intro J hJ
  have hp : ∀ c' ∈ subsOf (E.info 52).keep (body Try.f52 3), SubOK E wF (E.info 52).keep 2 Try.f52.ntmps (lofL nL) c' := all_eq (by kernel_rfl) all_nil
  exact h27.of (fun s1 s2 s3 s4 s5 s6 s7 => J [(53000003, .undef), (0, .ptr 0 0 []), (1, I s1), (5, .ptr 2 0 []), (22, .d w6 s2), (23, I s3), (24, I s4)] [.one (.pair w1 (.pair (.opq .map) .unit)) (.agg [.d w1 s5, .mp 1]), .kv w2 s6, .one w0 (.d w0 s7)]) (fun s1 s2 s3 s4 s5 s6 s7 hb => loop_round2 hSl52r3 (inlOK _) hp hJ (by kernel_rfl) hb)
def sp80 : Sp := fun args τ K => dD (.pair wI (.pair wI w3)) args fun x1 r1 => asNil r1 <| asNil τ <| c80 x1 (fun z1 z2 => K (.tup [I z1, B z2]) [])
theorem h80 : ∀ args τ K, sp80 args τ K → ACall E 80 args τ K := by
  intro args τ K h0
  obtain ⟨x1, r1, rfl, h2⟩ := cD h0
  obtain ⟨rfl, rfl, h4⟩ := cM h2
  exact ACall.spec2 (fn := Try.f80) (c := codeOf Try.f80) (L := lofL nL) nS (by kernel_rfl) (by kernel_rfl) (inlOK _) (all_eq (by kernel_rfl) all_nil) (by kernel_rfl) h4.of
abbrev S83 : wS := [(51, none, sp51)]
theorem hS83 : SpecOK E (ofL S83) := specOK_cons h51 specOK_nil
def sp83 : Sp := fun args τ K => dD wI args fun x1 r1 => asNil r1 <| asNil τ <| c83 x1 (fun z1 => K (B z1) [])
theorem h83 : ∀ args τ K, sp83 args τ K → ACall E 83 args τ K := by
  intro args τ K h0
  obtain ⟨x1, r1, rfl, h2⟩ := cD h0
  obtain ⟨rfl, rfl, h4⟩ := cM h2
  exact ACall.spec2 (fn := Try.f83) (c := codeOf Try.f83) (L := lofL nL) hS83 (by kernel_rfl) (by kernel_rfl) (inlOK _) (all_eq (by kernel_rfl) all_nil) (by kernel_rfl) h4.of
abbrev S81 : wS := [(83, none, sp83), (51, none, sp51)]
theorem hS81 : SpecOK E (ofL S81) := specOK_cons h83 (specOK_cons h51 specOK_nil)
def sp81 : Sp := fun args τ K => dD (.pair wI (.pair wI w3)) args fun x1 r1 => asNil r1 <| asNil τ <| c81 x1 (fun z1 => K (B z1) [])
theorem h81 : ∀ args τ K, sp81 args τ K → ACall E 81 args τ K := by
  intro args τ K h0
  obtain ⟨x1, r1, rfl, h2⟩ := cD h0
  obtain ⟨rfl, rfl, h4⟩ := cM h2
  exact ACall.spec2 (fn := Try.f81) (c := codeOf Try.f81) (L := lofL nL) hS81 (by kernel_rfl) (by kernel_rfl) (inlOK _) (all_eq (by kernel_rfl) all_nil) (by kernel_rfl) h4.of
abbrev Sj69s5 : wS := [(81, none, sp81)]
theorem hSj69s5 : SpecOK E (ofL Sj69s5) := specOK_cons h81 specOK_nil
def lsj69s5 : LSp := fun vs σ K => dP (.ptr 0 0 []) vs fun r1 => dD .bool r1 fun s1 r2 => asNil r2 <| dO (.pair wI (.pair wI w3)) (.pair wI (.pair wI w3)) σ fun s2 r3 => asNil r3 <| j69s5 (fun z1 => K .ret [(2, I z1)] []) (K .normal [(2, .undef)] []) s1 s2
theorem j69s5v : JoinV E wF (E.info 69).keep 0 Try.f69.ntmps 70500005 5000005 (jbody Try.f69 5000005) ([1, 35], lsj69s5) := by
  intro vs σ K h0
  obtain ⟨s1, r2, rfl, h4⟩ := cPD h0
  obtain ⟨rfl, h5⟩ := cN h4
  obtain ⟨s2, r3, rfl, h8⟩ := oD h5
  obtain ⟨rfl, h9⟩ := cN h8
  exact join_round2 (L := lofL nL) hSj69s5 (inlOK _) (all_eq (by kernel_rfl) all_nil) (by kernel_rfl) h9.of
abbrev Lj69s2 : wL := [(70500005, [1, 35], none, lsj69s5)]
def lsj69s2 : LSp := fun vs σ K => dP (.ptr 0 0 []) vs fun r1 => dD .bool r1 fun s1 r2 => asNil r2 <| dO (.pair wI (.pair wI w3)) (.pair wI (.pair wI w3)) σ fun s2 r3 => asNil r3 <| j69s2 (fun z1 => K .ret [(2, I z1)] []) (K .normal [(2, .undef)] []) s1 s2
theorem j69s2v : JoinV E wF (E.info 69).keep 0 Try.f69.ntmps 70500002 5000002 (jbody Try.f69 5000002) ([1, 10], lsj69s2) := by
  intro vs σ K h0
  obtain ⟨s1, r2, rfl, h4⟩ := cPD h0
  obtain ⟨rfl, h5⟩ := cN h4
  obtain ⟨s2, r3, rfl, h8⟩ := oD h5
  obtain ⟨rfl, h9⟩ := cN h8
  exact join_round2 (L := lofL Lj69s2) nS (inlOK _) (all_eq (by kernel_rfl : subsOf (E.info 69).keep (jbody Try.f69 5000002) = [.join 5000005 (jbody Try.f69 5000005)]) (all_cons (joinOK_of (mk := 70500005) (sl := [1, 35]) (ss := [([1, 35], lsj69s5)]) (by kernel_rfl) (by kernel_rfl) (all_cons j69s5v all_nil)) all_nil)) (by kernel_rfl) h9.of
def lsj69r9 : LSp := fun vs σ K => asNil vs <| asNil σ <| j69r9 (fun z1 => K .ret [(2, I z1)] []) 
theorem j69r9v : JoinV E wF (E.info 69).keep 0 Try.f69.ntmps 70400009 4000009 (jbody Try.f69 4000009) ([], lsj69r9) := by
  intro vs σ K h0
  obtain ⟨rfl, rfl, h2⟩ := cM h0
  exact join_round2 (L := lofL nL) nS (inlOK _) (all_eq (by kernel_rfl) all_nil) (by kernel_rfl) h2.of
abbrev S69 : wS := [(80, none, sp80)]
theorem hS69 : SpecOK E (ofL S69) := specOK_cons h80 specOK_nil
abbrev L69 : wL := [(70500002, [1, 10], none, lsj69s2), (70400009, [], none, lsj69r9)]
def sp69 : Sp := fun args τ K => dD (.pair wI (.pair wI w3)) args fun x1 r1 => asNil r1 <| asNil τ <| c69 x1 (fun z1 => K (I z1) [])
theorem h69 : ∀ args τ K, sp69 args τ K → ACall E 69 args τ K := by
  intro args τ K h0
  obtain ⟨x1, r1, rfl, h2⟩ := cD h0
  obtain ⟨rfl, rfl, h4⟩ := cM h2
  exact ACall.spec2 (fn := Try.f69) (c := codeOf Try.f69) (L := lofL L69) hS69 (by kernel_rfl) (by kernel_rfl) (inlOK _) (all_eq (by kernel_rfl : subsOf (E.info 69).keep (codeOf Try.f69) = [.join 4000009 (jbody Try.f69 4000009), .join 5000002 (jbody Try.f69 5000002)]) (all_cons (joinOK_of (mk := 70400009) (sl := []) (ss := [([], lsj69r9)]) (by kernel_rfl) (by kernel_rfl) (all_cons j69r9v all_nil)) (all_cons (joinOK_of (mk := 70500002) (sl := [1, 10]) (ss := [([1, 10], lsj69s2)]) (by kernel_rfl) (by kernel_rfl) (all_cons j69s2v all_nil)) all_nil))) (by kernel_rfl) h4.of
abbrev Sl52r10 : wS := [(68, none, sp68), (69, none, sp69)]
theorem hSl52r10 : SpecOK E (ofL Sl52r10) := specOK_cons h68 (specOK_cons h69 specOK_nil)
def lsl52r10 : LSp := fun vs σ K => dP (.ptr 0 0 []) vs fun r1 => dD wI r1 fun s1 r2 => dP (.ptr 2 0 []) r2 fun r3 => dD (.sl (.pair wI (.pair wI w3))) r3 fun s2 r4 => dD wI r4 fun s3 r5 => dD wI r5 fun s4 r6 => asNil r6 <| asCons σ fun a7 r7 => asOne (.pair w1 (.pair (.opq .map) .unit)) a7 fun a8 => asAgL a8 fun l9 => dD w1 l9 fun s5 r10 => dP (.mp 1) r10 fun r11 => asNil r11 <| asCons r7 fun a12 r12 => asKv w2 a12 fun s6 => dO w0 w0 r12 fun s7 r13 => asNil r13 <| l52r10 (fun z1 z2 z3 => K .ret [(0, .undef), (4, I z1), (5, .undef)] [.one (.pair w1 (.pair (.opq .map) .unit)) (.agg [.d w1 z2, .mp 1]), .kv w2 z3]) (fun z1 z2 z3 => K (.exit 2) [(0, .ptr 0 0 []), (4, .undef), (5, .ptr 2 0 [])] [.one (.pair w1 (.pair (.opq .map) .unit)) (.agg [.d w1 z1, .mp 1]), .kv w2 z2, .one w0 (.d w0 z3)]) s1 s2 s3 s4 s5 s6 s7
theorem l52r10v : LoopV E wF (E.info 52).keep 2 Try.f52.ntmps 53000010 (body Try.f52 10) ([0, 1, 5, 38, 39, 40], lsl52r10) := by
  intro vs σ K h0
  obtain ⟨s1, s2, r4, rfl, h8⟩ := cPDPD h0
  obtain ⟨s3, s4, r6, rfl, h12⟩ := cDD h8
  obtain ⟨rfl, h13⟩ := cN h12
  obtain ⟨a7, r7, rfl, h14⟩ := asCons_inv h13
  obtain ⟨a8, rfl, h15⟩ := asOne_inv h14
  obtain ⟨l9, rfl, h16⟩ := asAgL_inv h15
  obtain ⟨s5, r11, rfl, h20⟩ := cDP h16
  obtain ⟨rfl, h21⟩ := cN h20
  obtain ⟨a12, r12, rfl, h22⟩ := asCons_inv h21
  obtain ⟨s6, rfl, h23⟩ := asKv_inv h22
  obtain ⟨s7, r13, rfl, h26⟩ := oD h23
  obtain ⟨rfl, h27⟩ := cN h26
  intro J hJ
  have hp : ∀ c' ∈ subsOf (E.info 52).keep (body Try.f52 10), SubOK E wF (E.info 52).keep 2 Try.f52.ntmps (lofL nL) c' := all_eq (by kernel_rfl) all_nil
  exact h27.of (fun s1 s2 s3 s4 s5 s6 s7 => J [(53000010, .undef), (0, .ptr 0 0 []), (1, I s1), (5, .ptr 2 0 []), (38, .d (.sl (.pair wI (.pair wI w3))) s2), (39, I s3), (40, I s4)] [.one (.pair w1 (.pair (.opq .map) .unit)) (.agg [.d w1 s5, .mp 1]), .kv w2 s6, .one w0 (.d w0 s7)]) (fun s1 s2 s3 s4 s5 s6 s7 hb => loop_round2 hSl52r10 (inlOK _) hp hJ (by kernel_rfl) hb)
def lsj82r14 : LSp := fun vs σ K => dP (.ptr 0 0 []) vs fun r1 => dD wI r1 fun s1 r2 => dD .bool r2 fun s2 r3 => dD .bool r3 fun s3 r4 => dD .bool r4 fun s4 r5 => asNil r5 <| dO w5 w5 σ fun s5 r6 => asNil r6 <| j82r14 (fun z1 => K .ret [(2, B z1)] []) s1 s2 s3 s4 s5
theorem j82r14v : JoinV E wF (E.info 82).keep 0 Try.f82.ntmps 83400014 4000014 (jbody Try.f82 4000014) ([1, 3, 4, 5, 6], lsj82r14) := by
  intro vs σ K h0
  obtain ⟨s1, s2, s3, r4, rfl, h8⟩ := cPDDD h0
  obtain ⟨s4, r5, rfl, h10⟩ := cD h8
  obtain ⟨rfl, h11⟩ := cN h10
  obtain ⟨s5, r6, rfl, h14⟩ := oD h11
  obtain ⟨rfl, h15⟩ := cN h14
  exact join_round2 (L := lofL nL) nS (inlOK _) (all_eq (by kernel_rfl) all_nil) (by kernel_rfl) h15.of
abbrev L82 : wL := [(83400014, [1, 3, 4, 5, 6], none, lsj82r14)]
def sp82 : Sp := fun args τ K => dD w5 args fun x1 r1 => asNil r1 <| asNil τ <| c82 x1 (fun z1 => K (B z1) [])
theorem h82 : ∀ args τ K, sp82 args τ K → ACall E 82 args τ K := by
  intro args τ K h0
  obtain ⟨x1, r1, rfl, h2⟩ := cD h0
  obtain ⟨rfl, rfl, h4⟩ := cM h2
  exact ACall.spec2 (fn := Try.f82) (c := codeOf Try.f82) (L := lofL L82) nS (by kernel_rfl) (by kernel_rfl) (inlOK _) (all_eq (by kernel_rfl : subsOf (E.info 82).keep (codeOf Try.f82) = [.join 4000014 (jbody Try.f82 4000014)]) (all_cons (joinOK_of (mk := 83400014) (sl := [1, 3, 4, 5, 6]) (ss := [([1, 3, 4, 5, 6], lsj82r14)]) (by kernel_rfl) (by kernel_rfl) (all_cons j82r14v all_nil)) all_nil)) (by kernel_rfl) h4.of
def lsl40r2 : LSp := fun vs σ K => dD w6 vs fun s1 r1 => dD wI r1 fun s2 r2 => dD wI r2 fun s3 r3 => dD wI r3 fun s4 r4 => asNil r4 <| asNil σ <| l40r2 (fun z1 => K .ret [(4, I z1)] []) (K (.exit 0) [(4, .undef)] []) s1 s2 s3 s4
theorem l40r2v : LoopV E wF (E.info 40).keep 0 Try.f40.ntmps 41000002 (body Try.f40 2) ([0, 1, 7, 8], lsl40r2) := by
  intro vs σ K h0
  obtain ⟨s1, s2, s3, s4, r4, rfl, h8⟩ := cDDDD h0
  obtain ⟨rfl, rfl, h10⟩ := cM h8
  intro J hJ
  have hp : wH 40 Try.f40 (body Try.f40 2) nL := all_eq (by kernel_rfl) all_nil
  exact h10.of (fun s1 s2 s3 s4 => J [(41000002, .undef), (0, .d w6 s1), (1, I s2), (7, I s3), (8, I s4)] []) (fun s1 s2 s3 s4 hb => loop_round2 nS (inlOK _) hp hJ (by kernel_rfl) hb)
abbrev L40 : wL := [(41000002, [0, 1, 7, 8], none, lsl40r2)]
def sp40 : Sp := fun args τ K => dD w6 args fun x1 r1 => dD wI r1 fun x2 r2 => asNil r2 <| asNil τ <| c40 x1 x2 (fun z1 => K (I z1) [])
theorem h40 : ∀ args τ K, sp40 args τ K → ACall E 40 args τ K := by
  intro args τ K h0
  obtain ⟨x1, x2, r2, rfl, h4⟩ := cDD h0
  obtain ⟨rfl, rfl, h6⟩ := cM h4
  exact ACall.spec2 (fn := Try.f40) (c := codeOf Try.f40) (L := lofL L40) nS (by kernel_rfl) (by kernel_rfl) (inlOK _) (all_eq (by kernel_rfl : subsOf (E.info 40).keep (codeOf Try.f40) = [.loop (body Try.f40 2)]) (all_cons (loopOK_of (mk := 41000002) (sl := [0, 1, 7, 8]) (ss := [([0, 1, 7, 8], lsl40r2)]) (by kernel_rfl) (by kernel_rfl) (all_cons l40r2v all_nil)) all_nil)) (by kernel_rfl) h6.of
abbrev S20 : wS := [(40, none, sp40)]
theorem hS20 : SpecOK E (ofL S20) := specOK_cons h40 specOK_nil
def sp20 : Sp := fun args τ K => dD w6 args fun x1 r1 => dD wI r1 fun x2 r2 => asNil r2 <| asNil τ <| c20 x1 x2 (fun z1 => K (B z1) [])
theorem h20 : ∀ args τ K, sp20 args τ K → ACall E 20 args τ K := by
  intro args τ K h0
  obtain ⟨x1, x2, r2, rfl, h4⟩ := cDD h0
  obtain ⟨rfl, rfl, h6⟩ := cM h4
  exact ACall.spec2 (fn := Try.f20) (c := codeOf Try.f20) (L := lofL nL) hS20 (by kernel_rfl) (by kernel_rfl) (inlOK _) (all_eq (by kernel_rfl) all_nil) (by kernel_rfl) h6.of
abbrev Sl70r8 : wS := [(83, none, sp83), (20, none, sp20)]
theorem hSl70r8 : SpecOK E (ofL Sl70r8) := specOK_cons h83 (specOK_cons h20 specOK_nil)
def lsl70r8 : LSp := fun vs σ K => dP (.ptr 0 0 []) vs fun r1 => dP (.ptr 1 0 []) r1 fun r2 => dD w6 r2 fun s1 r3 => dD wI r3 fun s2 r4 => dD wI r4 fun s3 r5 => asNil r5 <| dO w1 w1 σ fun s4 r6 => dO w5 w5 r6 fun s5 r8 => asNil r8 <| l70r8 (fun z1 => K .ret [(2, .undef), (3, .undef), (4, I z1)] []) (fun z1 z2 => K (.exit 1) [(2, .ptr 0 0 []), (3, .ptr 1 0 []), (4, .undef)] [.one w1 (.d w1 z1), .one w5 (.d w5 z2)]) s1 s2 s3 s4 s5
theorem l70r8v : LoopV E wF (E.info 70).keep 0 Try.f70.ntmps 71000008 (body Try.f70 8) ([2, 3, 29, 30, 31], lsl70r8) := by
  intro vs σ K h0
  obtain ⟨s1, s2, r4, rfl, h8⟩ := cPPDD h0
  obtain ⟨s3, r5, rfl, h10⟩ := cD h8
  obtain ⟨rfl, h11⟩ := cN h10
  obtain ⟨s4, r6, rfl, h14⟩ := oD h11
  obtain ⟨s5, r8, rfl, h17⟩ := oD h14
  obtain ⟨rfl, h18⟩ := cN h17
  intro J hJ
  have hp : wH 70 Try.f70 (body Try.f70 8) nL := all_eq (by kernel_rfl) all_nil
  exact h18.of (fun s1 s2 s3 s4 s5 => J [(71000008, .undef), (2, .ptr 0 0 []), (3, .ptr 1 0 []), (29, .d w6 s1), (30, I s2), (31, I s3)] [.one w1 (.d w1 s4), .one w5 (.d w5 s5)]) (fun s1 s2 s3 s4 s5 hb => loop_round2 hSl70r8 (inlOK _) hp hJ (by kernel_rfl) hb)
abbrev Sl70r16 : wS := [(51, none, sp51)]
theorem hSl70r16 : SpecOK E (ofL Sl70r16) := specOK_cons h51 specOK_nil
def lsl70r16 : LSp := fun vs σ K => dP (.ptr 0 0 []) vs fun r1 => dD (.sl w3) r1 fun s1 r2 => dD wI r2 fun s2 r3 => dD wI r3 fun s3 r4 => asNil r4 <| dO w1 w1 σ fun s4 r5 => asNil r5 <| l70r16 (fun z1 => K .ret [(4, I z1)] []) (K (.exit 4) [(4, .undef)] []) s1 s2 s3 s4
theorem l70r16v : LoopV E wF (E.info 70).keep 0 Try.f70.ntmps 71000016 (body Try.f70 16) ([2, 49, 50, 51], lsl70r16) := by
  intro vs σ K h0
  obtain ⟨s1, s2, s3, r4, rfl, h8⟩ := cPDDD h0
  obtain ⟨rfl, h9⟩ := cN h8
  obtain ⟨s4, r5, rfl, h12⟩ := oD h9
  obtain ⟨rfl, h13⟩ := cN h12
  intro J hJ
  have hp : wH 70 Try.f70 (body Try.f70 16) nL := all_eq (by kernel_rfl) all_nil
  exact h13.of (fun s1 s2 s3 s4 => J [(71000016, .undef), (2, .ptr 0 0 []), (49, .d (.sl w3) s1), (50, I s2), (51, I s3)] [.one w1 (.d w1 s4)]) (fun s1 s2 s3 s4 hb => loop_round2 hSl70r16 (inlOK _) hp hJ (by kernel_rfl) hb)
abbrev S70 : wS := [(82, none, sp82), (51, none, sp51)]
theorem hS70 : SpecOK E (ofL S70) := specOK_cons h82 (specOK_cons h51 specOK_nil)
abbrev L70 : wL := [(71000008, [2, 3, 29, 30, 31], none, lsl70r8), (71000016, [2, 49, 50, 51], none, lsl70r16)]
def sp70 : Sp := fun args τ K => dD w1 args fun x1 r1 => dD w5 r1 fun x2 r2 => asNil r2 <| asNil τ <| c70 x1 x2 (fun z1 => K (I z1) [])
theorem h70 : ∀ args τ K, sp70 args τ K → ACall E 70 args τ K := by
  intro args τ K h0
  obtain ⟨x1, x2, r2, rfl, h4⟩ := cDD h0
  obtain ⟨rfl, rfl, h6⟩ := cM h4
  exact ACall.spec2 (fn := Try.f70) (c := codeOf Try.f70) (L := lofL L70) hS70 (by kernel_rfl) (by kernel_rfl) (inlOK _) (all_eq (by kernel_rfl : subsOf (E.info 70).keep (codeOf Try.f70) = [.loop (body Try.f70 8), .loop (body Try.f70 16)]) (all_cons (loopOK_of (mk := 71000008) (sl := [2, 3, 29, 30, 31]) (ss := [([2, 3, 29, 30, 31], lsl70r8)]) (by kernel_rfl) (by kernel_rfl) (all_cons l70r8v all_nil)) (all_cons (loopOK_of (mk := 71000016) (sl := [2, 49, 50, 51]) (ss := [([2, 49, 50, 51], lsl70r16)]) (by kernel_rfl) (by kernel_rfl) (all_cons l70r16v all_nil)) all_nil))) (by kernel_rfl) h6.of
abbrev S52 : wS := [(70, none, sp70)]
theorem hS52 : SpecOK E (ofL S52) := specOK_cons h70 specOK_nil
abbrev L52 : wL := [(53000003, [0, 1, 5, 22, 23, 24], none, lsl52r3), (53000010, [0, 1, 5, 38, 39, 40], none, lsl52r10)]
def sp52 : Sp := fun args τ K => dP (.ptr 0 0 []) args fun r1 => dD wI r1 fun x1 r2 => asNil r2 <| asCons τ fun a3 r3 => asOne (.pair w1 (.pair (.opq .map) .unit)) a3 fun a4 => asAgL a4 fun l5 => dD w1 l5 fun x2 r6 => dP (.mp 1) r6 fun r7 => asNil r7 <| asCons r3 fun a8 r8 => asKv w2 a8 fun x3 => asNil r8 <| c52 x1 x2 x3 (fun z1 z2 z3 => K (I z1) [.one (.pair w1 (.pair (.opq .map) .unit)) (.agg [.d w1 z2, .mp 1]), .kv w2 z3])
theorem h52 : ∀ args τ K, sp52 args τ K → ACall E 52 args τ K := by
  intro args τ K h0
  obtain ⟨x1, r2, rfl, h4⟩ := cPD h0
  obtain ⟨rfl, h5⟩ := cN h4
  obtain ⟨a3, r3, rfl, h6⟩ := asCons_inv h5
  obtain ⟨a4, rfl, h7⟩ := asOne_inv h6
  obtain ⟨l5, rfl, h8⟩ := asAgL_inv h7
  obtain ⟨x2, r7, rfl, h12⟩ := cDP h8
  obtain ⟨rfl, h13⟩ := cN h12
  obtain ⟨a8, r8, rfl, h14⟩ := asCons_inv h13
  obtain ⟨x3, rfl, h15⟩ := asKv_inv h14
  obtain ⟨rfl, h16⟩ := cN h15
  exact ACall.spec2 (fn := Try.f52) (c := codeOf Try.f52) (L := lofL L52) hS52 (by kernel_rfl) (by kernel_rfl) (inlOK _) (all_eq (by kernel_rfl : subsOf (E.info 52).keep (codeOf Try.f52) = [.loop (body Try.f52 3), .loop (body Try.f52 10)]) (all_cons (loopOK_of (mk := 53000003) (sl := [0, 1, 5, 22, 23, 24]) (ss := [([0, 1, 5, 22, 23, 24], lsl52r3)]) (by kernel_rfl) (by kernel_rfl) (all_cons l52r3v all_nil)) (all_cons (loopOK_of (mk := 53000010) (sl := [0, 1, 5, 38, 39, 40]) (ss := [([0, 1, 5, 38, 39, 40], lsl52r10)]) (by kernel_rfl) (by kernel_rfl) (all_cons l52r10v all_nil)) all_nil))) (by kernel_rfl) h16.of
abbrev Sl37r15 : wS := [(52, none, sp52)]
theorem hSl37r15 : SpecOK E (ofL Sl37r15) := specOK_cons h52 specOK_nil
def lsl37r15 : LSp := fun vs σ K => dP (.ptr 0 0 []) vs fun r1 => dD wI r1 fun s1 r2 => dD wI r2 fun s2 r3 => asNil r3 <| asCons σ fun a4 r4 => asOne (.pair w1 (.pair (.opq .map) .unit)) a4 fun a5 => asAgL a5 fun l6 => dD w1 l6 fun s3 r7 => dP (.mp 1) r7 fun r8 => asNil r8 <| asCons r4 fun a9 r9 => asKv w2 a9 fun s4 => asNil r9 <| l37r15 (fun z1 => K .ret [(2, I z1), (6, .undef)] []) (fun z1 z2 => K (.exit 3) [(2, .undef), (6, .ptr 0 0 [])] [.one (.pair w1 (.pair (.opq .map) .unit)) (.agg [.d w1 z1, .mp 1]), .kv w2 z2]) s1 s2 s3 s4
theorem l37r15v : LoopV E wF (E.info 37).keep 0 Try.f37.ntmps 38000015 (body Try.f37 15) ([6, 56, 57], lsl37r15) := by
  intro vs σ K h0
  obtain ⟨s1, s2, r3, rfl, h6⟩ := cPDD h0
  obtain ⟨rfl, h7⟩ := cN h6
  obtain ⟨a4, r4, rfl, h8⟩ := asCons_inv h7
  obtain ⟨a5, rfl, h9⟩ := asOne_inv h8
  obtain ⟨l6, rfl, h10⟩ := asAgL_inv h9
  obtain ⟨s3, r8, rfl, h14⟩ := cDP h10
  obtain ⟨rfl, h15⟩ := cN h14
  obtain ⟨a9, r9, rfl, h16⟩ := asCons_inv h15
  obtain ⟨s4, rfl, h17⟩ := asKv_inv h16
  obtain ⟨rfl, h18⟩ := cN h17
  intro J hJ
  have hp : wH 37 Try.f37 (body Try.f37 15) nL := all_eq (by kernel_rfl) all_nil
  exact h18.of (fun s1 s2 s3 s4 => J [(38000015, .undef), (6, .ptr 0 0 []), (56, I s1), (57, I s2)] [.one (.pair w1 (.pair (.opq .map) .unit)) (.agg [.d w1 s3, .mp 1]), .kv w2 s4]) (fun s1 s2 s3 s4 hb => loop_round2 hSl37r15 (inlOK _) hp hJ (by kernel_rfl) hb)
def sp84 : Sp := fun args τ K => dD (.arr 2 (.int .u64)) args fun x1 r1 => dD wI r1 fun x2 r2 => asNil r2 <| asNil τ <| c84 x1 x2 (fun z1 => K (.d (.arr 2 (.int .u64)) z1) [])
theorem h84 : ∀ args τ K, sp84 args τ K → ACall E 84 args τ K := by
  intro args τ K h0
  obtain ⟨x1, x2, r2, rfl, h4⟩ := cDD h0
  obtain ⟨rfl, rfl, h6⟩ := cM h4
  exact ACall.spec2 (fn := Try.f84) (c := codeOf Try.f84) (L := lofL nL) nS (by kernel_rfl) (by kernel_rfl) (inlOK _) (all_eq (by kernel_rfl) all_nil) (by kernel_rfl) h6.of
abbrev Sl71r3 : wS := [(84, none, sp84)]
theorem hSl71r3 : SpecOK E (ofL Sl71r3) := specOK_cons h84 specOK_nil
def lsl71r3 : LSp := fun vs σ K => dP (.ptr 0 0 []) vs fun r1 => dP (.ptr 1 0 []) r1 fun r2 => dP (.ptr 2 0 []) r2 fun r3 => dD wI r3 fun s1 r4 => dD wI r4 fun s2 r5 => asNil r5 <| dO w1 w1 σ fun s3 r6 => dO (.arr 2 (.int .u64)) (.arr 2 (.int .u64)) r6 fun s4 r8 => dO (.arr 2 (.int .u64)) (.arr 2 (.int .u64)) r8 fun s5 r10 => asNil r10 <| l71r3 (fun z1 z2 z3 => K (.exit 0) [(1, .ptr 0 0 []), (3, .ptr 1 0 []), (4, .ptr 2 0 [])] [.one w1 (.d w1 z1), .one (.arr 2 (.int .u64)) (.d (.arr 2 (.int .u64)) z2), .one (.arr 2 (.int .u64)) (.d (.arr 2 (.int .u64)) z3)]) s1 s2 s3 s4 s5
theorem l71r3v : LoopV E wF (E.info 71).keep 0 Try.f71.ntmps 72000003 (body Try.f71 3) ([1, 3, 4, 17, 18], lsl71r3) := by
  intro vs σ K h0
  obtain ⟨s1, r4, rfl, h8⟩ := cPPPD h0
  obtain ⟨s2, r5, rfl, h10⟩ := cD h8
  obtain ⟨rfl, h11⟩ := cN h10
  obtain ⟨s3, r6, rfl, h14⟩ := oD h11
  obtain ⟨s4, r8, rfl, h17⟩ := oD h14
  obtain ⟨s5, r10, rfl, h20⟩ := oD h17
  obtain ⟨rfl, h21⟩ := cN h20
  intro J hJ
  have hp : wH 71 Try.f71 (body Try.f71 3) nL := all_eq (by kernel_rfl) all_nil
  exact h21.of (fun s1 s2 s3 s4 s5 => J [(72000003, .undef), (1, .ptr 0 0 []), (3, .ptr 1 0 []), (4, .ptr 2 0 []), (17, I s1), (18, I s2)] [.one w1 (.d w1 s3), .one (.arr 2 (.int .u64)) (.d (.arr 2 (.int .u64)) s4), .one (.arr 2 (.int .u64)) (.d (.arr 2 (.int .u64)) s5)]) (fun s1 s2 s3 s4 s5 hb => loop_round2 hSl71r3 (inlOK _) hp hJ (by kernel_rfl) hb)
def lsl71r9 : LSp := fun vs σ K => dP (.ptr 0 0 []) vs fun r1 => dP (.ptr 1 0 []) r1 fun r2 => dP (.ptr 2 0 []) r2 fun r3 => dP (.vec 3) r3 fun r4 => dD wI r4 fun s1 r5 => dD wI r5 fun s2 r6 => asNil r6 <| dO w1 w1 σ fun s3 r7 => dO (.arr 2 (.int .u64)) (.arr 2 (.int .u64)) r7 fun s4 r9 => dO (.arr 2 (.int .u64)) (.arr 2 (.int .u64)) r9 fun s5 r11 => dR (.arr 2 (.int .u64)) false r11 fun s6 r13 => asNil r13 <| l71r9 (fun z1 z2 z3 => K (.exit 2) [(1, .ptr 0 0 []), (3, .ptr 1 0 []), (6, .vec 2)] [.one w1 (.d w1 z1), .one (.arr 2 (.int .u64)) (.d (.arr 2 (.int .u64)) z2), .row (.arr 2 (.int .u64)) z3 false]) s1 s2 s3 s4 s5 s6
theorem l71r9v : LoopV E wF (E.info 71).keep 0 Try.f71.ntmps 72000009 (body Try.f71 9) ([1, 3, 4, 6, 30, 31], lsl71r9) := by
  intro vs σ K h0
  obtain ⟨r4, rfl, h8⟩ := cPPPP h0
  obtain ⟨s1, s2, r6, rfl, h12⟩ := cDD h8
  obtain ⟨rfl, h13⟩ := cN h12
  obtain ⟨s3, r7, rfl, h16⟩ := oD h13
  obtain ⟨s4, r9, rfl, h19⟩ := oD h16
  obtain ⟨s5, r11, rfl, h22⟩ := oD h19
  obtain ⟨s6, r13, rfl, h24⟩ := cR h22
  obtain ⟨rfl, h25⟩ := cN h24
  intro J hJ
  have hp : wH 71 Try.f71 (body Try.f71 9) nL := all_eq (by kernel_rfl) all_nil
  exact h25.of (fun s1 s2 s3 s4 s5 s6 => J [(72000009, .undef), (1, .ptr 0 0 []), (3, .ptr 1 0 []), (4, .ptr 2 0 []), (6, .vec 3), (30, I s1), (31, I s2)] [.one w1 (.d w1 s3), .one (.arr 2 (.int .u64)) (.d (.arr 2 (.int .u64)) s4), .one (.arr 2 (.int .u64)) (.d (.arr 2 (.int .u64)) s5), .row (.arr 2 (.int .u64)) s6 false]) (fun s1 s2 s3 s4 s5 s6 hb => loop_round2 nS (inlOK _) hp hJ (by kernel_rfl) hb)
def sp73 : Sp := fun args τ K => dD (.arr 2 (.int .u64)) args fun x1 r1 => dD wI r1 fun x2 r2 => asNil r2 <| asNil τ <| c73 x1 x2 (fun z1 => K (B z1) [])
theorem h73 : ∀ args τ K, sp73 args τ K → ACall E 73 args τ K := by
  intro args τ K h0
  obtain ⟨x1, x2, r2, rfl, h4⟩ := cDD h0
  obtain ⟨rfl, rfl, h6⟩ := cM h4
  exact ACall.spec2 (fn := Try.f73) (c := codeOf Try.f73) (L := lofL nL) nS (by kernel_rfl) (by kernel_rfl) (inlOK _) (all_eq (by kernel_rfl) all_nil) (by kernel_rfl) h6.of
def sp85 : Sp := fun args τ K => dD (.arr 2 (.int .u64)) args fun x1 r1 => dD (.arr 2 (.int .u64)) r1 fun x2 r2 => asNil r2 <| asNil τ <| c85 x1 x2 (fun z1 => K (.d (.arr 2 (.int .u64)) z1) [])
theorem h85 : ∀ args τ K, sp85 args τ K → ACall E 85 args τ K := by
  intro args τ K h0
  obtain ⟨x1, x2, r2, rfl, h4⟩ := cDD h0
  obtain ⟨rfl, rfl, h6⟩ := cM h4
  exact ACall.spec2 (fn := Try.f85) (c := codeOf Try.f85) (L := lofL nL) nS (by kernel_rfl) (by kernel_rfl) (inlOK _) (all_eq (by kernel_rfl) all_nil) (by kernel_rfl) h6.of
abbrev Sj71r26 : wS := [(84, none, sp84), (73, none, sp73)]
theorem hSj71r26 : SpecOK E (ofL Sj71r26) := specOK_cons h84 (specOK_cons h73 specOK_nil)
def lsj71r26 : LSp := fun vs σ K => dP (.ptr 0 0 []) vs fun r1 => dP (.ptr 1 0 []) r1 fun r2 => dP (.vec 2) r2 fun r3 => dP (.ptr 3 0 []) r3 fun r4 => dD .bool r4 fun s1 r5 => dD wI r5 fun s2 r6 => dP (.ptr 4 0 []) r6 fun r7 => dP (.ptr 5 0 []) r7 fun r8 => dD (.sl w0) r8 fun s3 r9 => dD wI r9 fun s4 r10 => dD wI r10 fun s5 r11 => dD (.sl w3) r11 fun s6 r12 => dD wI r12 fun s7 r13 => dD wI r13 fun s8 r14 => asNil r14 <| dO w1 w1 σ fun s9 r15 => dO (.arr 2 (.int .u64)) (.arr 2 (.int .u64)) r15 fun s10 r17 => dR (.arr 2 (.int .u64)) false r17 fun s11 r19 => dO (.arr 2 (.int .u64)) (.arr 2 (.int .u64)) r19 fun s12 r20 => dO w3 w3 r20 fun s13 r22 => dO (.arr 2 (.int .u64)) (.arr 2 (.int .u64)) r22 fun s14 r24 => asNil r24 <| j71r26 (fun z1 z2 z3 z4 z5 z6 z7 z8 z9 z10 z11 z12 => K .normal [(1, .ptr 0 0 []), (3, .ptr 1 0 []), (6, .vec 2), (8, .ptr 3 0 []), (9, B z1), (10, I z2), (47, .d (.sl w0) z3), (48, I z4), (49, I z5), (60, .d (.sl w3) z6), (61, I z7), (62, I z8)] [.one w1 (.d w1 z9), .one (.arr 2 (.int .u64)) (.d (.arr 2 (.int .u64)) z10), .row (.arr 2 (.int .u64)) z11 false, .one (.arr 2 (.int .u64)) (.d (.arr 2 (.int .u64)) z12)]) s1 s2 s3 s4 s5 s6 s7 s8 s9 s10 s11 s12 s13 s14
theorem j71r26v : JoinV E wF (E.info 71).keep 0 Try.f71.ntmps 72400026 4000026 (jbody Try.f71 4000026) ([1, 3, 6, 8, 9, 10, 13, 14, 47, 48, 49, 60, 61, 62], lsj71r26) := by
  intro vs σ K h0
  obtain ⟨r4, rfl, h8⟩ := cPPPP h0
  obtain ⟨s1, s2, r8, rfl, h16⟩ := cDDPP h8
  obtain ⟨s3, s4, s5, s6, r12, rfl, h24⟩ := cDDDD h16
  obtain ⟨s7, s8, r14, rfl, h28⟩ := cDD h24
  obtain ⟨rfl, h29⟩ := cN h28
  obtain ⟨s9, r15, rfl, h32⟩ := oD h29
  obtain ⟨s10, r17, rfl, h35⟩ := oD h32
  obtain ⟨s11, r19, rfl, h37⟩ := cR h35
  obtain ⟨s12, r20, rfl, h40⟩ := oD h37
  obtain ⟨s13, r22, rfl, h43⟩ := oD h40
  obtain ⟨s14, r24, rfl, h46⟩ := oD h43
  obtain ⟨rfl, h47⟩ := cN h46
  exact join_round2 (L := lofL nL) hSj71r26 (inlOK _) (all_eq (by kernel_rfl) all_nil) (by kernel_rfl) h47.of
abbrev Sl71r23 : wS := [(85, none, sp85), (84, none, sp84)]
theorem hSl71r23 : SpecOK E (ofL Sl71r23) := specOK_cons h85 (specOK_cons h84 specOK_nil)
abbrev Ll71r23 : wL := [(72400026, [1, 3, 6, 8, 9, 10, 13, 14, 47, 48, 49, 60, 61, 62], none, lsj71r26)]
def lsl71r23 : LSp := fun vs σ K => dP (.ptr 0 0 []) vs fun r1 => dP (.ptr 1 0 []) r1 fun r2 => dP (.vec 2) r2 fun r3 => dP (.ptr 3 0 []) r3 fun r4 => dD .bool r4 fun s1 r5 => dD wI r5 fun s2 r6 => dD (.sl w0) r6 fun s3 r7 => dD wI r7 fun s4 r8 => dD wI r8 fun s5 r9 => dD (.sl w3) r9 fun s6 r10 => dD wI r10 fun s7 r11 => dD wI r11 fun s8 r12 => asNil r12 <| dO w1 w1 σ fun s9 r13 => dO (.arr 2 (.int .u64)) (.arr 2 (.int .u64)) r13 fun s10 r15 => dR (.arr 2 (.int .u64)) false r15 fun s11 r17 => dO (.arr 2 (.int .u64)) (.arr 2 (.int .u64)) r17 fun s12 r18 => asNil r18 <| l71r23 (fun z1 z2 z3 z4 z5 z6 z7 z8 => K (.exit 8) [(1, .ptr 0 0 []), (3, .ptr 1 0 []), (6, .vec 2), (8, .ptr 3 0 []), (9, B z1), (47, .d (.sl w0) z2), (48, I z3), (49, I z4)] [.one w1 (.d w1 z5), .one (.arr 2 (.int .u64)) (.d (.arr 2 (.int .u64)) z6), .row (.arr 2 (.int .u64)) z7 false, .one (.arr 2 (.int .u64)) (.d (.arr 2 (.int .u64)) z8)]) s1 s2 s3 s4 s5 s6 s7 s8 s9 s10 s11 s12
theorem l71r23v : LoopV E wF (E.info 71).keep 0 Try.f71.ntmps 72000023 (body Try.f71 23) ([1, 3, 6, 8, 9, 10, 47, 48, 49, 60, 61, 62], lsl71r23) := by
  intro vs σ K h0
  obtain ⟨r4, rfl, h8⟩ := cPPPP h0
  obtain ⟨s1, s2, s3, s4, r8, rfl, h16⟩ := cDDDD h8
  obtain ⟨s5, s6, s7, s8, r12, rfl, h24⟩ := cDDDD h16
  obtain ⟨rfl, h25⟩ := cN h24
  obtain ⟨s9, r13, rfl, h28⟩ := oD h25
  obtain ⟨s10, r15, rfl, h31⟩ := oD h28
  obtain ⟨s11, r17, rfl, h33⟩ := cR h31
  obtain ⟨s12, r18, rfl, h36⟩ := oD h33
  obtain ⟨rfl, h37⟩ := cN h36
  intro J hJ
  have hp : wH 71 Try.f71 (body Try.f71 23) Ll71r23 := all_eq (by kernel_rfl : subsOf (E.info 71).keep (body Try.f71 23) = [.join 4000026 (jbody Try.f71 4000026)]) (all_cons (joinOK_of (mk := 72400026) (sl := [1, 3, 6, 8, 9, 10, 13, 14, 47, 48, 49, 60, 61, 62]) (ss := [([1, 3, 6, 8, 9, 10, 13, 14, 47, 48, 49, 60, 61, 62], lsj71r26)]) (by kernel_rfl) (by kernel_rfl) (all_cons j71r26v all_nil)) all_nil)
  exact h37.of (fun s1 s2 s3 s4 s5 s6 s7 s8 s9 s10 s11 s12 => J [(72000023, .undef), (1, .ptr 0 0 []), (3, .ptr 1 0 []), (6, .vec 2), (8, .ptr 3 0 []), (9, B s1), (10, I s2), (47, .d (.sl w0) s3), (48, I s4), (49, I s5), (60, .d (.sl w3) s6), (61, I s7), (62, I s8)] [.one w1 (.d w1 s9), .one (.arr 2 (.int .u64)) (.d (.arr 2 (.int .u64)) s10), .row (.arr 2 (.int .u64)) s11 false, .one (.arr 2 (.int .u64)) (.d (.arr 2 (.int .u64)) s12)]) (fun s1 s2 s3 s4 s5 s6 s7 s8 s9 s10 s11 s12 hb => loop_round2 hSl71r23 (inlOK _) hp hJ (by kernel_rfl) hb)
abbrev Sl71r19 : wS := [(73, none, sp73)]
theorem hSl71r19 : SpecOK E (ofL Sl71r19) := specOK_cons h73 specOK_nil
abbrev Ll71r19 : wL := [(72000023, [1, 3, 6, 8, 9, 10, 47, 48, 49, 60, 61, 62], none, lsl71r23)]
def lsl71r19 : LSp := fun vs σ K => dP (.ptr 0 0 []) vs fun r1 => dP (.ptr 1 0 []) r1 fun r2 => dP (.vec 2) r2 fun r3 => dP (.ptr 3 0 []) r3 fun r4 => dD .bool r4 fun s1 r5 => dD (.sl w0) r5 fun s2 r6 => dD wI r6 fun s3 r7 => dD wI r7 fun s4 r8 => asNil r8 <| dO w1 w1 σ fun s5 r9 => dO (.arr 2 (.int .u64)) (.arr 2 (.int .u64)) r9 fun s6 r11 => dR (.arr 2 (.int .u64)) false r11 fun s7 r13 => dO (.arr 2 (.int .u64)) (.arr 2 (.int .u64)) r13 fun s8 r14 => asNil r14 <| l71r19 (fun z1 z2 z3 z4 z5 => K (.exit 6) [(1, .ptr 0 0 []), (3, .ptr 1 0 []), (6, .vec 2), (8, .ptr 3 0 []), (9, B z1)] [.one w1 (.d w1 z2), .one (.arr 2 (.int .u64)) (.d (.arr 2 (.int .u64)) z3), .row (.arr 2 (.int .u64)) z4 false, .one (.arr 2 (.int .u64)) (.d (.arr 2 (.int .u64)) z5)]) s1 s2 s3 s4 s5 s6 s7 s8
theorem l71r19v : LoopV E wF (E.info 71).keep 0 Try.f71.ntmps 72000019 (body Try.f71 19) ([1, 3, 6, 8, 9, 47, 48, 49], lsl71r19) := by
  intro vs σ K h0
  obtain ⟨r4, rfl, h8⟩ := cPPPP h0
  obtain ⟨s1, s2, s3, s4, r8, rfl, h16⟩ := cDDDD h8
  obtain ⟨rfl, h17⟩ := cN h16
  obtain ⟨s5, r9, rfl, h20⟩ := oD h17
  obtain ⟨s6, r11, rfl, h23⟩ := oD h20
  obtain ⟨s7, r13, rfl, h25⟩ := cR h23
  obtain ⟨s8, r14, rfl, h28⟩ := oD h25
  obtain ⟨rfl, h29⟩ := cN h28
  intro J hJ
  have hp : wH 71 Try.f71 (body Try.f71 19) Ll71r19 := all_eq (by kernel_rfl : subsOf (E.info 71).keep (body Try.f71 19) = [.loop (body Try.f71 23)]) (all_cons (loopOK_of (mk := 72000023) (sl := [1, 3, 6, 8, 9, 10, 47, 48, 49, 60, 61, 62]) (ss := [([1, 3, 6, 8, 9, 10, 47, 48, 49, 60, 61, 62], lsl71r23)]) (by kernel_rfl) (by kernel_rfl) (all_cons l71r23v all_nil)) all_nil)
  exact h29.of (fun s1 s2 s3 s4 s5 s6 s7 s8 => J [(72000019, .undef), (1, .ptr 0 0 []), (3, .ptr 1 0 []), (6, .vec 2), (8, .ptr 3 0 []), (9, B s1), (47, .d (.sl w0) s2), (48, I s3), (49, I s4)] [.one w1 (.d w1 s5), .one (.arr 2 (.int .u64)) (.d (.arr 2 (.int .u64)) s6), .row (.arr 2 (.int .u64)) s7 false, .one (.arr 2 (.int .u64)) (.d (.arr 2 (.int .u64)) s8)]) (fun s1 s2 s3 s4 s5 s6 s7 s8 hb => loop_round2 hSl71r19 (inlOK _) hp hJ (by kernel_rfl) hb)
abbrev Ll71r16 : wL := [(72000019, [1, 3, 6, 8, 9, 47, 48, 49], none, lsl71r19)]
def lsl71r16 : LSp := fun vs σ K => dP (.ptr 0 0 []) vs fun r1 => dP (.ptr 1 0 []) r1 fun r2 => dP (.vec 2) r2 fun r3 => dP (.ptr 3 0 []) r3 fun r4 => dD .bool r4 fun s1 r5 => asNil r5 <| dO w1 w1 σ fun s2 r6 => dO (.arr 2 (.int .u64)) (.arr 2 (.int .u64)) r6 fun s3 r8 => dR (.arr 2 (.int .u64)) false r8 fun s4 r10 => dO (.arr 2 (.int .u64)) (.arr 2 (.int .u64)) r10 fun s5 r11 => asNil r11 <| l71r16 (fun z1 z2 z3 => K (.exit 4) [(3, .ptr 0 0 []), (6, .vec 1), (8, .ptr 2 0 [])] [.one (.arr 2 (.int .u64)) (.d (.arr 2 (.int .u64)) z1), .row (.arr 2 (.int .u64)) z2 false, .one (.arr 2 (.int .u64)) (.d (.arr 2 (.int .u64)) z3)]) s1 s2 s3 s4 s5
theorem l71r16v : LoopV E wF (E.info 71).keep 0 Try.f71.ntmps 72000016 (body Try.f71 16) ([1, 3, 6, 8, 9], lsl71r16) := by
  intro vs σ K h0
  obtain ⟨r4, rfl, h8⟩ := cPPPP h0
  obtain ⟨s1, r5, rfl, h10⟩ := cD h8
  obtain ⟨rfl, h11⟩ := cN h10
  obtain ⟨s2, r6, rfl, h14⟩ := oD h11
  obtain ⟨s3, r8, rfl, h17⟩ := oD h14
  obtain ⟨s4, r10, rfl, h19⟩ := cR h17
  obtain ⟨s5, r11, rfl, h22⟩ := oD h19
  obtain ⟨rfl, h23⟩ := cN h22
  intro J hJ
  have hp : wH 71 Try.f71 (body Try.f71 16) Ll71r16 := all_eq (by kernel_rfl : subsOf (E.info 71).keep (body Try.f71 16) = [.loop (body Try.f71 19)]) (all_cons (loopOK_of (mk := 72000019) (sl := [1, 3, 6, 8, 9, 47, 48, 49]) (ss := [([1, 3, 6, 8, 9, 47, 48, 49], lsl71r19)]) (by kernel_rfl) (by kernel_rfl) (all_cons l71r19v all_nil)) all_nil)
  exact h23.of (fun s1 s2 s3 s4 s5 => J [(72000016, .undef), (1, .ptr 0 0 []), (3, .ptr 1 0 []), (6, .vec 2), (8, .ptr 3 0 []), (9, B s1)] [.one w1 (.d w1 s2), .one (.arr 2 (.int .u64)) (.d (.arr 2 (.int .u64)) s3), .row (.arr 2 (.int .u64)) s4 false, .one (.arr 2 (.int .u64)) (.d (.arr 2 (.int .u64)) s5)]) (fun s1 s2 s3 s4 s5 hb => loop_round2 nS (inlOK _) hp hJ (by kernel_rfl) hb)
abbrev S71 : wS := [(84, none, sp84)]
theorem hS71 : SpecOK E (ofL S71) := specOK_cons h84 specOK_nil
abbrev L71 : wL := [(72000003, [1, 3, 4, 17, 18], none, lsl71r3), (72000009, [1, 3, 4, 6, 30, 31], none, lsl71r9), (72000016, [1, 3, 6, 8, 9], none, lsl71r16)]
def sp71 : Sp := fun args τ K => dD w1 args fun x1 r1 => asNil r1 <| asNil τ <| c71 x1 (fun z1 z2 => K (.tup [.vec 0, .d (.arr 2 (.int .u64)) z1]) [.row (.arr 2 (.int .u64)) z2 false])
theorem h71 : ∀ args τ K, sp71 args τ K → ACall E 71 args τ K := by
  intro args τ K h0
  obtain ⟨x1, r1, rfl, h2⟩ := cD h0
  obtain ⟨rfl, rfl, h4⟩ := cM h2
  exact ACall.spec2 (fn := Try.f71) (c := codeOf Try.f71) (L := lofL L71) hS71 (by kernel_rfl) (by kernel_rfl) (inlOK _) (all_eq (by kernel_rfl : subsOf (E.info 71).keep (codeOf Try.f71) = [.loop (body Try.f71 3), .loop (body Try.f71 9), .loop (body Try.f71 16)]) (all_cons (loopOK_of (mk := 72000003) (sl := [1, 3, 4, 17, 18]) (ss := [([1, 3, 4, 17, 18], lsl71r3)]) (by kernel_rfl) (by kernel_rfl) (all_cons l71r3v all_nil)) (all_cons (loopOK_of (mk := 72000009) (sl := [1, 3, 4, 6, 30, 31]) (ss := [([1, 3, 4, 6, 30, 31], lsl71r9)]) (by kernel_rfl) (by kernel_rfl) (all_cons l71r9v all_nil)) (all_cons (loopOK_of (mk := 72000016) (sl := [1, 3, 6, 8, 9]) (ss := [([1, 3, 6, 8, 9], lsl71r16)]) (by kernel_rfl) (by kernel_rfl) (all_cons l71r16v all_nil)) all_nil)))) (by kernel_rfl) h4.of
abbrev S72 : wS := [(73, none, sp73)]
theorem hS72 : SpecOK E (ofL S72) := specOK_cons h73 specOK_nil
def sp72 : Sp := fun args τ K => dD wI args fun x1 r1 => dP (.ptr 0 0 []) r1 fun r2 => dP (.ptr 3 0 []) r2 fun r3 => dP (.ptr 4 0 []) r3 fun r4 => dP (.ptr 5 0 []) r4 fun r5 => dP (.ptr 7 0 []) r5 fun r6 => asNil r6 <| dQ (.opq .ptr) (.ptr 1 0 []) τ fun r7 => asCons r7 fun a9 r9 => asOne (.pair w1 (.pair (.opq .map) .unit)) a9 fun a10 => asAgL a10 fun l11 => dD w1 l11 fun x2 r12 => dP (.mp 2) r12 fun r13 => asNil r13 <| asCons r9 fun a14 r14 => asKv w2 a14 fun x3 => dO wI wI r14 fun x4 r15 => dO wI wI r15 fun x5 r17 => dQ (.sl (.arr 2 (.int .u64))) (.vec 6) r17 fun r19 => dR (.arr 2 (.int .u64)) false r19 fun x6 r21 => dO (.arr 2 (.int .u64)) (.arr 2 (.int .u64)) r21 fun x7 r22 => asNil r22 <| c72 x1 x2 x3 x4 x5 x6 x7 (fun z1 z2 z3 z4 z5 z6 z7 => K (B z1) [.one (.opq .ptr) (.ptr 1 0 []), .one (.pair w1 (.pair (.opq .map) .unit)) (.agg [.d w1 z2, .mp 2]), .kv w2 z3, .one wI (I z4), .one wI (I z5), .one (.sl (.arr 2 (.int .u64))) (.vec 6), .row (.arr 2 (.int .u64)) z6 false, .one (.arr 2 (.int .u64)) (.d (.arr 2 (.int .u64)) z7)])
theorem h72 : ∀ args τ K, sp72 args τ K → ACall E 72 args τ K := by
  intro args τ K h0
  obtain ⟨x1, r4, rfl, h8⟩ := cDPPP h0
  obtain ⟨r6, rfl, h12⟩ := cPP h8
  obtain ⟨rfl, h13⟩ := cN h12
  obtain ⟨r7, rfl, h16⟩ := oP h13
  obtain ⟨a9, r9, rfl, h17⟩ := asCons_inv h16
  obtain ⟨a10, rfl, h18⟩ := asOne_inv h17
  obtain ⟨l11, rfl, h19⟩ := asAgL_inv h18
  obtain ⟨x2, r13, rfl, h23⟩ := cDP h19
  obtain ⟨rfl, h24⟩ := cN h23
  obtain ⟨a14, r14, rfl, h25⟩ := asCons_inv h24
  obtain ⟨x3, rfl, h26⟩ := asKv_inv h25
  obtain ⟨x4, r15, rfl, h29⟩ := oD h26
  obtain ⟨x5, r17, rfl, h32⟩ := oD h29
  obtain ⟨r19, rfl, h35⟩ := oP h32
  obtain ⟨x6, r21, rfl, h37⟩ := cR h35
  obtain ⟨x7, r22, rfl, h40⟩ := oD h37
  obtain ⟨rfl, h41⟩ := cN h40
  exact ACall.spec2 (fn := Try.f72) (c := codeOf Try.f72) (L := lofL nL) hS72 (by kernel_rfl) (by kernel_rfl) (inlOK _) (all_eq (by kernel_rfl) all_nil) (by kernel_rfl) h41.of
abbrev Sl53r12 : wS := [(72, none, sp72)]
theorem hSl53r12 : SpecOK E (ofL Sl53r12) := specOK_cons h72 specOK_nil
def lsl53r12 : LSp := fun vs σ K => dP (.ptr 2 0 []) vs fun r1 => dP (.ptr 3 0 []) r1 fun r2 => dP (.ptr 5 0 []) r2 fun r3 => dP (.ptr 6 0 []) r3 fun r4 => dP (.ptr 7 0 []) r4 fun r5 => asCons r5 fun a6 r6 => asFn 72 a6 fun l7 l8 => asNil l7 <| dP (.ptr 2 0 []) l8 fun r9 => dP (.ptr 8 0 []) r9 fun r10 => dP (.ptr 7 0 []) r10 fun r11 => dP (.ptr 3 0 []) r11 fun r12 => dP (.ptr 5 0 []) r12 fun r13 => asNil r13 <| dD (.sl w0) r6 fun s1 r14 => dD wI r14 fun s2 r15 => dD wI r15 fun s3 r16 => dD (.sl (.pair wI (.pair wI w3))) r16 fun s4 r17 => dD wI r17 fun s5 r18 => dD wI r18 fun s6 r19 => dD w6 r19 fun s7 r20 => dD wI r20 fun s8 r21 => dD wI r21 fun s9 r22 => asNil r22 <| asCons σ fun a23 r23 => asOne (.pair w1 (.pair (.opq .map) .unit)) a23 fun a24 => asAgL a24 fun l25 => dD w1 l25 fun s10 r26 => dP (.mp 1) r26 fun r27 => asNil r27 <| asCons r23 fun a28 r28 => asKv w2 a28 fun s11 => dQ (.opq .ptr) (.ptr 0 0 []) r28 fun r29 => dQ (.sl (.arr 2 (.int .u64))) (.vec 4) r29 fun r31 => dR (.arr 2 (.int .u64)) false r31 fun s12 r33 => dO (.arr 2 (.int .u64)) (.arr 2 (.int .u64)) r33 fun s13 r34 => dO w0 w0 r34 fun s14 r36 => dO wI wI r36 fun s15 r38 => dO wI wI r38 fun s16 r40 => asNil r40 <| l53r12 (fun z1 z2 z3 => K .ret [(1, .undef), (2, I z1), (3, .undef), (4, .undef), (6, .undef), (7, .undef), (8, .undef), (25, .undef), (26, .undef), (27, .undef), (34, .undef), (35, .undef), (36, .undef)] [.one (.pair w1 (.pair (.opq .map) .unit)) (.agg [.d w1 z2, .mp 1]), .kv w2 z3]) (fun z1 z2 z3 z4 z5 z6 z7 z8 z9 z10 z11 z12 z13 => K (.exit 4) [(1, .ptr 2 0 []), (2, .undef), (3, .ptr 3 0 []), (4, .ptr 5 0 []), (6, .ptr 6 0 []), (7, .ptr 7 0 []), (8, .fn 72 [] [.ptr 2 0 [], .ptr 8 0 [], .ptr 7 0 [], .ptr 3 0 [], .ptr 5 0 []]), (25, .d (.sl w0) z1), (26, I z2), (27, I z3), (34, .d (.sl (.pair wI (.pair wI w3))) z4), (35, I z5), (36, I z6)] [.one (.pair w1 (.pair (.opq .map) .unit)) (.agg [.d w1 z7, .mp 1]), .kv w2 z8, .one (.opq .ptr) (.ptr 0 0 []), .one (.sl (.arr 2 (.int .u64))) (.vec 4), .row (.arr 2 (.int .u64)) z9 false, .one (.arr 2 (.int .u64)) (.d (.arr 2 (.int .u64)) z10), .one w0 (.d w0 z11), .one wI (I z12), .one wI (I z13)]) s1 s2 s3 s4 s5 s6 s7 s8 s9 s10 s11 s12 s13 s14 s15 s16
theorem l53r12v : LoopV E wF (E.info 53).keep 2 Try.f53.ntmps 54000012 (body Try.f53 12) ([1, 3, 4, 6, 7, 8, 25, 26, 27, 34, 35, 36, 43, 44, 45], lsl53r12) := by
  intro vs σ K h0
  obtain ⟨r4, rfl, h8⟩ := cPPPP h0
  obtain ⟨r5, rfl, h10⟩ := cP h8
  obtain ⟨a6, r6, rfl, h11⟩ := asCons_inv h10
  obtain ⟨l7, l8, rfl, h12⟩ := asFn_inv h11
  obtain ⟨rfl, h13⟩ := cN h12
  obtain ⟨r12, rfl, h21⟩ := cPPPP h13
  obtain ⟨r13, rfl, h23⟩ := cP h21
  obtain ⟨rfl, h24⟩ := cN h23
  obtain ⟨s1, s2, s3, s4, r17, rfl, h32⟩ := cDDDD h24
  obtain ⟨s5, s6, s7, s8, r21, rfl, h40⟩ := cDDDD h32
  obtain ⟨s9, r22, rfl, h42⟩ := cD h40
  obtain ⟨rfl, h43⟩ := cN h42
  obtain ⟨a23, r23, rfl, h44⟩ := asCons_inv h43
  obtain ⟨a24, rfl, h45⟩ := asOne_inv h44
  obtain ⟨l25, rfl, h46⟩ := asAgL_inv h45
  obtain ⟨s10, r27, rfl, h50⟩ := cDP h46
  obtain ⟨rfl, h51⟩ := cN h50
  obtain ⟨a28, r28, rfl, h52⟩ := asCons_inv h51
  obtain ⟨s11, rfl, h53⟩ := asKv_inv h52
  obtain ⟨r29, rfl, h56⟩ := oP h53
  obtain ⟨r31, rfl, h59⟩ := oP h56
  obtain ⟨s12, r33, rfl, h61⟩ := cR h59
  obtain ⟨s13, r34, rfl, h64⟩ := oD h61
  obtain ⟨s14, r36, rfl, h67⟩ := oD h64
  obtain ⟨s15, r38, rfl, h70⟩ := oD h67
  obtain ⟨s16, r40, rfl, h73⟩ := oD h70
  obtain ⟨rfl, h74⟩ := cN h73
  intro J hJ
  have hp : ∀ c' ∈ subsOf (E.info 53).keep (body Try.f53 12), SubOK E wF (E.info 53).keep 2 Try.f53.ntmps (lofL nL) c' := all_eq (by kernel_rfl) all_nil
  exact h74.of (fun s1 s2 s3 s4 s5 s6 s7 s8 s9 s10 s11 s12 s13 s14 s15 s16 => J [(54000012, .undef), (1, .ptr 2 0 []), (3, .ptr 3 0 []), (4, .ptr 5 0 []), (6, .ptr 6 0 []), (7, .ptr 7 0 []), (8, .fn 72 [] [.ptr 2 0 [], .ptr 8 0 [], .ptr 7 0 [], .ptr 3 0 [], .ptr 5 0 []]), (25, .d (.sl w0) s1), (26, I s2), (27, I s3), (34, .d (.sl (.pair wI (.pair wI w3))) s4), (35, I s5), (36, I s6), (43, .d w6 s7), (44, I s8), (45, I s9)] [.one (.pair w1 (.pair (.opq .map) .unit)) (.agg [.d w1 s10, .mp 1]), .kv w2 s11, .one (.opq .ptr) (.ptr 0 0 []), .one (.sl (.arr 2 (.int .u64))) (.vec 4), .row (.arr 2 (.int .u64)) s12 false, .one (.arr 2 (.int .u64)) (.d (.arr 2 (.int .u64)) s13), .one w0 (.d w0 s14), .one wI (I s15), .one wI (I s16)]) (fun s1 s2 s3 s4 s5 s6 s7 s8 s9 s10 s11 s12 s13 s14 s15 s16 hb => loop_round2 hSl53r12 (inlOK _) hp hJ (by kernel_rfl) hb)
abbrev Ll53r8 : wL := [(54000012, [1, 3, 4, 6, 7, 8, 25, 26, 27, 34, 35, 36, 43, 44, 45], none, lsl53r12)]
def lsl53r8 : LSp := fun vs σ K => dP (.ptr 2 0 []) vs fun r1 => dP (.ptr 3 0 []) r1 fun r2 => dP (.ptr 5 0 []) r2 fun r3 => dP (.ptr 6 0 []) r3 fun r4 => dP (.ptr 7 0 []) r4 fun r5 => asCons r5 fun a6 r6 => asFn 72 a6 fun l7 l8 => asNil l7 <| dP (.ptr 2 0 []) l8 fun r9 => dP (.ptr 8 0 []) r9 fun r10 => dP (.ptr 7 0 []) r10 fun r11 => dP (.ptr 3 0 []) r11 fun r12 => dP (.ptr 5 0 []) r12 fun r13 => asNil r13 <| dD (.sl w0) r6 fun s1 r14 => dD wI r14 fun s2 r15 => dD wI r15 fun s3 r16 => dD (.sl (.pair wI (.pair wI w3))) r16 fun s4 r17 => dD wI r17 fun s5 r18 => dD wI r18 fun s6 r19 => asNil r19 <| asCons σ fun a20 r20 => asOne (.pair w1 (.pair (.opq .map) .unit)) a20 fun a21 => asAgL a21 fun l22 => dD w1 l22 fun s7 r23 => dP (.mp 1) r23 fun r24 => asNil r24 <| asCons r20 fun a25 r25 => asKv w2 a25 fun s8 => dQ (.opq .ptr) (.ptr 0 0 []) r25 fun r26 => dQ (.sl (.arr 2 (.int .u64))) (.vec 4) r26 fun r28 => dR (.arr 2 (.int .u64)) false r28 fun s9 r30 => dO (.arr 2 (.int .u64)) (.arr 2 (.int .u64)) r30 fun s10 r31 => dO w0 w0 r31 fun s11 r33 => dO wI wI r33 fun s12 r35 => dO wI wI r35 fun s13 r37 => asNil r37 <| l53r8 (fun z1 z2 z3 => K .ret [(1, .undef), (2, I z1), (3, .undef), (4, .undef), (6, .undef), (7, .undef), (8, .undef), (25, .undef), (26, .undef), (27, .undef)] [.one (.pair w1 (.pair (.opq .map) .unit)) (.agg [.d w1 z2, .mp 1]), .kv w2 z3]) (fun z1 z2 z3 z4 z5 z6 z7 z8 z9 z10 => K (.exit 2) [(1, .ptr 2 0 []), (2, .undef), (3, .ptr 3 0 []), (4, .ptr 5 0 []), (6, .ptr 6 0 []), (7, .ptr 7 0 []), (8, .fn 72 [] [.ptr 2 0 [], .ptr 8 0 [], .ptr 7 0 [], .ptr 3 0 [], .ptr 5 0 []]), (25, .d (.sl w0) z1), (26, I z2), (27, I z3)] [.one (.pair w1 (.pair (.opq .map) .unit)) (.agg [.d w1 z4, .mp 1]), .kv w2 z5, .one (.opq .ptr) (.ptr 0 0 []), .one (.sl (.arr 2 (.int .u64))) (.vec 4), .row (.arr 2 (.int .u64)) z6 false, .one (.arr 2 (.int .u64)) (.d (.arr 2 (.int .u64)) z7), .one w0 (.d w0 z8), .one wI (I z9), .one wI (I z10)]) s1 s2 s3 s4 s5 s6 s7 s8 s9 s10 s11 s12 s13
theorem l53r8v : LoopV E wF (E.info 53).keep 2 Try.f53.ntmps 54000008 (body Try.f53 8) ([1, 3, 4, 6, 7, 8, 25, 26, 27, 34, 35, 36], lsl53r8) := by
  intro vs σ K h0
  obtain ⟨r4, rfl, h8⟩ := cPPPP h0
  obtain ⟨r5, rfl, h10⟩ := cP h8
  obtain ⟨a6, r6, rfl, h11⟩ := asCons_inv h10
  obtain ⟨l7, l8, rfl, h12⟩ := asFn_inv h11
  obtain ⟨rfl, h13⟩ := cN h12
  obtain ⟨r12, rfl, h21⟩ := cPPPP h13
  obtain ⟨r13, rfl, h23⟩ := cP h21
  obtain ⟨rfl, h24⟩ := cN h23
  obtain ⟨s1, s2, s3, s4, r17, rfl, h32⟩ := cDDDD h24
  obtain ⟨s5, s6, r19, rfl, h36⟩ := cDD h32
  obtain ⟨rfl, h37⟩ := cN h36
  obtain ⟨a20, r20, rfl, h38⟩ := asCons_inv h37
  obtain ⟨a21, rfl, h39⟩ := asOne_inv h38
  obtain ⟨l22, rfl, h40⟩ := asAgL_inv h39
  obtain ⟨s7, r24, rfl, h44⟩ := cDP h40
  obtain ⟨rfl, h45⟩ := cN h44
  obtain ⟨a25, r25, rfl, h46⟩ := asCons_inv h45
  obtain ⟨s8, rfl, h47⟩ := asKv_inv h46
  obtain ⟨r26, rfl, h50⟩ := oP h47
  obtain ⟨r28, rfl, h53⟩ := oP h50
  obtain ⟨s9, r30, rfl, h55⟩ := cR h53
  obtain ⟨s10, r31, rfl, h58⟩ := oD h55
  obtain ⟨s11, r33, rfl, h61⟩ := oD h58
  obtain ⟨s12, r35, rfl, h64⟩ := oD h61
  obtain ⟨s13, r37, rfl, h67⟩ := oD h64
  obtain ⟨rfl, h68⟩ := cN h67
  intro J hJ
  have hp : ∀ c' ∈ subsOf (E.info 53).keep (body Try.f53 8), SubOK E wF (E.info 53).keep 2 Try.f53.ntmps (lofL Ll53r8) c' := all_eq (by kernel_rfl : subsOf (E.info 53).keep (body Try.f53 8) = [.loop (body Try.f53 12)]) (all_cons (loopOK_of (mk := 54000012) (sl := [1, 3, 4, 6, 7, 8, 25, 26, 27, 34, 35, 36, 43, 44, 45]) (ss := [([1, 3, 4, 6, 7, 8, 25, 26, 27, 34, 35, 36, 43, 44, 45], lsl53r12)]) (by kernel_rfl) (by kernel_rfl) (all_cons l53r12v all_nil)) all_nil)
  exact h68.of (fun s1 s2 s3 s4 s5 s6 s7 s8 s9 s10 s11 s12 s13 => J [(54000008, .undef), (1, .ptr 2 0 []), (3, .ptr 3 0 []), (4, .ptr 5 0 []), (6, .ptr 6 0 []), (7, .ptr 7 0 []), (8, .fn 72 [] [.ptr 2 0 [], .ptr 8 0 [], .ptr 7 0 [], .ptr 3 0 [], .ptr 5 0 []]), (25, .d (.sl w0) s1), (26, I s2), (27, I s3), (34, .d (.sl (.pair wI (.pair wI w3))) s4), (35, I s5), (36, I s6)] [.one (.pair w1 (.pair (.opq .map) .unit)) (.agg [.d w1 s7, .mp 1]), .kv w2 s8, .one (.opq .ptr) (.ptr 0 0 []), .one (.sl (.arr 2 (.int .u64))) (.vec 4), .row (.arr 2 (.int .u64)) s9 false, .one (.arr 2 (.int .u64)) (.d (.arr 2 (.int .u64)) s10), .one w0 (.d w0 s11), .one wI (I s12), .one wI (I s13)]) (fun s1 s2 s3 s4 s5 s6 s7 s8 s9 s10 s11 s12 s13 hb => loop_round2 nS (inlOK _) hp hJ (by kernel_rfl) hb)
abbrev Sl74r7 : wS := [(72, none, sp72)]
theorem hSl74r7 : SpecOK E (ofL Sl74r7) := specOK_cons h72 specOK_nil
def lsl74r7 : LSp := fun vs σ K => asCons vs fun a1 r1 => asFn 72 a1 fun l2 l3 => asNil l2 <| dP (.ptr 0 0 []) l3 fun r4 => dP (.ptr 3 0 []) r4 fun r5 => dP (.ptr 4 0 []) r5 fun r6 => dP (.ptr 5 0 []) r6 fun r7 => dP (.ptr 7 0 []) r7 fun r8 => asNil r8 <| dD (.sl w3) r1 fun s1 r9 => dD wI r9 fun s2 r10 => dD wI r10 fun s3 r11 => dD w6 r11 fun s4 r12 => dD wI r12 fun s5 r13 => dD wI r13 fun s6 r14 => asNil r14 <| dQ (.opq .ptr) (.ptr 1 0 []) σ fun r15 => asCons r15 fun a17 r17 => asOne (.pair w1 (.pair (.opq .map) .unit)) a17 fun a18 => asAgL a18 fun l19 => dD w1 l19 fun s7 r20 => dP (.mp 2) r20 fun r21 => asNil r21 <| asCons r17 fun a22 r22 => asKv w2 a22 fun s8 => dO wI wI r22 fun s9 r23 => dO wI wI r23 fun s10 r25 => dQ (.sl (.arr 2 (.int .u64))) (.vec 6) r25 fun r27 => dR (.arr 2 (.int .u64)) false r27 fun s11 r29 => dO (.arr 2 (.int .u64)) (.arr 2 (.int .u64)) r29 fun s12 r30 => asNil r30 <| l74r7 (fun z1 z2 z3 z4 z5 z6 z7 => K .ret [(1, .undef), (4, B z1), (25, .undef), (26, .undef), (27, .undef)] [.one (.opq .ptr) (.ptr 1 0 []), .one (.pair w1 (.pair (.opq .map) .unit)) (.agg [.d w1 z2, .mp 2]), .kv w2 z3, .one wI (I z4), .one wI (I z5), .one (.sl (.arr 2 (.int .u64))) (.vec 6), .row (.arr 2 (.int .u64)) z6 false, .one (.arr 2 (.int .u64)) (.d (.arr 2 (.int .u64)) z7)]) (fun z1 z2 z3 z4 z5 z6 z7 z8 z9 => K (.exit 2) [(1, .fn 72 [] [.ptr 0 0 [], .ptr 3 0 [], .ptr 4 0 [], .ptr 5 0 [], .ptr 7 0 []]), (4, .undef), (25, .d (.sl w3) z1), (26, I z2), (27, I z3)] [.one (.opq .ptr) (.ptr 1 0 []), .one (.pair w1 (.pair (.opq .map) .unit)) (.agg [.d w1 z4, .mp 2]), .kv w2 z5, .one wI (I z6), .one wI (I z7), .one (.sl (.arr 2 (.int .u64))) (.vec 6), .row (.arr 2 (.int .u64)) z8 false, .one (.arr 2 (.int .u64)) (.d (.arr 2 (.int .u64)) z9)]) s1 s2 s3 s4 s5 s6 s7 s8 s9 s10 s11 s12
theorem l74r7v : LoopV E wF (E.info 74).keep 8 Try.f74.ntmps 75000007 (body Try.f74 7) ([1, 25, 26, 27, 32, 33, 34], lsl74r7) := by
  intro vs σ K h0
  obtain ⟨a1, r1, rfl, h1⟩ := asCons_inv h0
  obtain ⟨l2, l3, rfl, h2⟩ := asFn_inv h1
  obtain ⟨rfl, h3⟩ := cN h2
  obtain ⟨r7, rfl, h11⟩ := cPPPP h3
  obtain ⟨r8, rfl, h13⟩ := cP h11
  obtain ⟨rfl, h14⟩ := cN h13
  obtain ⟨s1, s2, s3, s4, r12, rfl, h22⟩ := cDDDD h14
  obtain ⟨s5, s6, r14, rfl, h26⟩ := cDD h22
  obtain ⟨rfl, h27⟩ := cN h26
  obtain ⟨r15, rfl, h30⟩ := oP h27
  obtain ⟨a17, r17, rfl, h31⟩ := asCons_inv h30
  obtain ⟨a18, rfl, h32⟩ := asOne_inv h31
  obtain ⟨l19, rfl, h33⟩ := asAgL_inv h32
  obtain ⟨s7, r21, rfl, h37⟩ := cDP h33
  obtain ⟨rfl, h38⟩ := cN h37
  obtain ⟨a22, r22, rfl, h39⟩ := asCons_inv h38
  obtain ⟨s8, rfl, h40⟩ := asKv_inv h39
  obtain ⟨s9, r23, rfl, h43⟩ := oD h40
  obtain ⟨s10, r25, rfl, h46⟩ := oD h43
  obtain ⟨r27, rfl, h49⟩ := oP h46
  obtain ⟨s11, r29, rfl, h51⟩ := cR h49
  obtain ⟨s12, r30, rfl, h54⟩ := oD h51
  obtain ⟨rfl, h55⟩ := cN h54
  intro J hJ
  have hp : ∀ c' ∈ subsOf (E.info 74).keep (body Try.f74 7), SubOK E wF (E.info 74).keep 8 Try.f74.ntmps (lofL nL) c' := all_eq (by kernel_rfl) all_nil
  exact h55.of (fun s1 s2 s3 s4 s5 s6 s7 s8 s9 s10 s11 s12 => J [(75000007, .undef), (1, .fn 72 [] [.ptr 0 0 [], .ptr 3 0 [], .ptr 4 0 [], .ptr 5 0 [], .ptr 7 0 []]), (25, .d (.sl w3) s1), (26, I s2), (27, I s3), (32, .d w6 s4), (33, I s5), (34, I s6)] [.one (.opq .ptr) (.ptr 1 0 []), .one (.pair w1 (.pair (.opq .map) .unit)) (.agg [.d w1 s7, .mp 2]), .kv w2 s8, .one wI (I s9), .one wI (I s10), .one (.sl (.arr 2 (.int .u64))) (.vec 6), .row (.arr 2 (.int .u64)) s11 false, .one (.arr 2 (.int .u64)) (.d (.arr 2 (.int .u64)) s12)]) (fun s1 s2 s3 s4 s5 s6 s7 s8 s9 s10 s11 s12 hb => loop_round2 hSl74r7 (inlOK _) hp hJ (by kernel_rfl) hb)
abbrev Ll74r4 : wL := [(75000007, [1, 25, 26, 27, 32, 33, 34], none, lsl74r7)]
def lsl74r4 : LSp := fun vs σ K => asCons vs fun a1 r1 => asFn 72 a1 fun l2 l3 => asNil l2 <| dP (.ptr 0 0 []) l3 fun r4 => dP (.ptr 3 0 []) r4 fun r5 => dP (.ptr 4 0 []) r5 fun r6 => dP (.ptr 5 0 []) r6 fun r7 => dP (.ptr 7 0 []) r7 fun r8 => asNil r8 <| dD (.sl w3) r1 fun s1 r9 => dD wI r9 fun s2 r10 => dD wI r10 fun s3 r11 => asNil r11 <| dQ (.opq .ptr) (.ptr 1 0 []) σ fun r12 => asCons r12 fun a14 r14 => asOne (.pair w1 (.pair (.opq .map) .unit)) a14 fun a15 => asAgL a15 fun l16 => dD w1 l16 fun s4 r17 => dP (.mp 2) r17 fun r18 => asNil r18 <| asCons r14 fun a19 r19 => asKv w2 a19 fun s5 => dO wI wI r19 fun s6 r20 => dO wI wI r20 fun s7 r22 => dQ (.sl (.arr 2 (.int .u64))) (.vec 6) r22 fun r24 => dR (.arr 2 (.int .u64)) false r24 fun s8 r26 => dO (.arr 2 (.int .u64)) (.arr 2 (.int .u64)) r26 fun s9 r27 => asNil r27 <| l74r4 (fun z1 z2 z3 z4 z5 z6 z7 => K .ret [(4, B z1)] [.one (.opq .ptr) (.ptr 1 0 []), .one (.pair w1 (.pair (.opq .map) .unit)) (.agg [.d w1 z2, .mp 2]), .kv w2 z3, .one wI (I z4), .one wI (I z5), .one (.sl (.arr 2 (.int .u64))) (.vec 6), .row (.arr 2 (.int .u64)) z6 false, .one (.arr 2 (.int .u64)) (.d (.arr 2 (.int .u64)) z7)]) (fun z1 z2 z3 z4 z5 z6 => K (.exit 0) [(4, .undef)] [.one (.opq .ptr) (.ptr 1 0 []), .one (.pair w1 (.pair (.opq .map) .unit)) (.agg [.d w1 z1, .mp 2]), .kv w2 z2, .one wI (I z3), .one wI (I z4), .one (.sl (.arr 2 (.int .u64))) (.vec 6), .row (.arr 2 (.int .u64)) z5 false, .one (.arr 2 (.int .u64)) (.d (.arr 2 (.int .u64)) z6)]) s1 s2 s3 s4 s5 s6 s7 s8 s9
theorem l74r4v : LoopV E wF (E.info 74).keep 8 Try.f74.ntmps 75000004 (body Try.f74 4) ([1, 25, 26, 27], lsl74r4) := by
  intro vs σ K h0
  obtain ⟨a1, r1, rfl, h1⟩ := asCons_inv h0
  obtain ⟨l2, l3, rfl, h2⟩ := asFn_inv h1
  obtain ⟨rfl, h3⟩ := cN h2
  obtain ⟨r7, rfl, h11⟩ := cPPPP h3
  obtain ⟨r8, rfl, h13⟩ := cP h11
  obtain ⟨rfl, h14⟩ := cN h13
  obtain ⟨s1, s2, s3, r11, rfl, h20⟩ := cDDD h14
  obtain ⟨rfl, h21⟩ := cN h20
  obtain ⟨r12, rfl, h24⟩ := oP h21
  obtain ⟨a14, r14, rfl, h25⟩ := asCons_inv h24
  obtain ⟨a15, rfl, h26⟩ := asOne_inv h25
  obtain ⟨l16, rfl, h27⟩ := asAgL_inv h26
  obtain ⟨s4, r18, rfl, h31⟩ := cDP h27
  obtain ⟨rfl, h32⟩ := cN h31
  obtain ⟨a19, r19, rfl, h33⟩ := asCons_inv h32
  obtain ⟨s5, rfl, h34⟩ := asKv_inv h33
  obtain ⟨s6, r20, rfl, h37⟩ := oD h34
  obtain ⟨s7, r22, rfl, h40⟩ := oD h37
  obtain ⟨r24, rfl, h43⟩ := oP h40
  obtain ⟨s8, r26, rfl, h45⟩ := cR h43
  obtain ⟨s9, r27, rfl, h48⟩ := oD h45
  obtain ⟨rfl, h49⟩ := cN h48
  intro J hJ
  have hp : ∀ c' ∈ subsOf (E.info 74).keep (body Try.f74 4), SubOK E wF (E.info 74).keep 8 Try.f74.ntmps (lofL Ll74r4) c' := all_eq (by kernel_rfl : subsOf (E.info 74).keep (body Try.f74 4) = [.loop (body Try.f74 7)]) (all_cons (loopOK_of (mk := 75000007) (sl := [1, 25, 26, 27, 32, 33, 34]) (ss := [([1, 25, 26, 27, 32, 33, 34], lsl74r7)]) (by kernel_rfl) (by kernel_rfl) (all_cons l74r7v all_nil)) all_nil)
  exact h49.of (fun s1 s2 s3 s4 s5 s6 s7 s8 s9 => J [(75000004, .undef), (1, .fn 72 [] [.ptr 0 0 [], .ptr 3 0 [], .ptr 4 0 [], .ptr 5 0 [], .ptr 7 0 []]), (25, .d (.sl w3) s1), (26, I s2), (27, I s3)] [.one (.opq .ptr) (.ptr 1 0 []), .one (.pair w1 (.pair (.opq .map) .unit)) (.agg [.d w1 s4, .mp 2]), .kv w2 s5, .one wI (I s6), .one wI (I s7), .one (.sl (.arr 2 (.int .u64))) (.vec 6), .row (.arr 2 (.int .u64)) s8 false, .one (.arr 2 (.int .u64)) (.d (.arr 2 (.int .u64)) s9)]) (fun s1 s2 s3 s4 s5 s6 s7 s8 s9 hb => loop_round2 nS (inlOK _) hp hJ (by kernel_rfl) hb)
abbrev S74 : wS := [(72, none, sp72)]
theorem hS74 : SpecOK E (ofL S74) := specOK_cons h72 specOK_nil
abbrev L74 : wL := [(75000004, [1, 25, 26, 27], none, lsl74r4)]
def sp74 : Sp := fun args τ K => dD w5 args fun x1 r1 => asCons r1 fun a2 r2 => asFn 72 a2 fun l3 l4 => asNil l3 <| dP (.ptr 0 0 []) l4 fun r5 => dP (.ptr 3 0 []) r5 fun r6 => dP (.ptr 4 0 []) r6 fun r7 => dP (.ptr 5 0 []) r7 fun r8 => dP (.ptr 7 0 []) r8 fun r9 => asNil r9 <| asNil r2 <| dQ (.opq .ptr) (.ptr 1 0 []) τ fun r10 => asCons r10 fun a12 r12 => asOne (.pair w1 (.pair (.opq .map) .unit)) a12 fun a13 => asAgL a13 fun l14 => dD w1 l14 fun x2 r15 => dP (.mp 2) r15 fun r16 => asNil r16 <| asCons r12 fun a17 r17 => asKv w2 a17 fun x3 => dO wI wI r17 fun x4 r18 => dO wI wI r18 fun x5 r20 => dQ (.sl (.arr 2 (.int .u64))) (.vec 6) r20 fun r22 => dR (.arr 2 (.int .u64)) false r22 fun x6 r24 => dO (.arr 2 (.int .u64)) (.arr 2 (.int .u64)) r24 fun x7 r25 => asNil r25 <| c74 x1 x2 x3 x4 x5 x6 x7 (fun z1 z2 z3 z4 z5 z6 z7 => K (B z1) [.one (.opq .ptr) (.ptr 1 0 []), .one (.pair w1 (.pair (.opq .map) .unit)) (.agg [.d w1 z2, .mp 2]), .kv w2 z3, .one wI (I z4), .one wI (I z5), .one (.sl (.arr 2 (.int .u64))) (.vec 6), .row (.arr 2 (.int .u64)) z6 false, .one (.arr 2 (.int .u64)) (.d (.arr 2 (.int .u64)) z7)])
theorem h74 : ∀ args τ K, sp74 args τ K → ACall E 74 args τ K := by
  intro args τ K h0
  obtain ⟨x1, r1, rfl, h2⟩ := cD h0
  obtain ⟨a2, r2, rfl, h3⟩ := asCons_inv h2
  obtain ⟨l3, l4, rfl, h4⟩ := asFn_inv h3
  obtain ⟨rfl, h5⟩ := cN h4
  obtain ⟨r8, rfl, h13⟩ := cPPPP h5
  obtain ⟨r9, rfl, h15⟩ := cP h13
  obtain ⟨rfl, rfl, h17⟩ := cM h15
  obtain ⟨r10, rfl, h20⟩ := oP h17
  obtain ⟨a12, r12, rfl, h21⟩ := asCons_inv h20
  obtain ⟨a13, rfl, h22⟩ := asOne_inv h21
  obtain ⟨l14, rfl, h23⟩ := asAgL_inv h22
  obtain ⟨x2, r16, rfl, h27⟩ := cDP h23
  obtain ⟨rfl, h28⟩ := cN h27
  obtain ⟨a17, r17, rfl, h29⟩ := asCons_inv h28
  obtain ⟨x3, rfl, h30⟩ := asKv_inv h29
  obtain ⟨x4, r18, rfl, h33⟩ := oD h30
  obtain ⟨x5, r20, rfl, h36⟩ := oD h33
  obtain ⟨r22, rfl, h39⟩ := oP h36
  obtain ⟨x6, r24, rfl, h41⟩ := cR h39
  obtain ⟨x7, r25, rfl, h44⟩ := oD h41
  obtain ⟨rfl, h45⟩ := cN h44
  exact ACall.spec2 (fn := Try.f74) (c := codeOf Try.f74) (L := lofL L74) hS74 (by kernel_rfl) (by kernel_rfl) (inlOK _) (all_eq (by kernel_rfl : subsOf (E.info 74).keep (codeOf Try.f74) = [.loop (body Try.f74 4)]) (all_cons (loopOK_of (mk := 75000004) (sl := [1, 25, 26, 27]) (ss := [([1, 25, 26, 27], lsl74r4)]) (by kernel_rfl) (by kernel_rfl) (all_cons l74r4v all_nil)) all_nil)) (by kernel_rfl) h45.of
abbrev Sl53r3 : wS := [(74, none, sp74)]
theorem hSl53r3 : SpecOK E (ofL Sl53r3) := specOK_cons h74 specOK_nil
abbrev Ll53r3 : wL := [(54000008, [1, 3, 4, 6, 7, 8, 25, 26, 27, 34, 35, 36], none, lsl53r8)]
def lsl53r3 : LSp := fun vs σ K => dP (.ptr 2 0 []) vs fun r1 => dP (.ptr 3 0 []) r1 fun r2 => dP (.ptr 5 0 []) r2 fun r3 => dD (.sl w0) r3 fun s1 r4 => dD wI r4 fun s2 r5 => dD wI r5 fun s3 r6 => asNil r6 <| asCons σ fun a7 r7 => asOne (.pair w1 (.pair (.opq .map) .unit)) a7 fun a8 => asAgL a8 fun l9 => dD w1 l9 fun s4 r10 => dP (.mp 1) r10 fun r11 => asNil r11 <| asCons r7 fun a12 r12 => asKv w2 a12 fun s5 => dQ (.opq .ptr) (.ptr 0 0 []) r12 fun r13 => dQ (.sl (.arr 2 (.int .u64))) (.vec 4) r13 fun r15 => dR (.arr 2 (.int .u64)) false r15 fun s6 r17 => dO (.arr 2 (.int .u64)) (.arr 2 (.int .u64)) r17 fun s7 r18 => asNil r18 <| l53r3 (fun z1 z2 z3 => K .ret [(2, I z1)] [.one (.pair w1 (.pair (.opq .map) .unit)) (.agg [.d w1 z2, .mp 1]), .kv w2 z3]) (fun z1 z2 => K (.exit 0) [(2, .undef)] [.one (.pair w1 (.pair (.opq .map) .unit)) (.agg [.d w1 z1, .mp 1]), .kv w2 z2]) s1 s2 s3 s4 s5 s6 s7
theorem l53r3v : LoopV E wF (E.info 53).keep 2 Try.f53.ntmps 54000003 (body Try.f53 3) ([1, 3, 4, 25, 26, 27], lsl53r3) := by
  intro vs σ K h0
  obtain ⟨s1, r4, rfl, h8⟩ := cPPPD h0
  obtain ⟨s2, s3, r6, rfl, h12⟩ := cDD h8
  obtain ⟨rfl, h13⟩ := cN h12
  obtain ⟨a7, r7, rfl, h14⟩ := asCons_inv h13
  obtain ⟨a8, rfl, h15⟩ := asOne_inv h14
  obtain ⟨l9, rfl, h16⟩ := asAgL_inv h15
  obtain ⟨s4, r11, rfl, h20⟩ := cDP h16
  obtain ⟨rfl, h21⟩ := cN h20
  obtain ⟨a12, r12, rfl, h22⟩ := asCons_inv h21
  obtain ⟨s5, rfl, h23⟩ := asKv_inv h22
  obtain ⟨r13, rfl, h26⟩ := oP h23
  obtain ⟨r15, rfl, h29⟩ := oP h26
  obtain ⟨s6, r17, rfl, h31⟩ := cR h29
  obtain ⟨s7, r18, rfl, h34⟩ := oD h31
  obtain ⟨rfl, h35⟩ := cN h34
  intro J hJ
  have hp : ∀ c' ∈ subsOf (E.info 53).keep (body Try.f53 3), SubOK E wF (E.info 53).keep 2 Try.f53.ntmps (lofL Ll53r3) c' := all_eq (by kernel_rfl : subsOf (E.info 53).keep (body Try.f53 3) = [.loop (body Try.f53 8)]) (all_cons (loopOK_of (mk := 54000008) (sl := [1, 3, 4, 6, 7, 8, 25, 26, 27, 34, 35, 36]) (ss := [([1, 3, 4, 6, 7, 8, 25, 26, 27, 34, 35, 36], lsl53r8)]) (by kernel_rfl) (by kernel_rfl) (all_cons l53r8v all_nil)) all_nil)
  exact h35.of (fun s1 s2 s3 s4 s5 s6 s7 => J [(54000003, .undef), (1, .ptr 2 0 []), (3, .ptr 3 0 []), (4, .ptr 5 0 []), (25, .d (.sl w0) s1), (26, I s2), (27, I s3)] [.one (.pair w1 (.pair (.opq .map) .unit)) (.agg [.d w1 s4, .mp 1]), .kv w2 s5, .one (.opq .ptr) (.ptr 0 0 []), .one (.sl (.arr 2 (.int .u64))) (.vec 4), .row (.arr 2 (.int .u64)) s6 false, .one (.arr 2 (.int .u64)) (.d (.arr 2 (.int .u64)) s7)]) (fun s1 s2 s3 s4 s5 s6 s7 hb => loop_round2 hSl53r3 (inlOK _) hp hJ (by kernel_rfl) hb)
abbrev S53 : wS := [(71, none, sp71)]
theorem hS53 : SpecOK E (ofL S53) := specOK_cons h71 specOK_nil
abbrev L53 : wL := [(54000003, [1, 3, 4, 25, 26, 27], none, lsl53r3)]
def sp53 : Sp := fun args τ K => dP (.ptr 0 0 []) args fun r1 => asNil r1 <| asCons τ fun a2 r2 => asOne (.pair w1 (.pair (.opq .map) .unit)) a2 fun a3 => asAgL a3 fun l4 => dD w1 l4 fun x1 r5 => dP (.mp 1) r5 fun r6 => asNil r6 <| asCons r2 fun a7 r7 => asKv w2 a7 fun x2 => asNil r7 <| c53 x1 x2 (fun z1 z2 z3 => K (I z1) [.one (.pair w1 (.pair (.opq .map) .unit)) (.agg [.d w1 z2, .mp 1]), .kv w2 z3])
theorem h53 : ∀ args τ K, sp53 args τ K → ACall E 53 args τ K := by
  intro args τ K h0
  obtain ⟨r1, rfl, h2⟩ := cP h0
  obtain ⟨rfl, h3⟩ := cN h2
  obtain ⟨a2, r2, rfl, h4⟩ := asCons_inv h3
  obtain ⟨a3, rfl, h5⟩ := asOne_inv h4
  obtain ⟨l4, rfl, h6⟩ := asAgL_inv h5
  obtain ⟨x1, r6, rfl, h10⟩ := cDP h6
  obtain ⟨rfl, h11⟩ := cN h10
  obtain ⟨a7, r7, rfl, h12⟩ := asCons_inv h11
  obtain ⟨x2, rfl, h13⟩ := asKv_inv h12
  obtain ⟨rfl, h14⟩ := cN h13
  exact ACall.spec2 (fn := Try.f53) (c := codeOf Try.f53) (L := lofL L53) hS53 (by kernel_rfl) (by kernel_rfl) (inlOK _) (all_eq (by kernel_rfl : subsOf (E.info 53).keep (codeOf Try.f53) = [.loop (body Try.f53 3)]) (all_cons (loopOK_of (mk := 54000003) (sl := [1, 3, 4, 25, 26, 27]) (ss := [([1, 3, 4, 25, 26, 27], lsl53r3)]) (by kernel_rfl) (by kernel_rfl) (all_cons l53r3v all_nil)) all_nil)) (by kernel_rfl) h14.of
abbrev S37 : wS := [(51, none, sp51), (53, none, sp53)]
theorem hS37 : SpecOK E (ofL S37) := specOK_cons h51 (specOK_cons h53 specOK_nil)
abbrev L37 : wL := [(38000003, [1, 3, 10, 11, 12], none, lsl37r3), (38000015, [6, 56, 57], none, lsl37r15)]
def sp37 : Sp := fun args τ K => dD w1 args fun x1 r1 => asNil r1 <| asNil τ <| c37 x1 (fun z1 => K (I z1) [])
theorem h37 : ∀ args τ K, sp37 args τ K → ACall E 37 args τ K := by
  intro args τ K h0
  obtain ⟨x1, r1, rfl, h2⟩ := cD h0
  obtain ⟨rfl, rfl, h4⟩ := cM h2
  exact ACall.spec2 (fn := Try.f37) (c := codeOf Try.f37) (L := lofL L37) hS37 (by kernel_rfl) (by kernel_rfl) (inlOK _) (all_eq (by kernel_rfl : subsOf (E.info 37).keep (codeOf Try.f37) = [.loop (body Try.f37 3), .loop (body Try.f37 15)]) (all_cons (loopOK_of (mk := 38000003) (sl := [1, 3, 10, 11, 12]) (ss := [([1, 3, 10, 11, 12], lsl37r3)]) (by kernel_rfl) (by kernel_rfl) (all_cons l37r3v all_nil)) (all_cons (loopOK_of (mk := 38000015) (sl := [6, 56, 57]) (ss := [([6, 56, 57], lsl37r15)]) (by kernel_rfl) (by kernel_rfl) (all_cons l37r15v all_nil)) all_nil))) (by kernel_rfl) h4.of
def sp49 : Sp := fun args τ K => dD wI args fun x1 r1 => dP (.ptr 0 0 []) r1 fun r2 => asNil r2 <| dQ w6 (.vec 1) τ fun r3 => dR wI false r3 fun x2 r5 => asNil r5 <| c49 x1 x2 (fun z1 => K (.tup []) [.one w6 (.vec 2), .dead, .row wI z1 false])
theorem h49 : ∀ args τ K, sp49 args τ K → ACall E 49 args τ K := by
  intro args τ K h0
  obtain ⟨x1, r2, rfl, h4⟩ := cDP h0
  obtain ⟨rfl, h5⟩ := cN h4
  obtain ⟨r3, rfl, h8⟩ := oP h5
  obtain ⟨x2, r5, rfl, h10⟩ := cR h8
  obtain ⟨rfl, h11⟩ := cN h10
  exact ACall.spec2 (fn := Try.f49) (c := codeOf Try.f49) (L := lofL nL) nS (by kernel_rfl) (by kernel_rfl) (inlOK _) (all_eq (by kernel_rfl) all_nil) (by kernel_rfl) h11.of
abbrev Sl48r4 : wS := [(49, none, sp49)]
theorem hSl48r4 : SpecOK E (ofL Sl48r4) := specOK_cons h49 specOK_nil
def lsl48r4 : LSp := fun vs σ K => asCons vs fun a1 r1 => asFn 49 a1 fun l2 l3 => asNil l2 <| dP (.ptr 0 0 []) l3 fun r4 => asNil r4 <| dP (.ptr 2 0 []) r1 fun r5 => dP (.vec 3) r5 fun r6 => dP (.vec 4) r6 fun r7 => asNil r7 <| dQ w6 (.vec 1) σ fun r8 => dR wI false r8 fun s1 r10 => dO w1 w1 r10 fun s2 r11 => dR .bool false r11 fun s3 r13 => dR w2 false r13 fun s4 r14 => asNil r14 <| l48r4 (fun z1 => K (.exit 0) [] [.one w6 (.vec 1), .row wI z1 false]) (fun z1 => K (.exit 0) [] [.one w6 (.vec 2), .dead, .row wI z1 false]) s1 s2 s3 s4
theorem l48r4v : LoopV E wF (E.info 48).keep 2 Try.f48.ntmps 49000004 (body Try.f48 4) ([1, 2, 4, 5], lsl48r4) := by
  intro vs σ K h0
  obtain ⟨a1, r1, rfl, h1⟩ := asCons_inv h0
  obtain ⟨l2, l3, rfl, h2⟩ := asFn_inv h1
  obtain ⟨rfl, h3⟩ := cN h2
  obtain ⟨r4, rfl, h5⟩ := cP h3
  obtain ⟨rfl, h6⟩ := cN h5
  obtain ⟨r7, rfl, h12⟩ := cPPP h6
  obtain ⟨rfl, h13⟩ := cN h12
  obtain ⟨r8, rfl, h16⟩ := oP h13
  obtain ⟨s1, r10, rfl, h18⟩ := cR h16
  obtain ⟨s2, r11, rfl, h21⟩ := oD h18
  obtain ⟨s3, r13, rfl, h23⟩ := cR h21
  obtain ⟨s4, r14, rfl, h25⟩ := cR h23
  obtain ⟨rfl, h26⟩ := cN h25
  intro J hJ
  have hp : ∀ c' ∈ subsOf (E.info 48).keep (body Try.f48 4), SubOK E wF (E.info 48).keep 2 Try.f48.ntmps (lofL nL) c' := all_eq (by kernel_rfl) all_nil
  exact h26.of (fun s1 s2 s3 s4 => J [(49000004, .undef), (1, .fn 49 [] [.ptr 0 0 []]), (2, .ptr 2 0 []), (4, .vec 3), (5, .vec 4)] [.one w6 (.vec 1), .row wI s1 false, .one w1 (.d w1 s2), .row .bool s3 false, .row w2 s4 false]) (fun s16 s17 s18 s19 s20 s21 s22 => J [(49000004, .undef), (1, .fn 49 [] [.ptr 0 0 []]), (2, .ptr 3 0 []), (4, .vec 4), (5, .sl 5 s16 s17 s18 false)] [.one w6 (.vec 2), .dead, .row wI s19 false, .one w1 (.d w1 s20), .row .bool s21 false, .row w2 s22 false]) (fun s34 s35 s36 s37 => J [(49000004, .undef), (1, .fn 49 [] [.ptr 0 0 []]), (2, .ptr 3 0 []), (4, .vec 4), (5, .vec 5)] [.one w6 (.vec 2), .dead, .row wI s34 false, .one w1 (.d w1 s35), .row .bool s36 false, .row w2 s37 false]) (fun s1 s2 s3 s4 hb => loop_round2 hSl48r4 (inlOK _) hp hJ (by kernel_rfl) hb) (fun s16 s17 s18 s19 s20 s21 s22 hb => loop_round2 hSl48r4 (inlOK _) hp hJ (by kernel_rfl) hb) (fun s34 s35 s36 s37 hb => loop_round2 hSl48r4 (inlOK _) hp hJ (by kernel_rfl) hb)
abbrev L48 : wL := [(49000004, [1, 2, 4, 5], none, lsl48r4)]
def sp48 : Sp := fun args τ K => dD w1 args fun x1 r1 => asCons r1 fun a2 r2 => asFn 49 a2 fun l3 l4 => asNil l3 <| dP (.ptr 0 0 []) l4 fun r5 => asNil r5 <| asNil r2 <| dQ w6 (.vec 1) τ fun r6 => dR wI false r6 fun x2 r8 => asNil r8 <| c48 x1 x2 (fun z1 => K (.tup []) [.one w6 (.vec 1), .row wI z1 false]) (fun z1 => K (.tup []) [.one w6 (.vec 2), .dead, .row wI z1 false])
theorem h48 : ∀ args τ K, sp48 args τ K → ACall E 48 args τ K := by
  intro args τ K h0
  obtain ⟨x1, r1, rfl, h2⟩ := cD h0
  obtain ⟨a2, r2, rfl, h3⟩ := asCons_inv h2
  obtain ⟨l3, l4, rfl, h4⟩ := asFn_inv h3
  obtain ⟨rfl, h5⟩ := cN h4
  obtain ⟨r5, rfl, h7⟩ := cP h5
  obtain ⟨rfl, rfl, h9⟩ := cM h7
  obtain ⟨r6, rfl, h12⟩ := oP h9
  obtain ⟨x2, r8, rfl, h14⟩ := cR h12
  obtain ⟨rfl, h15⟩ := cN h14
  exact ACall.spec2 (fn := Try.f48) (c := codeOf Try.f48) (L := lofL L48) nS (by kernel_rfl) (by kernel_rfl) (inlOK _) (all_eq (by kernel_rfl : subsOf (E.info 48).keep (codeOf Try.f48) = [.loop (body Try.f48 4)]) (all_cons (loopOK_of (mk := 49000004) (sl := [1, 2, 4, 5]) (ss := [([1, 2, 4, 5], lsl48r4)]) (by kernel_rfl) (by kernel_rfl) (all_cons l48r4v all_nil)) all_nil)) (by kernel_rfl) h15.of
def lsl50r1 : LSp := fun vs σ K => dP (.vec 0) vs fun r1 => dD wI r1 fun s1 r2 => dD wI r2 fun s2 r3 => asNil r3 <| dR wI false σ fun s3 r4 => asNil r4 <| l50r1 (fun z1 => K (.exit 0) [] [.row wI z1 false]) s1 s2 s3
theorem l50r1v : LoopV E wF (E.info 50).keep 1 Try.f50.ntmps 51000001 (body Try.f50 1) ([0, 2, 3], lsl50r1) := by
  intro vs σ K h0
  obtain ⟨s1, s2, r3, rfl, h6⟩ := cPDD h0
  obtain ⟨rfl, h7⟩ := cN h6
  obtain ⟨s3, r4, rfl, h9⟩ := cR h7
  obtain ⟨rfl, h10⟩ := cN h9
  intro J hJ
  have hp : ∀ c' ∈ subsOf (E.info 50).keep (body Try.f50 1), SubOK E wF (E.info 50).keep 1 Try.f50.ntmps (lofL nL) c' := all_eq (by kernel_rfl) all_nil
  exact h10.of (fun s1 s2 s3 => J [(51000001, .undef), (0, .vec 0), (2, I s1), (3, I s2)] [.row wI s3 false]) (fun s1 s2 s3 hb => loop_round2 nS (inlOK _) hp hJ (by kernel_rfl) hb)
abbrev L50 : wL := [(51000001, [0, 2, 3], none, lsl50r1)]
def sp50 : Sp := fun args τ K => dP (.vec 0) args fun r1 => asNil r1 <| dR wI false τ fun x1 r2 => asNil r2 <| c50 x1 (fun z1 => K (.tup []) [.row wI z1 false])
theorem h50 : ∀ args τ K, sp50 args τ K → ACall E 50 args τ K := by
  intro args τ K h0
  obtain ⟨r1, rfl, h2⟩ := cP h0
  obtain ⟨rfl, h3⟩ := cN h2
  obtain ⟨x1, r2, rfl, h5⟩ := cR h3
  obtain ⟨rfl, h6⟩ := cN h5
  exact ACall.spec2 (fn := Try.f50) (c := codeOf Try.f50) (L := lofL L50) nS (by kernel_rfl) (by kernel_rfl) (inlOK _) (all_eq (by kernel_rfl : subsOf (E.info 50).keep (codeOf Try.f50) = [.loop (body Try.f50 1)]) (all_cons (loopOK_of (mk := 51000001) (sl := [0, 2, 3]) (ss := [([0, 2, 3], lsl50r1)]) (by kernel_rfl) (by kernel_rfl) (all_cons l50r1v all_nil)) all_nil)) (by kernel_rfl) h6.of
abbrev S36 : wS := [(37, none, sp37), (48, none, sp48), (50, none, sp50)]
theorem hS36 : SpecOK E (ofL S36) := specOK_cons h37 (specOK_cons h48 (specOK_cons h50 specOK_nil))
def sp36 : Sp := fun args τ K => dD w1 args fun x1 r1 => asNil r1 <| asNil τ <| c36 x1 (fun z1 z2 => K (.tup [.vec 0, I z1]) [.row wI z2 false])
theorem h36 : ∀ args τ K, sp36 args τ K → ACall E 36 args τ K := by
  intro args τ K h0
  obtain ⟨x1, r1, rfl, h2⟩ := cD h0
  obtain ⟨rfl, rfl, h4⟩ := cM h2
  exact ACall.spec2 (fn := Try.f36) (c := codeOf Try.f36) (L := lofL nL) hS36 (by kernel_rfl) (by kernel_rfl) (inlOK _) (all_eq (by kernel_rfl) all_nil) (by kernel_rfl) h4.of
def sp64 : Sp := fun args τ K => dD (.int .u64) args fun x1 r1 => asNil r1 <| asNil τ <| c64 x1 (fun z1 => K (I z1) [])
theorem h64 : ∀ args τ K, sp64 args τ K → ACall E 64 args τ K := by
  intro args τ K h0
  obtain ⟨x1, r1, rfl, h2⟩ := cD h0
  obtain ⟨rfl, rfl, h4⟩ := cM h2
  exact ACall.spec2 (fn := Try.f64) (c := codeOf Try.f64) (L := lofL nL) nS (by kernel_rfl) (by kernel_rfl) (inlOK _) (all_eq (by kernel_rfl) all_nil) (by kernel_rfl) h4.of
abbrev S42 : wS := [(64, none, sp64)]
theorem hS42 : SpecOK E (ofL S42) := specOK_cons h64 specOK_nil
def sp42 : Sp := fun args τ K => dD (.int .u64) args fun x1 r1 => asNil r1 <| asNil τ <| c42 x1 (fun z1 => K (I z1) [])
theorem h42 : ∀ args τ K, sp42 args τ K → ACall E 42 args τ K := by
  intro args τ K h0
  obtain ⟨x1, r1, rfl, h2⟩ := cD h0
  obtain ⟨rfl, rfl, h4⟩ := cM h2
  exact ACall.spec2 (fn := Try.f42) (c := codeOf Try.f42) (L := lofL nL) hS42 (by kernel_rfl) (by kernel_rfl) (inlOK _) (all_eq (by kernel_rfl) all_nil) (by kernel_rfl) h4.of
def sp54 : Sp := fun args τ K => dD wI args fun x1 r1 => asNil r1 <| asNil τ <| c54 x1 (fun z1 => K (B z1) [])
theorem h54 : ∀ args τ K, sp54 args τ K → ACall E 54 args τ K := by
  intro args τ K h0
  obtain ⟨x1, r1, rfl, h2⟩ := cD h0
  obtain ⟨rfl, rfl, h4⟩ := cM h2
  exact ACall.spec2 (fn := Try.f54) (c := codeOf Try.f54) (L := lofL nL) nS (by kernel_rfl) (by kernel_rfl) (inlOK _) (all_eq (by kernel_rfl) all_nil) (by kernel_rfl) h4.of
abbrev S38 : wS := [(54, none, sp54)]
theorem hS38 : SpecOK E (ofL S38) := specOK_cons h54 specOK_nil
def sp38 : Sp := fun args τ K => dD wI args fun x1 r1 => dD wI r1 fun x2 r2 => asNil r2 <| asNil τ <| c38 x1 x2 (fun z1 => K (B z1) [])
theorem h38 : ∀ args τ K, sp38 args τ K → ACall E 38 args τ K := by
  intro args τ K h0
  obtain ⟨x1, x2, r2, rfl, h4⟩ := cDD h0
  obtain ⟨rfl, rfl, h6⟩ := cM h4
  exact ACall.spec2 (fn := Try.f38) (c := codeOf Try.f38) (L := lofL nL) hS38 (by kernel_rfl) (by kernel_rfl) (inlOK _) (all_eq (by kernel_rfl) all_nil) (by kernel_rfl) h6.of
abbrev Sl55r4 : wS := [(38, none, sp38)]
theorem hSl55r4 : SpecOK E (ofL Sl55r4) := specOK_cons h38 specOK_nil
def lsl55r4 : LSp := fun vs σ K => dP (.vec 0) vs fun r1 => dD wI r1 fun s1 r2 => dD wI r2 fun s2 r3 => dD wI r3 fun s3 r4 => dD wI r4 fun s4 r5 => asNil r5 <| dR wI false σ fun s5 r6 => asNil r6 <| l55r4 (fun z1 z2 z3 z4 => K (.exit 2) [(0, .vec 0), (1, I z1), (2, I z2), (6, I z3)] [.row wI z4 false]) s1 s2 s3 s4 s5
theorem l55r4v : LoopV E wF (E.info 55).keep 1 Try.f55.ntmps 56000004 (body Try.f55 4) ([0, 1, 2, 6, 7], lsl55r4) := by
  intro vs σ K h0
  obtain ⟨s1, s2, s3, r4, rfl, h8⟩ := cPDDD h0
  obtain ⟨s4, r5, rfl, h10⟩ := cD h8
  obtain ⟨rfl, h11⟩ := cN h10
  obtain ⟨s5, r6, rfl, h13⟩ := cR h11
  obtain ⟨rfl, h14⟩ := cN h13
  intro J hJ
  have hp : ∀ c' ∈ subsOf (E.info 55).keep (body Try.f55 4), SubOK E wF (E.info 55).keep 1 Try.f55.ntmps (lofL nL) c' := all_eq (by kernel_rfl) all_nil
  exact h14.of (fun s1 s2 s3 s4 s5 => J [(56000004, .undef), (0, .vec 0), (1, I s1), (2, I s2), (6, I s3), (7, I s4)] [.row wI s5 false]) (fun s1 s2 s3 s4 s5 hb => loop_round2 hSl55r4 (inlOK _) hp hJ (by kernel_rfl) hb)
abbrev Ll55r1 : wL := [(56000004, [0, 1, 2, 6, 7], none, lsl55r4)]
def lsl55r1 : LSp := fun vs σ K => dP (.vec 0) vs fun r1 => dD wI r1 fun s1 r2 => dD wI r2 fun s2 r3 => dD wI r3 fun s3 r4 => asNil r4 <| dR wI false σ fun s4 r5 => asNil r5 <| l55r1 (fun z1 => K (.exit 0) [] [.row wI z1 false]) s1 s2 s3 s4
theorem l55r1v : LoopV E wF (E.info 55).keep 1 Try.f55.ntmps 56000001 (body Try.f55 1) ([0, 1, 2, 6], lsl55r1) := by
  intro vs σ K h0
  obtain ⟨s1, s2, s3, r4, rfl, h8⟩ := cPDDD h0
  obtain ⟨rfl, h9⟩ := cN h8
  obtain ⟨s4, r5, rfl, h11⟩ := cR h9
  obtain ⟨rfl, h12⟩ := cN h11
  intro J hJ
  have hp : ∀ c' ∈ subsOf (E.info 55).keep (body Try.f55 1), SubOK E wF (E.info 55).keep 1 Try.f55.ntmps (lofL Ll55r1) c' := all_eq (by kernel_rfl : subsOf (E.info 55).keep (body Try.f55 1) = [.loop (body Try.f55 4)]) (all_cons (loopOK_of (mk := 56000004) (sl := [0, 1, 2, 6, 7]) (ss := [([0, 1, 2, 6, 7], lsl55r4)]) (by kernel_rfl) (by kernel_rfl) (all_cons l55r4v all_nil)) all_nil)
  exact h12.of (fun s1 s2 s3 s4 => J [(56000001, .undef), (0, .vec 0), (1, I s1), (2, I s2), (6, I s3)] [.row wI s4 false]) (fun s1 s2 s3 s4 hb => loop_round2 nS (inlOK _) hp hJ (by kernel_rfl) hb)
abbrev L55 : wL := [(56000001, [0, 1, 2, 6], none, lsl55r1)]
def sp55 : Sp := fun args τ K => dP (.vec 0) args fun r1 => dD wI r1 fun x1 r2 => dD wI r2 fun x2 r3 => asNil r3 <| dR wI false τ fun x3 r4 => asNil r4 <| c55 x1 x2 x3 (fun z1 => K (.tup []) [.row wI z1 false])
theorem h55 : ∀ args τ K, sp55 args τ K → ACall E 55 args τ K := by
  intro args τ K h0
  obtain ⟨x1, x2, r3, rfl, h6⟩ := cPDD h0
  obtain ⟨rfl, h7⟩ := cN h6
  obtain ⟨x3, r4, rfl, h9⟩ := cR h7
  obtain ⟨rfl, h10⟩ := cN h9
  exact ACall.spec2 (fn := Try.f55) (c := codeOf Try.f55) (L := lofL L55) nS (by kernel_rfl) (by kernel_rfl) (inlOK _) (all_eq (by kernel_rfl : subsOf (E.info 55).keep (codeOf Try.f55) = [.loop (body Try.f55 1)]) (all_cons (loopOK_of (mk := 56000001) (sl := [0, 1, 2, 6]) (ss := [([0, 1, 2, 6], lsl55r1)]) (by kernel_rfl) (by kernel_rfl) (all_cons l55r1v all_nil)) all_nil)) (by kernel_rfl) h10.of
def lsj41r10 : LSp := fun vs σ K => dP (.vec 0) vs fun r1 => dD wI r1 fun s1 r2 => dD wI r2 fun s2 r3 => dD wI r3 fun s3 r4 => dD .bool r4 fun s4 r5 => dD .bool r5 fun s5 r6 => dD wI r6 fun s6 r7 => asNil r7 <| dR wI false σ fun s7 r8 => asNil r8 <| j41r10 s1 s2 s3 s4 s5 s6 s7
theorem j41r10v : JoinV E wF (E.info 41).keep 1 Try.f41.ntmps 42400010 4000010 (jbody Try.f41 4000010) ([0, 1, 2, 3, 8, 9, 10], lsj41r10) := by
  intro vs σ K h0
  obtain ⟨s1, s2, s3, r4, rfl, h8⟩ := cPDDD h0
  obtain ⟨s4, s5, s6, r7, rfl, h14⟩ := cDDD h8
  obtain ⟨rfl, h15⟩ := cN h14
  obtain ⟨s7, r8, rfl, h17⟩ := cR h15
  obtain ⟨rfl, h18⟩ := cN h17
  exact join_round2 (L := lofL nL) nS (inlOK _) (all_eq (by kernel_rfl : subsOf (E.info 41).keep (jbody Try.f41 4000010) = [.join 4000015 (jbody Try.f41 4000015)]) (all_cons (joinOK_of (mk := 42400015) (sl := [0, 1, 2, 3, 8, 9, 10, 11, 12]) (ss := []) (by kernel_rfl) (by kernel_rfl) all_nil) all_nil)) (by kernel_rfl) h18.of
abbrev Sl41r2 : wS := [(55, none, sp55)]
theorem hSl41r2 : SpecOK E (ofL Sl41r2) := specOK_cons h55 specOK_nil
abbrev Ll41r2 : wL := [(42400010, [0, 1, 2, 3, 8, 9, 10], none, lsj41r10)]
def lsl41r2 : LSp := fun vs σ K => dP (.vec 0) vs fun r1 => dD wI r1 fun s1 r2 => dD wI r2 fun s2 r3 => dD wI r3 fun s3 r4 => dD .bool r4 fun s4 r5 => dD .bool r5 fun s5 r6 => asNil r6 <| dR wI false σ fun s6 r7 => asNil r7 <| l41r2 (fun z1 => K .ret [] [.row wI z1 false]) s1 s2 s3 s4 s5 s6
theorem l41r2v : LoopV E wF (E.info 41).keep 1 Try.f41.ntmps 42000002 (body Try.f41 2) ([0, 1, 2, 3, 8, 9], lsl41r2) := by
  intro vs σ K h0
  obtain ⟨s1, s2, s3, r4, rfl, h8⟩ := cPDDD h0
  obtain ⟨s4, s5, r6, rfl, h12⟩ := cDD h8
  obtain ⟨rfl, h13⟩ := cN h12
  obtain ⟨s6, r7, rfl, h15⟩ := cR h13
  obtain ⟨rfl, h16⟩ := cN h15
  intro J hJ
  have hp : ∀ c' ∈ subsOf (E.info 41).keep (body Try.f41 2), SubOK E wF (E.info 41).keep 1 Try.f41.ntmps (lofL Ll41r2) c' := all_eq (by kernel_rfl : subsOf (E.info 41).keep (body Try.f41 2) = [.join 4000010 (jbody Try.f41 4000010)]) (all_cons (joinOK_of (mk := 42400010) (sl := [0, 1, 2, 3, 8, 9, 10]) (ss := [([0, 1, 2, 3, 8, 9, 10], lsj41r10)]) (by kernel_rfl) (by kernel_rfl) (all_cons j41r10v all_nil)) all_nil)
  exact h16.of (fun s1 s2 s3 s4 s5 s6 => J [(42000002, .undef), (0, .vec 0), (1, I s1), (2, I s2), (3, I s3), (8, B s4), (9, B s5)] [.row wI s6 false]) (fun s1 s2 s3 s4 s5 s6 hb => loop_round2 hSl41r2 (inlOK _) hp hJ (by kernel_rfl) hb)
abbrev L41 : wL := [(42000002, [0, 1, 2, 3, 8, 9], none, lsl41r2)]
def sp41 : Sp := fun args τ K => dP (.vec 0) args fun r1 => dD wI r1 fun x1 r2 => dD wI r2 fun x2 r3 => dD wI r3 fun x3 r4 => asNil r4 <| dR wI false τ fun x4 r5 => asNil r5 <| c41 x1 x2 x3 x4 (fun z1 => K (.tup []) [.row wI z1 false])
theorem h41 : ∀ args τ K, sp41 args τ K → ACall E 41 args τ K := by
  intro args τ K h0
  obtain ⟨x1, x2, x3, r4, rfl, h8⟩ := cPDDD h0
  obtain ⟨rfl, h9⟩ := cN h8
  obtain ⟨x4, r5, rfl, h11⟩ := cR h9
  obtain ⟨rfl, h12⟩ := cN h11
  exact ACall.spec2 (fn := Try.f41) (c := codeOf Try.f41) (L := lofL L41) nS (by kernel_rfl) (by kernel_rfl) (inlOK _) (all_eq (by kernel_rfl : subsOf (E.info 41).keep (codeOf Try.f41) = [.loop (body Try.f41 2)]) (all_cons (loopOK_of (mk := 42000002) (sl := [0, 1, 2, 3, 8, 9]) (ss := [([0, 1, 2, 3, 8, 9], lsl41r2)]) (by kernel_rfl) (by kernel_rfl) (all_cons l41r2v all_nil)) all_nil)) (by kernel_rfl) h12.of
abbrev S21 : wS := [(42, none, sp42), (41, none, sp41)]
theorem hS21 : SpecOK E (ofL S21) := specOK_cons h42 (specOK_cons h41 specOK_nil)
def sp21 : Sp := fun args τ K => dP (.vec 0) args fun r1 => asNil r1 <| dR wI false τ fun x1 r2 => asNil r2 <| c21 x1 (fun z1 => K (.tup []) [.row wI z1 false])
theorem h21 : ∀ args τ K, sp21 args τ K → ACall E 21 args τ K := by
  intro args τ K h0
  obtain ⟨r1, rfl, h2⟩ := cP h0
  obtain ⟨rfl, h3⟩ := cN h2
  obtain ⟨x1, r2, rfl, h5⟩ := cR h3
  obtain ⟨rfl, h6⟩ := cN h5
  exact ACall.spec2 (fn := Try.f21) (c := codeOf Try.f21) (L := lofL nL) hS21 (by kernel_rfl) (by kernel_rfl) (inlOK _) (all_eq (by kernel_rfl) all_nil) (by kernel_rfl) h6.of
abbrev S17 : wS := [(36, none, sp36), (21, none, sp21)]
theorem hS17 : SpecOK E (ofL S17) := specOK_cons h36 (specOK_cons h21 specOK_nil)
def sp17 : Sp := fun args τ K => dD w1 args fun x1 r1 => asNil r1 <| asNil τ <| c17 x1 (fun z1 z2 => K (.tup [.vec 0, I z1]) [.row wI z2 false])
theorem h17 : ∀ args τ K, sp17 args τ K → ACall E 17 args τ K := by
  intro args τ K h0
  obtain ⟨x1, r1, rfl, h2⟩ := cD h0
  obtain ⟨rfl, rfl, h4⟩ := cM h2
  exact ACall.spec2 (fn := Try.f17) (c := codeOf Try.f17) (L := lofL nL) hS17 (by kernel_rfl) (by kernel_rfl) (inlOK _) (all_eq (by kernel_rfl) all_nil) (by kernel_rfl) h4.of
def lsl18r9 : LSp := fun vs σ K => dP (.vec 0) vs fun r1 => dD wI r1 fun s1 r2 => dD (.sl w0) r2 fun s2 r3 => dD wI r3 fun s3 r4 => dD wI r4 fun s4 r5 => dD (.sl w3) r5 fun s5 r6 => dD wI r6 fun s6 r7 => dD wI r7 fun s7 r8 => asNil r8 <| asCons σ fun a9 r9 => asDeep wI a9 fun s8 l10 => asNil l10 <| asNil r9 <| l18r9 (fun z1 z2 z3 z4 => K (.exit 2) [(5, .vec 0), (20, .d (.sl w0) z1), (21, I z2), (22, I z3)] [.deep wI z4 []]) s1 s2 s3 s4 s5 s6 s7 s8
theorem l18r9v : LoopV E wF (E.info 18).keep 0 Try.f18.ntmps 19000009 (body Try.f18 9) ([5, 6, 20, 21, 22, 29, 30, 31], lsl18r9) := by
  intro vs σ K h0
  obtain ⟨s1, s2, s3, r4, rfl, h8⟩ := cPDDD h0
  obtain ⟨s4, s5, s6, s7, r8, rfl, h16⟩ := cDDDD h8
  obtain ⟨rfl, h17⟩ := cN h16
  obtain ⟨a9, r9, rfl, h18⟩ := asCons_inv h17
  obtain ⟨s8, l10, rfl, h19⟩ := asDeep_inv h18
  obtain ⟨rfl, rfl, h21⟩ := cM h19
  intro J hJ
  have hp : wH 18 Try.f18 (body Try.f18 9) nL := all_eq (by kernel_rfl) all_nil
  exact h21.of (fun s1 s2 s3 s4 s5 s6 s7 s8 => J [(19000009, .undef), (5, .vec 0), (6, I s1), (20, .d (.sl w0) s2), (21, I s3), (22, I s4), (29, .d (.sl w3) s5), (30, I s6), (31, I s7)] [.deep wI s8 []]) (fun s1 s2 s3 s4 s5 s6 s7 s8 hb => loop_round2 nS (inlOK _) hp hJ (by kernel_rfl) hb)
abbrev Ll18r6 : wL := [(19000009, [5, 6, 20, 21, 22, 29, 30, 31], none, lsl18r9)]
def lsl18r6 : LSp := fun vs σ K => dP (.vec 0) vs fun r1 => dD (.sl w0) r1 fun s1 r2 => dD wI r2 fun s2 r3 => dD wI r3 fun s3 r4 => asNil r4 <| asCons σ fun a5 r5 => asDeep wI a5 fun s4 l6 => asNil l6 <| asNil r5 <| l18r6 (fun z1 => K (.exit 0) [(5, .vec 0)] [.deep wI z1 []]) s1 s2 s3 s4
theorem l18r6v : LoopV E wF (E.info 18).keep 0 Try.f18.ntmps 19000006 (body Try.f18 6) ([5, 20, 21, 22], lsl18r6) := by
  intro vs σ K h0
  obtain ⟨s1, s2, s3, r4, rfl, h8⟩ := cPDDD h0
  obtain ⟨rfl, h9⟩ := cN h8
  obtain ⟨a5, r5, rfl, h10⟩ := asCons_inv h9
  obtain ⟨s4, l6, rfl, h11⟩ := asDeep_inv h10
  obtain ⟨rfl, rfl, h13⟩ := cM h11
  intro J hJ
  have hp : wH 18 Try.f18 (body Try.f18 6) Ll18r6 := all_eq (by kernel_rfl : subsOf (E.info 18).keep (body Try.f18 6) = [.loop (body Try.f18 9)]) (all_cons (loopOK_of (mk := 19000009) (sl := [5, 6, 20, 21, 22, 29, 30, 31]) (ss := [([5, 6, 20, 21, 22, 29, 30, 31], lsl18r9)]) (by kernel_rfl) (by kernel_rfl) (all_cons l18r9v all_nil)) all_nil)
  exact h13.of (fun s1 s2 s3 s4 => J [(19000006, .undef), (5, .vec 0), (20, .d (.sl w0) s1), (21, I s2), (22, I s3)] [.deep wI s4 []]) (fun s1 s2 s3 s4 hb => loop_round2 nS (inlOK _) hp hJ (by kernel_rfl) hb)
abbrev S18 : wS := [(37, none, sp37)]
theorem hS18 : SpecOK E (ofL S18) := specOK_cons h37 specOK_nil
abbrev L18 : wL := [(19000006, [5, 20, 21, 22], none, lsl18r6)]
def sp18 : Sp := fun args τ K => dD w1 args fun x1 r1 => asNil r1 <| asNil τ <| c18 x1 (fun z1 z2 => K (.tup [.vec 0, I z1]) [.deep wI z2 []])
theorem h18 : ∀ args τ K, sp18 args τ K → ACall E 18 args τ K := by
  intro args τ K h0
  obtain ⟨x1, r1, rfl, h2⟩ := cD h0
  obtain ⟨rfl, rfl, h4⟩ := cM h2
  exact ACall.spec2 (fn := Try.f18) (c := codeOf Try.f18) (L := lofL L18) hS18 (by kernel_rfl) (by kernel_rfl) (inlOK _) (all_eq (by kernel_rfl : subsOf (E.info 18).keep (codeOf Try.f18) = [.loop (body Try.f18 6)]) (all_cons (loopOK_of (mk := 19000006) (sl := [5, 20, 21, 22]) (ss := [([5, 20, 21, 22], lsl18r6)]) (by kernel_rfl) (by kernel_rfl) (all_cons l18r6v all_nil)) all_nil)) (by kernel_rfl) h4.of
abbrev Sl47r7 : wS := [(40, none, sp40)]
theorem hSl47r7 : SpecOK E (ofL Sl47r7) := specOK_cons h40 specOK_nil
def lsl47r7 : LSp := fun vs σ K => dP (.ptr 0 0 []) vs fun r1 => dP (.vec 3) r1 fun r2 => dP (.vec 4) r2 fun r3 => dP (.ptr 5 0 []) r3 fun r4 => dD wI r4 fun s1 r5 => dD wI r5 fun s2 r6 => asNil r6 <| asCons σ fun a7 r7 => asOne (.pair w6 (.pair w6 .unit)) a7 fun a8 => asAgL a8 fun l9 => dP (.vec 1) l9 fun r10 => dP (.vec 2) r10 fun r11 => asNil r11 <| dR wI false r7 fun s3 r12 => dR wI false r12 fun s4 r13 => dR wI false r13 fun s5 r14 => asCons r14 fun a15 r15 => asDeep wI a15 fun s6 l16 => asNil l16 <| asCons r15 fun a17 r17 => asOne (.pair w6 (.pair w6 .unit)) a17 fun a18 => asAgL a18 fun l19 => dP (.vec 6) l19 fun r20 => dP (.vec 7) r20 fun r21 => asNil r21 <| dR wI false r17 fun s7 r22 => dR wI false r22 fun s8 r23 => asNil r23 <| l47r7 (fun z1 z2 z3 z4 z5 z6 => K (.exit 0) [(2, .ptr 0 0 []), (4, .vec 3), (6, .vec 4), (8, .ptr 5 0 [])] [.one (.pair w6 (.pair w6 .unit)) (.agg [.vec 1, .vec 2]), .row wI z1 false, .row wI z2 false, .row wI z3 false, .deep wI z4 [], .one (.pair w6 (.pair w6 .unit)) (.agg [.vec 6, .vec 7]), .row wI z5 false, .row wI z6 false]) s1 s2 s3 s4 s5 s6 s7 s8
theorem l47r7v : LoopV E wF (E.info 47).keep 0 Try.f47.ntmps 48000007 (body Try.f47 7) ([2, 4, 6, 8, 41, 42], lsl47r7) := by
  intro vs σ K h0
  obtain ⟨r4, rfl, h8⟩ := cPPPP h0
  obtain ⟨s1, s2, r6, rfl, h12⟩ := cDD h8
  obtain ⟨rfl, h13⟩ := cN h12
  obtain ⟨a7, r7, rfl, h14⟩ := asCons_inv h13
  obtain ⟨a8, rfl, h15⟩ := asOne_inv h14
  obtain ⟨l9, rfl, h16⟩ := asAgL_inv h15
  obtain ⟨r11, rfl, h20⟩ := cPP h16
  obtain ⟨rfl, h21⟩ := cN h20
  obtain ⟨s3, r12, rfl, h23⟩ := cR h21
  obtain ⟨s4, r13, rfl, h25⟩ := cR h23
  obtain ⟨s5, r14, rfl, h27⟩ := cR h25
  obtain ⟨a15, r15, rfl, h28⟩ := asCons_inv h27
  obtain ⟨s6, l16, rfl, h29⟩ := asDeep_inv h28
  obtain ⟨rfl, h30⟩ := cN h29
  obtain ⟨a17, r17, rfl, h31⟩ := asCons_inv h30
  obtain ⟨a18, rfl, h32⟩ := asOne_inv h31
  obtain ⟨l19, rfl, h33⟩ := asAgL_inv h32
  obtain ⟨r21, rfl, h37⟩ := cPP h33
  obtain ⟨rfl, h38⟩ := cN h37
  obtain ⟨s7, r22, rfl, h40⟩ := cR h38
  obtain ⟨s8, r23, rfl, h42⟩ := cR h40
  obtain ⟨rfl, h43⟩ := cN h42
  intro J hJ
  have hp : wH 47 Try.f47 (body Try.f47 7) nL := all_eq (by kernel_rfl) all_nil
  exact h43.of (fun s1 s2 s3 s4 s5 s6 s7 s8 => J [(48000007, .undef), (2, .ptr 0 0 []), (4, .vec 3), (6, .vec 4), (8, .ptr 5 0 []), (41, I s1), (42, I s2)] [.one (.pair w6 (.pair w6 .unit)) (.agg [.vec 1, .vec 2]), .row wI s3 false, .row wI s4 false, .row wI s5 false, .deep wI s6 [], .one (.pair w6 (.pair w6 .unit)) (.agg [.vec 6, .vec 7]), .row wI s7 false, .row wI s8 false]) (fun s1 s2 s3 s4 s5 s6 s7 s8 hb => loop_round2 hSl47r7 (inlOK _) hp hJ (by kernel_rfl) hb)
def lsl67r1 : LSp := fun vs σ K => dD wI vs fun s1 r1 => dD wI r1 fun s2 r2 => dP (.ptr 0 0 []) r2 fun r3 => asNil r3 <| dO (.pair w6 (.pair w6 .unit)) (.pair w6 (.pair w6 .unit)) σ fun s3 r4 => asNil r4 <| l67r1 (fun z1 => K (.exit 0) [(1, I z1)] []) s1 s2 s3
theorem l67r1v : LoopV E wF (E.info 67).keep 0 Try.f67.ntmps 68000001 (body Try.f67 1) ([1, 2, 3], lsl67r1) := by
  intro vs σ K h0
  obtain ⟨s1, s2, r3, rfl, h6⟩ := cDDP h0
  obtain ⟨rfl, h7⟩ := cN h6
  obtain ⟨s3, r4, rfl, h10⟩ := oD h7
  obtain ⟨rfl, h11⟩ := cN h10
  intro J hJ
  have hp : wH 67 Try.f67 (body Try.f67 1) nL := all_eq (by kernel_rfl) all_nil
  exact h11.of (fun s1 s2 s3 => J [(68000001, .undef), (1, I s1), (2, I s2), (3, .ptr 0 0 [])] [.one (.pair w6 (.pair w6 .unit)) (.d (.pair w6 (.pair w6 .unit)) s3)]) (fun s1 s2 s3 hb => loop_round2 nS (inlOK _) hp hJ (by kernel_rfl) hb)
abbrev L67 : wL := [(68000001, [1, 2, 3], none, lsl67r1)]
def sp67 : Sp := fun args τ K => dD (.pair w6 (.pair w6 .unit)) args fun x1 r1 => dD wI r1 fun x2 r2 => dD wI r2 fun x3 r3 => asNil r3 <| asNil τ <| c67 x1 x2 x3 (fun z1 => K (I z1) [])
theorem h67 : ∀ args τ K, sp67 args τ K → ACall E 67 args τ K := by
  intro args τ K h0
  obtain ⟨x1, x2, x3, r3, rfl, h6⟩ := cDDD h0
  obtain ⟨rfl, rfl, h8⟩ := cM h6
  exact ACall.spec2 (fn := Try.f67) (c := codeOf Try.f67) (L := lofL L67) nS (by kernel_rfl) (by kernel_rfl) (inlOK _) (all_eq (by kernel_rfl : subsOf (E.info 67).keep (codeOf Try.f67) = [.loop (body Try.f67 1)]) (all_cons (loopOK_of (mk := 68000001) (sl := [1, 2, 3]) (ss := [([1, 2, 3], lsl67r1)]) (by kernel_rfl) (by kernel_rfl) (all_cons l67r1v all_nil)) all_nil)) (by kernel_rfl) h8.of
abbrev Sl47r19 : wS := [(67, none, sp67)]
theorem hSl47r19 : SpecOK E (ofL Sl47r19) := specOK_cons h67 specOK_nil
def lsl47r19 : LSp := fun vs σ K => dP (.ptr 0 0 []) vs fun r1 => dP (.vec 3) r1 fun r2 => dP (.vec 4) r2 fun r3 => dP (.ptr 6 0 []) r3 fun r4 => dD .bool r4 fun s1 r5 => dD wI r5 fun s2 r6 => dD wI r6 fun s3 r7 => asCons r7 fun a8 r8 => asSl 3 false a8 fun s4 s5 s6 => dD wI r8 fun s7 r9 => dD wI r9 fun s8 r10 => dP (.vec 5) r10 fun r11 => dD wI r11 fun s9 r12 => dD wI r12 fun s10 r13 => asNil r13 <| asCons σ fun a14 r14 => asOne (.pair w6 (.pair w6 .unit)) a14 fun a15 => asAgL a15 fun l16 => dP (.vec 1) l16 fun r17 => dP (.vec 2) r17 fun r18 => asNil r18 <| dR wI false r14 fun s11 r19 => dR wI false r19 fun s12 r20 => dR wI false r20 fun s13 r21 => asCons r21 fun a22 r22 => asDeep wI a22 fun s14 l23 => asCons l23 fun a24 r24 => asHole 5 a24 fun s15 => asNil r24 <| dR wI false r22 fun s16 r25 => asCons r25 fun a26 r26 => asOne (.pair w6 (.pair w6 .unit)) a26 fun a27 => asAgL a27 fun l28 => dP (.vec 7) l28 fun r29 => dP (.vec 8) r29 fun r30 => asNil r30 <| dR wI false r26 fun s17 r31 => dR wI false r31 fun s18 r32 => asNil r32 <| l47r19 (fun z1 z2 z3 z4 z5 z6 z7 z8 z9 z10 z11 z12 z13 z14 => K (.exit 6) [(2, .ptr 0 0 []), (4, .vec 3), (6, .vec 4), (8, .ptr 5 0 []), (10, B z1), (12, I z2), (13, I z3), (59, .sl 3 z4 z5 z6 false), (60, I z7), (61, I z8)] [.one (.pair w6 (.pair w6 .unit)) (.agg [.vec 1, .vec 2]), .row wI z9 false, .row wI z10 false, .row wI z11 false, .deep wI z12 [], .one (.pair w6 (.pair w6 .unit)) (.agg [.vec 6, .vec 7]), .row wI z13 false, .row wI z14 false]) s1 s2 s3 s4 s5 s6 s7 s8 s9 s10 s11 s12 s13 s14 s15 s16 s17 s18
theorem l47r19v : LoopV E wF (E.info 47).keep 0 Try.f47.ntmps 48000019 (body Try.f47 19) ([2, 4, 6, 8, 10, 12, 13, 59, 60, 61, 68, 69, 70], lsl47r19) := by
  intro vs σ K h0
  obtain ⟨r4, rfl, h8⟩ := cPPPP h0
  obtain ⟨s1, s2, s3, r7, rfl, h14⟩ := cDDD h8
  obtain ⟨a8, r8, rfl, h15⟩ := asCons_inv h14
  obtain ⟨s4, s5, s6, rfl, h16⟩ := asSl_inv h15
  obtain ⟨s7, s8, s9, r12, rfl, h24⟩ := cDDPD h16
  obtain ⟨s10, r13, rfl, h26⟩ := cD h24
  obtain ⟨rfl, h27⟩ := cN h26
  obtain ⟨a14, r14, rfl, h28⟩ := asCons_inv h27
  obtain ⟨a15, rfl, h29⟩ := asOne_inv h28
  obtain ⟨l16, rfl, h30⟩ := asAgL_inv h29
  obtain ⟨r18, rfl, h34⟩ := cPP h30
  obtain ⟨rfl, h35⟩ := cN h34
  obtain ⟨s11, r19, rfl, h37⟩ := cR h35
  obtain ⟨s12, r20, rfl, h39⟩ := cR h37
  obtain ⟨s13, r21, rfl, h41⟩ := cR h39
  obtain ⟨a22, r22, rfl, h42⟩ := asCons_inv h41
  obtain ⟨s14, l23, rfl, h43⟩ := asDeep_inv h42
  obtain ⟨a24, r24, rfl, h44⟩ := asCons_inv h43
  obtain ⟨s15, rfl, h45⟩ := asHole_inv h44
  obtain ⟨rfl, h46⟩ := cN h45
  obtain ⟨s16, r25, rfl, h48⟩ := cR h46
  obtain ⟨a26, r26, rfl, h49⟩ := asCons_inv h48
  obtain ⟨a27, rfl, h50⟩ := asOne_inv h49
  obtain ⟨l28, rfl, h51⟩ := asAgL_inv h50
  obtain ⟨r30, rfl, h55⟩ := cPP h51
  obtain ⟨rfl, h56⟩ := cN h55
  obtain ⟨s17, r31, rfl, h58⟩ := cR h56
  obtain ⟨s18, r32, rfl, h60⟩ := cR h58
  obtain ⟨rfl, h61⟩ := cN h60
  intro J hJ
  have hp : wH 47 Try.f47 (body Try.f47 19) nL := all_eq (by kernel_rfl) all_nil
  exact h61.of (fun s1 s2 s3 s4 s5 s6 s7 s8 s9 s10 s11 s12 s13 s14 s15 s16 s17 s18 => J [(48000019, .undef), (2, .ptr 0 0 []), (4, .vec 3), (6, .vec 4), (8, .ptr 6 0 []), (10, B s1), (12, I s2), (13, I s3), (59, .sl 3 s4 s5 s6 false), (60, I s7), (61, I s8), (68, .vec 5), (69, I s9), (70, I s10)] [.one (.pair w6 (.pair w6 .unit)) (.agg [.vec 1, .vec 2]), .row wI s11 false, .row wI s12 false, .row wI s13 false, .deep wI s14 [(s15, 5)], .row wI s16 false, .one (.pair w6 (.pair w6 .unit)) (.agg [.vec 7, .vec 8]), .row wI s17 false, .row wI s18 false]) (fun s1 s2 s3 s4 s5 s6 s7 s8 s9 s10 s11 s12 s13 s14 s15 s16 s17 s18 hb => loop_round2 hSl47r19 (inlOK _) hp hJ (by kernel_rfl) hb)
abbrev Ll47r15 : wL := [(48000019, [2, 4, 6, 8, 10, 12, 13, 59, 60, 61, 68, 69, 70], none, lsl47r19)]
def lsl47r15 : LSp := fun vs σ K => dP (.ptr 0 0 []) vs fun r1 => dP (.vec 3) r1 fun r2 => dP (.vec 4) r2 fun r3 => dP (.ptr 5 0 []) r3 fun r4 => dD .bool r4 fun s1 r5 => asCons r5 fun a6 r6 => asSl 3 false a6 fun s2 s3 s4 => dD wI r6 fun s5 r7 => dD wI r7 fun s6 r8 => asNil r8 <| asCons σ fun a9 r9 => asOne (.pair w6 (.pair w6 .unit)) a9 fun a10 => asAgL a10 fun l11 => dP (.vec 1) l11 fun r12 => dP (.vec 2) r12 fun r13 => asNil r13 <| dR wI false r9 fun s7 r14 => dR wI false r14 fun s8 r15 => dR wI false r15 fun s9 r16 => asCons r16 fun a17 r17 => asDeep wI a17 fun s10 l18 => asNil l18 <| asCons r17 fun a19 r19 => asOne (.pair w6 (.pair w6 .unit)) a19 fun a20 => asAgL a20 fun l21 => dP (.vec 6) l21 fun r22 => dP (.vec 7) r22 fun r23 => asNil r23 <| dR wI false r19 fun s11 r24 => dR wI false r24 fun s12 r25 => asNil r25 <| l47r15 (fun z1 z2 z3 z4 z5 z6 z7 => K (.exit 4) [(2, .ptr 0 0 []), (4, .vec 3), (6, .vec 4), (8, .ptr 5 0 []), (10, B z1)] [.one (.pair w6 (.pair w6 .unit)) (.agg [.vec 1, .vec 2]), .row wI z2 false, .row wI z3 false, .row wI z4 false, .deep wI z5 [], .one (.pair w6 (.pair w6 .unit)) (.agg [.vec 6, .vec 7]), .row wI z6 false, .row wI z7 false]) s1 s2 s3 s4 s5 s6 s7 s8 s9 s10 s11 s12
theorem l47r15v : LoopV E wF (E.info 47).keep 0 Try.f47.ntmps 48000015 (body Try.f47 15) ([2, 4, 6, 8, 10, 59, 60, 61], lsl47r15) := by
  intro vs σ K h0
  obtain ⟨r4, rfl, h8⟩ := cPPPP h0
  obtain ⟨s1, r5, rfl, h10⟩ := cD h8
  obtain ⟨a6, r6, rfl, h11⟩ := asCons_inv h10
  obtain ⟨s2, s3, s4, rfl, h12⟩ := asSl_inv h11
  obtain ⟨s5, s6, r8, rfl, h16⟩ := cDD h12
  obtain ⟨rfl, h17⟩ := cN h16
  obtain ⟨a9, r9, rfl, h18⟩ := asCons_inv h17
  obtain ⟨a10, rfl, h19⟩ := asOne_inv h18
  obtain ⟨l11, rfl, h20⟩ := asAgL_inv h19
  obtain ⟨r13, rfl, h24⟩ := cPP h20
  obtain ⟨rfl, h25⟩ := cN h24
  obtain ⟨s7, r14, rfl, h27⟩ := cR h25
  obtain ⟨s8, r15, rfl, h29⟩ := cR h27
  obtain ⟨s9, r16, rfl, h31⟩ := cR h29
  obtain ⟨a17, r17, rfl, h32⟩ := asCons_inv h31
  obtain ⟨s10, l18, rfl, h33⟩ := asDeep_inv h32
  obtain ⟨rfl, h34⟩ := cN h33
  obtain ⟨a19, r19, rfl, h35⟩ := asCons_inv h34
  obtain ⟨a20, rfl, h36⟩ := asOne_inv h35
  obtain ⟨l21, rfl, h37⟩ := asAgL_inv h36
  obtain ⟨r23, rfl, h41⟩ := cPP h37
  obtain ⟨rfl, h42⟩ := cN h41
  obtain ⟨s11, r24, rfl, h44⟩ := cR h42
  obtain ⟨s12, r25, rfl, h46⟩ := cR h44
  obtain ⟨rfl, h47⟩ := cN h46
  intro J hJ
  have hp : wH 47 Try.f47 (body Try.f47 15) Ll47r15 := all_eq (by kernel_rfl : subsOf (E.info 47).keep (body Try.f47 15) = [.loop (body Try.f47 19)]) (all_cons (loopOK_of (mk := 48000019) (sl := [2, 4, 6, 8, 10, 12, 13, 59, 60, 61, 68, 69, 70]) (ss := [([2, 4, 6, 8, 10, 12, 13, 59, 60, 61, 68, 69, 70], lsl47r19)]) (by kernel_rfl) (by kernel_rfl) (all_cons l47r19v all_nil)) all_nil)
  exact h47.of (fun s1 s2 s3 s4 s5 s6 s7 s8 s9 s10 s11 s12 => J [(48000015, .undef), (2, .ptr 0 0 []), (4, .vec 3), (6, .vec 4), (8, .ptr 5 0 []), (10, B s1), (59, .sl 3 s2 s3 s4 false), (60, I s5), (61, I s6)] [.one (.pair w6 (.pair w6 .unit)) (.agg [.vec 1, .vec 2]), .row wI s7 false, .row wI s8 false, .row wI s9 false, .deep wI s10 [], .one (.pair w6 (.pair w6 .unit)) (.agg [.vec 6, .vec 7]), .row wI s11 false, .row wI s12 false]) (fun s1 s2 s3 s4 s5 s6 s7 s8 s9 s10 s11 s12 hb => loop_round2 nS (inlOK _) hp hJ (by kernel_rfl) hb)
abbrev Ll47r12 : wL := [(48000015, [2, 4, 6, 8, 10, 59, 60, 61], none, lsl47r15)]
def lsl47r12 : LSp := fun vs σ K => dP (.ptr 0 0 []) vs fun r1 => dP (.vec 3) r1 fun r2 => dP (.vec 4) r2 fun r3 => dP (.ptr 5 0 []) r3 fun r4 => dD .bool r4 fun s1 r5 => asNil r5 <| asCons σ fun a6 r6 => asOne (.pair w6 (.pair w6 .unit)) a6 fun a7 => asAgL a7 fun l8 => dP (.vec 1) l8 fun r9 => dP (.vec 2) r9 fun r10 => asNil r10 <| dR wI false r6 fun s2 r11 => dR wI false r11 fun s3 r12 => dR wI false r12 fun s4 r13 => asCons r13 fun a14 r14 => asDeep wI a14 fun s5 l15 => asNil l15 <| asCons r14 fun a16 r16 => asOne (.pair w6 (.pair w6 .unit)) a16 fun a17 => asAgL a17 fun l18 => dP (.vec 6) l18 fun r19 => dP (.vec 7) r19 fun r20 => asNil r20 <| dR wI false r16 fun s6 r21 => dR wI false r21 fun s7 r22 => asNil r22 <| l47r12 (fun z1 z2 z3 z4 => K (.exit 2) [(2, .ptr 0 0 []), (8, .ptr 3 0 [])] [.one (.pair w6 (.pair w6 .unit)) (.agg [.vec 1, .vec 2]), .row wI z1 false, .row wI z2 false, .one (.pair w6 (.pair w6 .unit)) (.agg [.vec 4, .vec 5]), .row wI z3 false, .row wI z4 false]) s1 s2 s3 s4 s5 s6 s7
theorem l47r12v : LoopV E wF (E.info 47).keep 0 Try.f47.ntmps 48000012 (body Try.f47 12) ([2, 4, 6, 8, 10], lsl47r12) := by
  intro vs σ K h0
  obtain ⟨r4, rfl, h8⟩ := cPPPP h0
  obtain ⟨s1, r5, rfl, h10⟩ := cD h8
  obtain ⟨rfl, h11⟩ := cN h10
  obtain ⟨a6, r6, rfl, h12⟩ := asCons_inv h11
  obtain ⟨a7, rfl, h13⟩ := asOne_inv h12
  obtain ⟨l8, rfl, h14⟩ := asAgL_inv h13
  obtain ⟨r10, rfl, h18⟩ := cPP h14
  obtain ⟨rfl, h19⟩ := cN h18
  obtain ⟨s2, r11, rfl, h21⟩ := cR h19
  obtain ⟨s3, r12, rfl, h23⟩ := cR h21
  obtain ⟨s4, r13, rfl, h25⟩ := cR h23
  obtain ⟨a14, r14, rfl, h26⟩ := asCons_inv h25
  obtain ⟨s5, l15, rfl, h27⟩ := asDeep_inv h26
  obtain ⟨rfl, h28⟩ := cN h27
  obtain ⟨a16, r16, rfl, h29⟩ := asCons_inv h28
  obtain ⟨a17, rfl, h30⟩ := asOne_inv h29
  obtain ⟨l18, rfl, h31⟩ := asAgL_inv h30
  obtain ⟨r20, rfl, h35⟩ := cPP h31
  obtain ⟨rfl, h36⟩ := cN h35
  obtain ⟨s6, r21, rfl, h38⟩ := cR h36
  obtain ⟨s7, r22, rfl, h40⟩ := cR h38
  obtain ⟨rfl, h41⟩ := cN h40
  intro J hJ
  have hp : wH 47 Try.f47 (body Try.f47 12) Ll47r12 := all_eq (by kernel_rfl : subsOf (E.info 47).keep (body Try.f47 12) = [.loop (body Try.f47 15)]) (all_cons (loopOK_of (mk := 48000015) (sl := [2, 4, 6, 8, 10, 59, 60, 61]) (ss := [([2, 4, 6, 8, 10, 59, 60, 61], lsl47r15)]) (by kernel_rfl) (by kernel_rfl) (all_cons l47r15v all_nil)) all_nil)
  exact h41.of (fun s1 s2 s3 s4 s5 s6 s7 => J [(48000012, .undef), (2, .ptr 0 0 []), (4, .vec 3), (6, .vec 4), (8, .ptr 5 0 []), (10, B s1)] [.one (.pair w6 (.pair w6 .unit)) (.agg [.vec 1, .vec 2]), .row wI s2 false, .row wI s3 false, .row wI s4 false, .deep wI s5 [], .one (.pair w6 (.pair w6 .unit)) (.agg [.vec 6, .vec 7]), .row wI s6 false, .row wI s7 false]) (fun s1 s2 s3 s4 s5 s6 s7 hb => loop_round2 nS (inlOK _) hp hJ (by kernel_rfl) hb)
abbrev Lj47r6 : wL := [(48000007, [2, 4, 6, 8, 41, 42], none, lsl47r7), (48000012, [2, 4, 6, 8, 10], none, lsl47r12)]
def lsj47r6 : LSp := fun vs σ K => dP (.ptr 0 0 []) vs fun r1 => dP (.vec 3) r1 fun r2 => dP (.vec 4) r2 fun r3 => dP (.ptr 5 0 []) r3 fun r4 => asNil r4 <| asCons σ fun a5 r5 => asOne (.pair w6 (.pair w6 .unit)) a5 fun a6 => asAgL a6 fun l7 => dP (.vec 1) l7 fun r8 => dP (.vec 2) r8 fun r9 => asNil r9 <| dR wI false r5 fun s1 r10 => dR wI false r10 fun s2 r11 => dR wI false r11 fun s3 r12 => asCons r12 fun a13 r13 => asDeep wI a13 fun s4 l14 => asNil l14 <| asCons r13 fun a15 r15 => asOne (.pair w6 (.pair w6 .unit)) a15 fun a16 => asAgL a16 fun l17 => dP (.vec 6) l17 fun r18 => dP (.vec 7) r18 fun r19 => asNil r19 <| dR wI false r15 fun s5 r20 => dR wI false r20 fun s6 r21 => asNil r21 <| j47r6 (fun z1 z2 z3 => K .ret [(2, .ptr 0 0 []), (3, I z1)] [.one (.pair w6 (.pair w6 .unit)) (.agg [.vec 1, .vec 2]), .row wI z2 false, .row wI z3 false]) s1 s2 s3 s4 s5 s6
theorem j47r6v : JoinV E wF (E.info 47).keep 0 Try.f47.ntmps 48400006 4000006 (jbody Try.f47 4000006) ([2, 4, 6, 8], lsj47r6) := by
  intro vs σ K h0
  obtain ⟨r4, rfl, h8⟩ := cPPPP h0
  obtain ⟨rfl, h9⟩ := cN h8
  obtain ⟨a5, r5, rfl, h10⟩ := asCons_inv h9
  obtain ⟨a6, rfl, h11⟩ := asOne_inv h10
  obtain ⟨l7, rfl, h12⟩ := asAgL_inv h11
  obtain ⟨r9, rfl, h16⟩ := cPP h12
  obtain ⟨rfl, h17⟩ := cN h16
  obtain ⟨s1, r10, rfl, h19⟩ := cR h17
  obtain ⟨s2, r11, rfl, h21⟩ := cR h19
  obtain ⟨s3, r12, rfl, h23⟩ := cR h21
  obtain ⟨a13, r13, rfl, h24⟩ := asCons_inv h23
  obtain ⟨s4, l14, rfl, h25⟩ := asDeep_inv h24
  obtain ⟨rfl, h26⟩ := cN h25
  obtain ⟨a15, r15, rfl, h27⟩ := asCons_inv h26
  obtain ⟨a16, rfl, h28⟩ := asOne_inv h27
  obtain ⟨l17, rfl, h29⟩ := asAgL_inv h28
  obtain ⟨r19, rfl, h33⟩ := cPP h29
  obtain ⟨rfl, h34⟩ := cN h33
  obtain ⟨s5, r20, rfl, h36⟩ := cR h34
  obtain ⟨s6, r21, rfl, h38⟩ := cR h36
  obtain ⟨rfl, h39⟩ := cN h38
  exact join_round2 (L := lofL Lj47r6) nS (inlOK _) (all_eq (by kernel_rfl : subsOf (E.info 47).keep (jbody Try.f47 4000006) = [.loop (body Try.f47 7), .loop (body Try.f47 12)]) (all_cons (loopOK_of (mk := 48000007) (sl := [2, 4, 6, 8, 41, 42]) (ss := [([2, 4, 6, 8, 41, 42], lsl47r7)]) (by kernel_rfl) (by kernel_rfl) (all_cons l47r7v all_nil)) (all_cons (loopOK_of (mk := 48000012) (sl := [2, 4, 6, 8, 10]) (ss := [([2, 4, 6, 8, 10], lsl47r12)]) (by kernel_rfl) (by kernel_rfl) (all_cons l47r12v all_nil)) all_nil))) (by kernel_rfl) h39.of
abbrev S47 : wS := [(36, none, sp36), (18, none, sp18)]
theorem hS47 : SpecOK E (ofL S47) := specOK_cons h36 (specOK_cons h18 specOK_nil)
abbrev L47 : wL := [(48400006, [2, 4, 6, 8], none, lsj47r6)]
def sp47 : Sp := fun args τ K => dD w1 args fun x1 r1 => asNil r1 <| asNil τ <| c47 x1 (fun z1 z2 z3 => K (.tup [.agg [.vec 0, .vec 1], I z1]) [.row wI z2 false, .row wI z3 false])
theorem h47 : ∀ args τ K, sp47 args τ K → ACall E 47 args τ K := by
  intro args τ K h0
  obtain ⟨x1, r1, rfl, h2⟩ := cD h0
  obtain ⟨rfl, rfl, h4⟩ := cM h2
  exact ACall.spec2 (fn := Try.f47) (c := codeOf Try.f47) (L := lofL L47) hS47 (by kernel_rfl) (by kernel_rfl) (inlOK _) (all_eq (by kernel_rfl : subsOf (E.info 47).keep (codeOf Try.f47) = [.join 4000006 (jbody Try.f47 4000006)]) (all_cons (joinOK_of (mk := 48400006) (sl := [2, 4, 6, 8]) (ss := [([2, 4, 6, 8], lsj47r6)]) (by kernel_rfl) (by kernel_rfl) (all_cons j47r6v all_nil)) all_nil)) (by kernel_rfl) h4.of
abbrev S34 : wS := [(47, none, sp47)]
theorem hS34 : SpecOK E (ofL S34) := specOK_cons h47 specOK_nil
def sp34 : Sp := fun args τ K => dD w1 args fun x1 r1 => asNil r1 <| asNil τ <| c34 x1 (fun z1 z2 => K (.tup [.vec 0, I z1]) [.row wI z2 false])
theorem h34 : ∀ args τ K, sp34 args τ K → ACall E 34 args τ K := by
  intro args τ K h0
  obtain ⟨x1, r1, rfl, h2⟩ := cD h0
  obtain ⟨rfl, rfl, h4⟩ := cM h2
  exact ACall.spec2 (fn := Try.f34) (c := codeOf Try.f34) (L := lofL nL) hS34 (by kernel_rfl) (by kernel_rfl) (inlOK _) (all_eq (by kernel_rfl) all_nil) (by kernel_rfl) h4.of
def lsl35r1 : LSp := fun vs σ K => dD w6 vs fun s1 r1 => dD wI r1 fun s2 r2 => dD wI r2 fun s3 r3 => asNil r3 <| asNil σ <| l35r1 (fun z1 z2 => K (.exit 0) [(1, I z1), (2, I z2)] []) s1 s2 s3
theorem l35r1v : LoopV E wF (E.info 35).keep 0 Try.f35.ntmps 36000001 (body Try.f35 1) ([0, 1, 2], lsl35r1) := by
  intro vs σ K h0
  obtain ⟨s1, s2, s3, r3, rfl, h6⟩ := cDDD h0
  obtain ⟨rfl, rfl, h8⟩ := cM h6
  intro J hJ
  have hp : wH 35 Try.f35 (body Try.f35 1) nL := all_eq (by kernel_rfl) all_nil
  exact h8.of (fun s1 s2 s3 => J [(36000001, .undef), (0, .d w6 s1), (1, I s2), (2, I s3)] []) (fun s1 s2 s3 hb => loop_round2 nS (inlOK _) hp hJ (by kernel_rfl) hb)
abbrev L35 : wL := [(36000001, [0, 1, 2], none, lsl35r1)]
def sp35 : Sp := fun args τ K => dD w6 args fun x1 r1 => dD wI r1 fun x2 r2 => dD wI r2 fun x3 r3 => asNil r3 <| asNil τ <| c35 x1 x2 x3 (fun z1 => K (B z1) [])
theorem h35 : ∀ args τ K, sp35 args τ K → ACall E 35 args τ K := by
  intro args τ K h0
  obtain ⟨x1, x2, x3, r3, rfl, h6⟩ := cDDD h0
  obtain ⟨rfl, rfl, h8⟩ := cM h6
  exact ACall.spec2 (fn := Try.f35) (c := codeOf Try.f35) (L := lofL L35) nS (by kernel_rfl) (by kernel_rfl) (inlOK _) (all_eq (by kernel_rfl : subsOf (E.info 35).keep (codeOf Try.f35) = [.loop (body Try.f35 1)]) (all_cons (loopOK_of (mk := 36000001) (sl := [0, 1, 2]) (ss := [([0, 1, 2], lsl35r1)]) (by kernel_rfl) (by kernel_rfl) (all_cons l35r1v all_nil)) all_nil)) (by kernel_rfl) h8.of
abbrev Sl16r10 : wS := [(35, none, sp35)]
theorem hSl16r10 : SpecOK E (ofL Sl16r10) := specOK_cons h35 specOK_nil
def lsl16r10 : LSp := fun vs σ K => dP (.ptr 0 0 []) vs fun r1 => dP (.vec 1) r1 fun r2 => dP (.vec 2) r2 fun r3 => dD wI r3 fun s1 r4 => dP (.vec 3) r4 fun r5 => dD wI r5 fun s2 r6 => dD wI r6 fun s3 r7 => dD (.sl w3) r7 fun s4 r8 => dD wI r8 fun s5 r9 => dD wI r9 fun s6 r10 => asNil r10 <| dO w1 w1 σ fun s7 r11 => dR wI false r11 fun s8 r13 => dR w2 false r13 fun s9 r14 => dR wI false r14 fun s10 r15 => asNil r15 <| l16r10 (fun z1 z2 z3 z4 z5 z6 => K (.exit 2) [(1, .ptr 0 0 []), (6, .vec 1), (8, .vec 2), (26, .vec 3), (27, I z1), (28, I z2)] [.one w1 (.d w1 z3), .row wI z4 false, .row w2 z5 false, .row wI z6 false]) s1 s2 s3 s4 s5 s6 s7 s8 s9 s10
theorem l16r10v : LoopV E wF (E.info 16).keep 0 Try.f16.ntmps 17000010 (body Try.f16 10) ([1, 6, 8, 10, 26, 27, 28, 38, 39, 40], lsl16r10) := by
  intro vs σ K h0
  obtain ⟨s1, r4, rfl, h8⟩ := cPPPD h0
  obtain ⟨s2, s3, s4, r8, rfl, h16⟩ := cPDDD h8
  obtain ⟨s5, s6, r10, rfl, h20⟩ := cDD h16
  obtain ⟨rfl, h21⟩ := cN h20
  obtain ⟨s7, r11, rfl, h24⟩ := oD h21
  obtain ⟨s8, r13, rfl, h26⟩ := cR h24
  obtain ⟨s9, r14, rfl, h28⟩ := cR h26
  obtain ⟨s10, r15, rfl, h30⟩ := cR h28
  obtain ⟨rfl, h31⟩ := cN h30
  intro J hJ
  have hp : wH 16 Try.f16 (body Try.f16 10) nL := all_eq (by kernel_rfl) all_nil
  exact h31.of (fun s1 s2 s3 s4 s5 s6 s7 s8 s9 s10 => J [(17000010, .undef), (1, .ptr 0 0 []), (6, .vec 1), (8, .vec 2), (10, I s1), (26, .vec 3), (27, I s2), (28, I s3), (38, .d (.sl w3) s4), (39, I s5), (40, I s6)] [.one w1 (.d w1 s7), .row wI s8 false, .row w2 s9 false, .row wI s10 false]) (fun s1 s2 s3 s4 s5 s6 s7 s8 s9 s10 hb => loop_round2 hSl16r10 (inlOK _) hp hJ (by kernel_rfl) hb)
abbrev Ll16r7 : wL := [(17000010, [1, 6, 8, 10, 26, 27, 28, 38, 39, 40], none, lsl16r10)]
def lsl16r7 : LSp := fun vs σ K => dP (.ptr 0 0 []) vs fun r1 => dP (.vec 1) r1 fun r2 => dP (.vec 2) r2 fun r3 => dP (.vec 3) r3 fun r4 => dD wI r4 fun s1 r5 => dD wI r5 fun s2 r6 => asNil r6 <| dO w1 w1 σ fun s3 r7 => dR wI false r7 fun s4 r9 => dR w2 false r9 fun s5 r10 => dR wI false r10 fun s6 r11 => asNil r11 <| l16r7 (fun z1 => K (.exit 0) [(8, .vec 0)] [.row w2 z1 false]) s1 s2 s3 s4 s5 s6
theorem l16r7v : LoopV E wF (E.info 16).keep 0 Try.f16.ntmps 17000007 (body Try.f16 7) ([1, 6, 8, 26, 27, 28], lsl16r7) := by
  intro vs σ K h0
  obtain ⟨r4, rfl, h8⟩ := cPPPP h0
  obtain ⟨s1, s2, r6, rfl, h12⟩ := cDD h8
  obtain ⟨rfl, h13⟩ := cN h12
  obtain ⟨s3, r7, rfl, h16⟩ := oD h13
  obtain ⟨s4, r9, rfl, h18⟩ := cR h16
  obtain ⟨s5, r10, rfl, h20⟩ := cR h18
  obtain ⟨s6, r11, rfl, h22⟩ := cR h20
  obtain ⟨rfl, h23⟩ := cN h22
  intro J hJ
  have hp : wH 16 Try.f16 (body Try.f16 7) Ll16r7 := all_eq (by kernel_rfl : subsOf (E.info 16).keep (body Try.f16 7) = [.loop (body Try.f16 10)]) (all_cons (loopOK_of (mk := 17000010) (sl := [1, 6, 8, 10, 26, 27, 28, 38, 39, 40]) (ss := [([1, 6, 8, 10, 26, 27, 28, 38, 39, 40], lsl16r10)]) (by kernel_rfl) (by kernel_rfl) (all_cons l16r10v all_nil)) all_nil)
  exact h23.of (fun s1 s2 s3 s4 s5 s6 => J [(17000007, .undef), (1, .ptr 0 0 []), (6, .vec 1), (8, .vec 2), (26, .vec 3), (27, I s1), (28, I s2)] [.one w1 (.d w1 s3), .row wI s4 false, .row w2 s5 false, .row wI s6 false]) (fun s1 s2 s3 s4 s5 s6 hb => loop_round2 nS (inlOK _) hp hJ (by kernel_rfl) hb)
abbrev S16 : wS := [(17, none, sp17), (34, none, sp34)]
theorem hS16 : SpecOK E (ofL S16) := specOK_cons h17 (specOK_cons h34 specOK_nil)
abbrev L16 : wL := [(17000007, [1, 6, 8, 26, 27, 28], none, lsl16r7)]
def sp16 : Sp := fun args τ K => dD w1 args fun x1 r1 => asNil r1 <| asNil τ <| c16 x1 (fun z1 z2 => K (.tup [.vec 0, I z1]) [.row w2 z2 false])
theorem h16 : ∀ args τ K, sp16 args τ K → ACall E 16 args τ K := by
  intro args τ K h0
  obtain ⟨x1, r1, rfl, h2⟩ := cD h0
  obtain ⟨rfl, rfl, h4⟩ := cM h2
  exact ACall.spec2 (fn := Try.f16) (c := codeOf Try.f16) (L := lofL L16) hS16 (by kernel_rfl) (by kernel_rfl) (inlOK _) (all_eq (by kernel_rfl : subsOf (E.info 16).keep (codeOf Try.f16) = [.loop (body Try.f16 7)]) (all_cons (loopOK_of (mk := 17000007) (sl := [1, 6, 8, 26, 27, 28]) (ss := [([1, 6, 8, 26, 27, 28], lsl16r7)]) (by kernel_rfl) (by kernel_rfl) (all_cons l16r7v all_nil)) all_nil)) (by kernel_rfl) h4.of
def lsl6r12 : LSp := fun vs σ K => dP (.vec 0) vs fun r1 => dP (.vec 1) r1 fun r2 => dP (.vec 2) r2 fun r3 => dP (.vec 3) r3 fun r4 => dD wI r4 fun s1 r5 => dP (.vec 4) r5 fun r6 => dD wI r6 fun s2 r7 => dD wI r7 fun s3 r8 => dP (.vec 0) r8 fun r9 => dD wI r9 fun s4 r10 => dD wI r10 fun s5 r11 => asNil r11 <| dR w2 false σ fun s6 r12 => dR wI false r12 fun s7 r13 => asCons r13 fun a14 r14 => asDeep wI a14 fun s8 l15 => asNil l15 <| dR w4 false r14 fun s9 r16 => dR wI false r16 fun s10 r17 => asNil r17 <| l6r12 (fun z1 z2 z3 z4 z5 z6 z7 z8 => K (.exit 2) [(4, .vec 0), (6, .vec 1), (8, .vec 2), (10, .vec 3), (11, I z1), (12, .vec 4), (39, I z2), (40, I z3)] [.row w2 z4 false, .row wI z5 false, .deep wI z6 [], .row w4 z7 false, .row wI z8 false]) s1 s2 s3 s4 s5 s6 s7 s8 s9 s10
theorem l6r12v : LoopV E wF (E.info 6).keep 0 Try.f6.ntmps 7000012 (body Try.f6 12) ([4, 6, 8, 10, 11, 12, 39, 40, 43, 44, 45], lsl6r12) := by
  intro vs σ K h0
  obtain ⟨r4, rfl, h8⟩ := cPPPP h0
  obtain ⟨s1, s2, s3, r8, rfl, h16⟩ := cDPDD h8
  obtain ⟨s4, s5, r11, rfl, h22⟩ := cPDD h16
  obtain ⟨rfl, h23⟩ := cN h22
  obtain ⟨s6, r12, rfl, h25⟩ := cR h23
  obtain ⟨s7, r13, rfl, h27⟩ := cR h25
  obtain ⟨a14, r14, rfl, h28⟩ := asCons_inv h27
  obtain ⟨s8, l15, rfl, h29⟩ := asDeep_inv h28
  obtain ⟨rfl, h30⟩ := cN h29
  obtain ⟨s9, r16, rfl, h32⟩ := cR h30
  obtain ⟨s10, r17, rfl, h34⟩ := cR h32
  obtain ⟨rfl, h35⟩ := cN h34
  intro J hJ
  have hp : wH 6 Try.f6 (body Try.f6 12) nL := all_eq (by kernel_rfl) all_nil
  exact h35.of (fun s1 s2 s3 s4 s5 s6 s7 s8 s9 s10 => J [(7000012, .undef), (4, .vec 0), (6, .vec 1), (8, .vec 2), (10, .vec 3), (11, I s1), (12, .vec 4), (39, I s2), (40, I s3), (43, .vec 0), (44, I s4), (45, I s5)] [.row w2 s6 false, .row wI s7 false, .deep wI s8 [], .row w4 s9 false, .row wI s10 false]) (fun s1 s2 s3 s4 s5 s6 s7 s8 s9 s10 hb => loop_round2 nS (inlOK _) hp hJ (by kernel_rfl) hb)
abbrev Sl19r3 : wS := [(38, none, sp38)]
theorem hSl19r3 : SpecOK E (ofL Sl19r3) := specOK_cons h38 specOK_nil
def lsl19r3 : LSp := fun vs σ K => dD w6 vs fun s1 r1 => dD wI r1 fun s2 r2 => dD wI r2 fun s3 r3 => dD wI r3 fun s4 r4 => dD wI r4 fun s5 r5 => asNil r5 <| asNil σ <| l19r3 (fun z1 z2 z3 z4 => K (.exit 0) [(0, .d w6 z1), (1, I z2), (6, I z3), (7, I z4)] []) s1 s2 s3 s4 s5
theorem l19r3v : LoopV E wF (E.info 19).keep 0 Try.f19.ntmps 20000003 (body Try.f19 3) ([0, 1, 6, 7, 8], lsl19r3) := by
  intro vs σ K h0
  obtain ⟨s1, s2, s3, s4, r4, rfl, h8⟩ := cDDDD h0
  obtain ⟨s5, r5, rfl, h10⟩ := cD h8
  obtain ⟨rfl, rfl, h12⟩ := cM h10
  intro J hJ
  have hp : wH 19 Try.f19 (body Try.f19 3) nL := all_eq (by kernel_rfl) all_nil
  exact h12.of (fun s1 s2 s3 s4 s5 => J [(20000003, .undef), (0, .d w6 s1), (1, I s2), (6, I s3), (7, I s4), (8, I s5)] []) (fun s1 s2 s3 s4 s5 hb => loop_round2 hSl19r3 (inlOK _) hp hJ (by kernel_rfl) hb)
end Go.Proofs.Yteeigkbjjoedoac
