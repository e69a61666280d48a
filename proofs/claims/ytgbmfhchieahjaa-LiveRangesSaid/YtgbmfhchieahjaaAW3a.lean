/- The functions compute that (printed by a program). -/
import Derived.Test.YtgbmfhchieahjaaAD3
import Derived.Test.YtgbmfhchieahjaaAEnvC
import Derived.KernelRfl
namespace Go.Proofs.Ytgbmfhchieahjaa
open Go.Abs
set_option maxRecDepth 100000
set_option maxHeartbeats 4000000
set_option linter.unusedVariables false
abbrev wI : Ty := .int .i64
abbrev w0 : Ty := .pair (.sl wI) (.pair (.sl (.pair wI (.pair wI (.pair wI (.pair (.sl wI) .unit))))) (.pair (.pair wI (.pair wI (.pair wI (.pair (.sl wI) (.pair (.sl (.pair wI (.pair (.sl wI) .unit))) .unit))))) .unit))
abbrev w1 : Ty := .pair wI (.pair (.sl w0) .unit)
abbrev w2 : Ty := .pair wI (.pair wI (.pair wI (.pair wI .unit)))
abbrev w3 : Ty := .pair wI (.pair wI (.pair wI (.pair (.sl wI) (.pair (.sl (.pair wI (.pair (.sl wI) .unit))) .unit))))
abbrev w4 : Ty := .pair w1 (.pair wI (.pair (.sl (.sl .bool)) .unit))
abbrev w5 : Ty := .pair wI (.pair (.sl wI) .unit)
abbrev w6 : Ty := .pair wI (.pair wI .unit)
theorem cD {t : Ty} {l : List AV} {F : t.T → List AV → Prop} (h : asCons l fun a r => asD t a fun s => F s r) : ∃ s r, l = .d t s :: r ∧ F s r := by
  obtain ⟨a, r, rfl, h1⟩ := asCons_inv h
  obtain ⟨s, rfl, h2⟩ := asD_inv h1
  exact ⟨s, r, rfl, h2⟩
theorem cP {p : AV} {l : List AV} {F : List AV → Prop} (h : asCons l fun a r => asP p a <| F r) : ∃ r, l = p :: r ∧ F r := by
  obtain ⟨a, r, rfl, h1⟩ := asCons_inv h
  obtain ⟨rfl, h2⟩ := asP_inv h1
  exact ⟨r, rfl, h2⟩
theorem cR {t : Ty} {ex : Bool} {l : List Ob} {F : List t.T → List Ob → Prop} (h : asCons l fun a r => asRw t ex a fun s => F s r) : ∃ s r, l = .row t s ex :: r ∧ F s r := by
  obtain ⟨a, r, rfl, h1⟩ := asCons_inv h
  obtain ⟨s, rfl, h2⟩ := asRw_inv h1
  exact ⟨s, r, rfl, h2⟩
theorem oD {u t : Ty} {l : List Ob} {F : t.T → List Ob → Prop} (h : asCons l fun a r => asOne u a fun v => asD t v fun s => F s r) : ∃ s r, l = .one u (.d t s) :: r ∧ F s r := by
  obtain ⟨a, r, rfl, h1⟩ := asCons_inv h
  obtain ⟨v, rfl, h2⟩ := asOne_inv h1
  obtain ⟨s, rfl, h3⟩ := asD_inv h2
  exact ⟨s, r, rfl, h3⟩
theorem oP {u : Ty} {p : AV} {l : List Ob} {F : List Ob → Prop} (h : asCons l fun a r => asOne u a fun v => asP p v <| F r) : ∃ r, l = .one u p :: r ∧ F r := by
  obtain ⟨a, r, rfl, h1⟩ := asCons_inv h
  obtain ⟨v, rfl, h2⟩ := asOne_inv h1
  obtain ⟨rfl, h3⟩ := asP_inv h2
  exact ⟨r, rfl, h3⟩
theorem cN {α : Type} {l : List α} {F} (h : asNil l F) : l = [] ∧ F := asNil_inv h
abbrev wF := inlF (PA (ACall E)) E 8
abbrev wL := List (Nat × List Nat × Pat × LSp)
abbrev wS := List (Nat × Pat × Sp)
abbrev dD (t : Ty) (l : List AV) (F : t.T → List AV → Prop) : Prop := asCons l fun a r => asD t a fun s => F s r
abbrev dP (p : AV) (l : List AV) (F : List AV → Prop) : Prop := asCons l fun a r => asP p a <| F r
abbrev dR (t : Ty) (ex : Bool) (l : List Ob) (F : List t.T → List Ob → Prop) : Prop := asCons l fun a r => asRw t ex a fun s => F s r
abbrev dO (u t : Ty) (l : List Ob) (F : t.T → List Ob → Prop) : Prop := asCons l fun a r => asOne u a fun v => asD t v fun s => F s r
abbrev dQ (u : Ty) (p : AV) (l : List Ob) (F : List Ob → Prop) : Prop := asCons l fun a r => asOne u a fun v => asP p v <| F r
theorem cM {α β : Type} {l : List α} {m : List β} {F} (h : asNil l (asNil m F)) : l = [] ∧ m = [] ∧ F := ⟨(asNil_inv h).1, (asNil_inv (asNil_inv h).2).1, (asNil_inv (asNil_inv h).2).2⟩
theorem nS : SpecOK E (ofL ([] : wS)) := specOK_nil
abbrev nL : wL := []
abbrev wH (n : Nat) (f : Func) (c : Code) (L : wL) : Prop := ∀ c' ∈ subsOf (E.info n).keep c, SubOK E wF (E.info n).keep 0 f.ntmps (lofL L) c'
theorem cDD {t0 : Ty} {t1 : Ty} {l : List AV} {F : t0.T → t1.T → List AV → Prop} (h : dD t0 l fun s0 r0 => dD t1 r0 fun s1 r1 => F s0 s1 r1) : ∃ s0 s1 r, l = .d t0 s0 :: .d t1 s1 :: r ∧ F s0 s1 r := by
  obtain ⟨s0, r0, rfl, h0⟩ := cD h
  obtain ⟨s1, r1, rfl, h1⟩ := cD h0
  exact ⟨s0, s1, r1, rfl, h1⟩
theorem cDP {t0 : Ty} {p1 : AV} {l : List AV} {F : t0.T → List AV → Prop} (h : dD t0 l fun s0 r0 => dP p1 r0 fun r1 => F s0 r1) : ∃ s0 r, l = .d t0 s0 :: p1 :: r ∧ F s0 r := by
  obtain ⟨s0, r0, rfl, h0⟩ := cD h
  obtain ⟨r1, rfl, h1⟩ := cP h0
  exact ⟨s0, r1, rfl, h1⟩
theorem cPD {p0 : AV} {t1 : Ty} {l : List AV} {F : t1.T → List AV → Prop} (h : dP p0 l fun r0 => dD t1 r0 fun s1 r1 => F s1 r1) : ∃ s1 r, l = p0 :: .d t1 s1 :: r ∧ F s1 r := by
  obtain ⟨r0, rfl, h0⟩ := cP h
  obtain ⟨s1, r1, rfl, h1⟩ := cD h0
  exact ⟨s1, r1, rfl, h1⟩
theorem cPP {p0 : AV} {p1 : AV} {l : List AV} {F : List AV → Prop} (h : dP p0 l fun r0 => dP p1 r0 fun r1 => F r1) : ∃ r, l = p0 :: p1 :: r ∧ F r := by
  obtain ⟨r0, rfl, h0⟩ := cP h
  obtain ⟨r1, rfl, h1⟩ := cP h0
  exact ⟨r1, rfl, h1⟩
theorem cDDD {t0 : Ty} {t1 : Ty} {t2 : Ty} {l : List AV} {F : t0.T → t1.T → t2.T → List AV → Prop} (h : dD t0 l fun s0 r0 => dD t1 r0 fun s1 r1 => dD t2 r1 fun s2 r2 => F s0 s1 s2 r2) : ∃ s0 s1 s2 r, l = .d t0 s0 :: .d t1 s1 :: .d t2 s2 :: r ∧ F s0 s1 s2 r := by
  obtain ⟨s0, r0, rfl, h0⟩ := cD h
  obtain ⟨s1, r1, rfl, h1⟩ := cD h0
  obtain ⟨s2, r2, rfl, h2⟩ := cD h1
  exact ⟨s0, s1, s2, r2, rfl, h2⟩
theorem cDDP {t0 : Ty} {t1 : Ty} {p2 : AV} {l : List AV} {F : t0.T → t1.T → List AV → Prop} (h : dD t0 l fun s0 r0 => dD t1 r0 fun s1 r1 => dP p2 r1 fun r2 => F s0 s1 r2) : ∃ s0 s1 r, l = .d t0 s0 :: .d t1 s1 :: p2 :: r ∧ F s0 s1 r := by
  obtain ⟨s0, r0, rfl, h0⟩ := cD h
  obtain ⟨s1, r1, rfl, h1⟩ := cD h0
  obtain ⟨r2, rfl, h2⟩ := cP h1
  exact ⟨s0, s1, r2, rfl, h2⟩
theorem cDPP {t0 : Ty} {p1 : AV} {p2 : AV} {l : List AV} {F : t0.T → List AV → Prop} (h : dD t0 l fun s0 r0 => dP p1 r0 fun r1 => dP p2 r1 fun r2 => F s0 r2) : ∃ s0 r, l = .d t0 s0 :: p1 :: p2 :: r ∧ F s0 r := by
  obtain ⟨s0, r0, rfl, h0⟩ := cD h
  obtain ⟨r1, rfl, h1⟩ := cP h0
  obtain ⟨r2, rfl, h2⟩ := cP h1
  exact ⟨s0, r2, rfl, h2⟩
theorem cPDD {p0 : AV} {t1 : Ty} {t2 : Ty} {l : List AV} {F : t1.T → t2.T → List AV → Prop} (h : dP p0 l fun r0 => dD t1 r0 fun s1 r1 => dD t2 r1 fun s2 r2 => F s1 s2 r2) : ∃ s1 s2 r, l = p0 :: .d t1 s1 :: .d t2 s2 :: r ∧ F s1 s2 r := by
  obtain ⟨r0, rfl, h0⟩ := cP h
  obtain ⟨s1, r1, rfl, h1⟩ := cD h0
  obtain ⟨s2, r2, rfl, h2⟩ := cD h1
  exact ⟨s1, s2, r2, rfl, h2⟩
theorem cPDP {p0 : AV} {t1 : Ty} {p2 : AV} {l : List AV} {F : t1.T → List AV → Prop} (h : dP p0 l fun r0 => dD t1 r0 fun s1 r1 => dP p2 r1 fun r2 => F s1 r2) : ∃ s1 r, l = p0 :: .d t1 s1 :: p2 :: r ∧ F s1 r := by
  obtain ⟨r0, rfl, h0⟩ := cP h
  obtain ⟨s1, r1, rfl, h1⟩ := cD h0
  obtain ⟨r2, rfl, h2⟩ := cP h1
  exact ⟨s1, r2, rfl, h2⟩
theorem cPPD {p0 : AV} {p1 : AV} {t2 : Ty} {l : List AV} {F : t2.T → List AV → Prop} (h : dP p0 l fun r0 => dP p1 r0 fun r1 => dD t2 r1 fun s2 r2 => F s2 r2) : ∃ s2 r, l = p0 :: p1 :: .d t2 s2 :: r ∧ F s2 r := by
  obtain ⟨r0, rfl, h0⟩ := cP h
  obtain ⟨r1, rfl, h1⟩ := cP h0
  obtain ⟨s2, r2, rfl, h2⟩ := cD h1
  exact ⟨s2, r2, rfl, h2⟩
theorem cDDDD {t0 : Ty} {t1 : Ty} {t2 : Ty} {t3 : Ty} {l : List AV} {F : t0.T → t1.T → t2.T → t3.T → List AV → Prop} (h : dD t0 l fun s0 r0 => dD t1 r0 fun s1 r1 => dD t2 r1 fun s2 r2 => dD t3 r2 fun s3 r3 => F s0 s1 s2 s3 r3) : ∃ s0 s1 s2 s3 r, l = .d t0 s0 :: .d t1 s1 :: .d t2 s2 :: .d t3 s3 :: r ∧ F s0 s1 s2 s3 r := by
  obtain ⟨s0, r0, rfl, h0⟩ := cD h
  obtain ⟨s1, r1, rfl, h1⟩ := cD h0
  obtain ⟨s2, r2, rfl, h2⟩ := cD h1
  obtain ⟨s3, r3, rfl, h3⟩ := cD h2
  exact ⟨s0, s1, s2, s3, r3, rfl, h3⟩
theorem cDDDP {t0 : Ty} {t1 : Ty} {t2 : Ty} {p3 : AV} {l : List AV} {F : t0.T → t1.T → t2.T → List AV → Prop} (h : dD t0 l fun s0 r0 => dD t1 r0 fun s1 r1 => dD t2 r1 fun s2 r2 => dP p3 r2 fun r3 => F s0 s1 s2 r3) : ∃ s0 s1 s2 r, l = .d t0 s0 :: .d t1 s1 :: .d t2 s2 :: p3 :: r ∧ F s0 s1 s2 r := by
  obtain ⟨s0, r0, rfl, h0⟩ := cD h
  obtain ⟨s1, r1, rfl, h1⟩ := cD h0
  obtain ⟨s2, r2, rfl, h2⟩ := cD h1
  obtain ⟨r3, rfl, h3⟩ := cP h2
  exact ⟨s0, s1, s2, r3, rfl, h3⟩
theorem cDDPD {t0 : Ty} {t1 : Ty} {p2 : AV} {t3 : Ty} {l : List AV} {F : t0.T → t1.T → t3.T → List AV → Prop} (h : dD t0 l fun s0 r0 => dD t1 r0 fun s1 r1 => dP p2 r1 fun r2 => dD t3 r2 fun s3 r3 => F s0 s1 s3 r3) : ∃ s0 s1 s3 r, l = .d t0 s0 :: .d t1 s1 :: p2 :: .d t3 s3 :: r ∧ F s0 s1 s3 r := by
  obtain ⟨s0, r0, rfl, h0⟩ := cD h
  obtain ⟨s1, r1, rfl, h1⟩ := cD h0
  obtain ⟨r2, rfl, h2⟩ := cP h1
  obtain ⟨s3, r3, rfl, h3⟩ := cD h2
  exact ⟨s0, s1, s3, r3, rfl, h3⟩
theorem cDDPP {t0 : Ty} {t1 : Ty} {p2 : AV} {p3 : AV} {l : List AV} {F : t0.T → t1.T → List AV → Prop} (h : dD t0 l fun s0 r0 => dD t1 r0 fun s1 r1 => dP p2 r1 fun r2 => dP p3 r2 fun r3 => F s0 s1 r3) : ∃ s0 s1 r, l = .d t0 s0 :: .d t1 s1 :: p2 :: p3 :: r ∧ F s0 s1 r := by
  obtain ⟨s0, r0, rfl, h0⟩ := cD h
  obtain ⟨s1, r1, rfl, h1⟩ := cD h0
  obtain ⟨r2, rfl, h2⟩ := cP h1
  obtain ⟨r3, rfl, h3⟩ := cP h2
  exact ⟨s0, s1, r3, rfl, h3⟩
theorem cDPDD {t0 : Ty} {p1 : AV} {t2 : Ty} {t3 : Ty} {l : List AV} {F : t0.T → t2.T → t3.T → List AV → Prop} (h : dD t0 l fun s0 r0 => dP p1 r0 fun r1 => dD t2 r1 fun s2 r2 => dD t3 r2 fun s3 r3 => F s0 s2 s3 r3) : ∃ s0 s2 s3 r, l = .d t0 s0 :: p1 :: .d t2 s2 :: .d t3 s3 :: r ∧ F s0 s2 s3 r := by
  obtain ⟨s0, r0, rfl, h0⟩ := cD h
  obtain ⟨r1, rfl, h1⟩ := cP h0
  obtain ⟨s2, r2, rfl, h2⟩ := cD h1
  obtain ⟨s3, r3, rfl, h3⟩ := cD h2
  exact ⟨s0, s2, s3, r3, rfl, h3⟩
theorem cDPPD {t0 : Ty} {p1 : AV} {p2 : AV} {t3 : Ty} {l : List AV} {F : t0.T → t3.T → List AV → Prop} (h : dD t0 l fun s0 r0 => dP p1 r0 fun r1 => dP p2 r1 fun r2 => dD t3 r2 fun s3 r3 => F s0 s3 r3) : ∃ s0 s3 r, l = .d t0 s0 :: p1 :: p2 :: .d t3 s3 :: r ∧ F s0 s3 r := by
  obtain ⟨s0, r0, rfl, h0⟩ := cD h
  obtain ⟨r1, rfl, h1⟩ := cP h0
  obtain ⟨r2, rfl, h2⟩ := cP h1
  obtain ⟨s3, r3, rfl, h3⟩ := cD h2
  exact ⟨s0, s3, r3, rfl, h3⟩
theorem cDPPP {t0 : Ty} {p1 : AV} {p2 : AV} {p3 : AV} {l : List AV} {F : t0.T → List AV → Prop} (h : dD t0 l fun s0 r0 => dP p1 r0 fun r1 => dP p2 r1 fun r2 => dP p3 r2 fun r3 => F s0 r3) : ∃ s0 r, l = .d t0 s0 :: p1 :: p2 :: p3 :: r ∧ F s0 r := by
  obtain ⟨s0, r0, rfl, h0⟩ := cD h
  obtain ⟨r1, rfl, h1⟩ := cP h0
  obtain ⟨r2, rfl, h2⟩ := cP h1
  obtain ⟨r3, rfl, h3⟩ := cP h2
  exact ⟨s0, r3, rfl, h3⟩
theorem cPDDD {p0 : AV} {t1 : Ty} {t2 : Ty} {t3 : Ty} {l : List AV} {F : t1.T → t2.T → t3.T → List AV → Prop} (h : dP p0 l fun r0 => dD t1 r0 fun s1 r1 => dD t2 r1 fun s2 r2 => dD t3 r2 fun s3 r3 => F s1 s2 s3 r3) : ∃ s1 s2 s3 r, l = p0 :: .d t1 s1 :: .d t2 s2 :: .d t3 s3 :: r ∧ F s1 s2 s3 r := by
  obtain ⟨r0, rfl, h0⟩ := cP h
  obtain ⟨s1, r1, rfl, h1⟩ := cD h0
  obtain ⟨s2, r2, rfl, h2⟩ := cD h1
  obtain ⟨s3, r3, rfl, h3⟩ := cD h2
  exact ⟨s1, s2, s3, r3, rfl, h3⟩
theorem cPDPD {p0 : AV} {t1 : Ty} {p2 : AV} {t3 : Ty} {l : List AV} {F : t1.T → t3.T → List AV → Prop} (h : dP p0 l fun r0 => dD t1 r0 fun s1 r1 => dP p2 r1 fun r2 => dD t3 r2 fun s3 r3 => F s1 s3 r3) : ∃ s1 s3 r, l = p0 :: .d t1 s1 :: p2 :: .d t3 s3 :: r ∧ F s1 s3 r := by
  obtain ⟨r0, rfl, h0⟩ := cP h
  obtain ⟨s1, r1, rfl, h1⟩ := cD h0
  obtain ⟨r2, rfl, h2⟩ := cP h1
  obtain ⟨s3, r3, rfl, h3⟩ := cD h2
  exact ⟨s1, s3, r3, rfl, h3⟩
theorem cPPDD {p0 : AV} {p1 : AV} {t2 : Ty} {t3 : Ty} {l : List AV} {F : t2.T → t3.T → List AV → Prop} (h : dP p0 l fun r0 => dP p1 r0 fun r1 => dD t2 r1 fun s2 r2 => dD t3 r2 fun s3 r3 => F s2 s3 r3) : ∃ s2 s3 r, l = p0 :: p1 :: .d t2 s2 :: .d t3 s3 :: r ∧ F s2 s3 r := by
  obtain ⟨r0, rfl, h0⟩ := cP h
  obtain ⟨r1, rfl, h1⟩ := cP h0
  obtain ⟨s2, r2, rfl, h2⟩ := cD h1
  obtain ⟨s3, r3, rfl, h3⟩ := cD h2
  exact ⟨s2, s3, r3, rfl, h3⟩
theorem cPPDP {p0 : AV} {p1 : AV} {t2 : Ty} {p3 : AV} {l : List AV} {F : t2.T → List AV → Prop} (h : dP p0 l fun r0 => dP p1 r0 fun r1 => dD t2 r1 fun s2 r2 => dP p3 r2 fun r3 => F s2 r3) : ∃ s2 r, l = p0 :: p1 :: .d t2 s2 :: p3 :: r ∧ F s2 r := by
  obtain ⟨r0, rfl, h0⟩ := cP h
  obtain ⟨r1, rfl, h1⟩ := cP h0
  obtain ⟨s2, r2, rfl, h2⟩ := cD h1
  obtain ⟨r3, rfl, h3⟩ := cP h2
  exact ⟨s2, r3, rfl, h3⟩
theorem cPPPD {p0 : AV} {p1 : AV} {p2 : AV} {t3 : Ty} {l : List AV} {F : t3.T → List AV → Prop} (h : dP p0 l fun r0 => dP p1 r0 fun r1 => dP p2 r1 fun r2 => dD t3 r2 fun s3 r3 => F s3 r3) : ∃ s3 r, l = p0 :: p1 :: p2 :: .d t3 s3 :: r ∧ F s3 r := by
  obtain ⟨r0, rfl, h0⟩ := cP h
  obtain ⟨r1, rfl, h1⟩ := cP h0
  obtain ⟨r2, rfl, h2⟩ := cP h1
  obtain ⟨s3, r3, rfl, h3⟩ := cD h2
  exact ⟨s3, r3, rfl, h3⟩
theorem cPPPP {p0 : AV} {p1 : AV} {p2 : AV} {p3 : AV} {l : List AV} {F : List AV → Prop} (h : dP p0 l fun r0 => dP p1 r0 fun r1 => dP p2 r1 fun r2 => dP p3 r2 fun r3 => F r3) : ∃ r, l = p0 :: p1 :: p2 :: p3 :: r ∧ F r := by
  obtain ⟨r0, rfl, h0⟩ := cP h
  obtain ⟨r1, rfl, h1⟩ := cP h0
  obtain ⟨r2, rfl, h2⟩ := cP h1
  obtain ⟨r3, rfl, h3⟩ := cP h2
  exact ⟨r3, rfl, h3⟩
def lsl30r3 : LSp := fun vs σ K => dP (.ptr 0 0 []) vs fun r1 => dD wI r1 fun s1 r2 => dD (.sl w0) r2 fun s2 r3 => dD wI r3 fun s3 r4 => dD wI r4 fun s4 r5 => asNil r5 <| dO w1 w1 σ fun s5 r6 => asNil r6 <| l30r3 (fun z1 z2 => K (.exit 0) [(1, .ptr 0 0 []), (3, I z1)] [.one w1 (.d w1 z2)]) s1 s2 s3 s4 s5
theorem l30r3v : LoopV E wF (E.info 30).keep 0 Try.f30.ntmps 31000003 (body Try.f30 3) ([1, 3, 10, 11, 12], lsl30r3) := by
  intro vs σ K h0
  obtain ⟨s1, s2, s3, r4, rfl, h8⟩ := cPDDD h0
  obtain ⟨s4, r5, rfl, h10⟩ := cD h8
  obtain ⟨rfl, h11⟩ := cN h10
  obtain ⟨s5, r6, rfl, h14⟩ := oD h11
  obtain ⟨rfl, h15⟩ := cN h14
  intro J hJ
  have hp : wH 30 Try.f30 (body Try.f30 3) nL := all_eq (by kernel_rfl) all_nil
  exact h15.of (fun s1 s2 s3 s4 s5 => J [(31000003, .undef), (1, .ptr 0 0 []), (3, I s1), (10, .d (.sl w0) s2), (11, I s3), (12, I s4)] [.one w1 (.d w1 s5)]) (fun s1 s2 s3 s4 s5 hb => loop_round2 nS (inlOK _) hp hJ (by kernel_rfl) hb)
def sp38 : Sp := fun args τ K => dD wI args fun x1 r1 => dD wI r1 fun x2 r2 => dD wI r2 fun x3 r3 => asNil r3 <| asNil τ <| c38 x1 x2 x3 (fun z1 => K (B z1) [])
theorem h38 : ∀ args τ K, sp38 args τ K → ACall E 38 args τ K := by
  intro args τ K h0
  obtain ⟨x1, x2, x3, r3, rfl, h6⟩ := cDDD h0
  obtain ⟨rfl, rfl, h8⟩ := cM h6
  exact ACall.spec2 (fn := Try.f38) (c := codeOf Try.f38) (L := lofL nL) nS (by kernel_rfl) (by kernel_rfl) (inlOK _) (all_eq (by kernel_rfl) all_nil) (by kernel_rfl) h8.of
abbrev S44 : wS := [(38, none, sp38)]
theorem hS44 : SpecOK E (ofL S44) := specOK_cons h38 specOK_nil
def sp44 : Sp := fun args τ K => dP (.ptr 0 0 []) args fun r1 => dD wI r1 fun x1 r2 => dD w6 r2 fun x2 r3 => asNil r3 <| asCons τ fun a4 r4 => asOne (.pair w1 (.pair (.opq .map) .unit)) a4 fun a5 => asAgL a5 fun l6 => dD w1 l6 fun x3 r7 => dP (.mp 1) r7 fun r8 => asNil r8 <| asCons r4 fun a9 r9 => asKv w6 a9 fun x4 => asNil r9 <| c44 x1 x2 x3 x4 (fun z1 z2 z3 => K (I z1) [.one (.pair w1 (.pair (.opq .map) .unit)) (.agg [.d w1 z2, .mp 1]), .kv w6 z3])
theorem h44 : ∀ args τ K, sp44 args τ K → ACall E 44 args τ K := by
  intro args τ K h0
  obtain ⟨x1, x2, r3, rfl, h6⟩ := cPDD h0
  obtain ⟨rfl, h7⟩ := cN h6
  obtain ⟨a4, r4, rfl, h8⟩ := asCons_inv h7
  obtain ⟨a5, rfl, h9⟩ := asOne_inv h8
  obtain ⟨l6, rfl, h10⟩ := asAgL_inv h9
  obtain ⟨x3, r8, rfl, h14⟩ := cDP h10
  obtain ⟨rfl, h15⟩ := cN h14
  obtain ⟨a9, r9, rfl, h16⟩ := asCons_inv h15
  obtain ⟨x4, rfl, h17⟩ := asKv_inv h16
  obtain ⟨rfl, h18⟩ := cN h17
  exact ACall.spec2 (fn := Try.f44) (c := codeOf Try.f44) (L := lofL nL) hS44 (by kernel_rfl) (by kernel_rfl) (inlOK _) (all_eq (by kernel_rfl) all_nil) (by kernel_rfl) h18.of
abbrev Sl39r3 : wS := [(44, none, sp44)]
theorem hSl39r3 : SpecOK E (ofL Sl39r3) := specOK_cons h44 specOK_nil
def lsl39r3 : LSp := fun vs σ K => dP (.ptr 0 0 []) vs fun r1 => dD wI r1 fun s1 r2 => dP (.ptr 2 0 []) r2 fun r3 => dD (.sl wI) r3 fun s2 r4 => dD wI r4 fun s3 r5 => dD wI r5 fun s4 r6 => asNil r6 <| asCons σ fun a7 r7 => asOne (.pair w1 (.pair (.opq .map) .unit)) a7 fun a8 => asAgL a8 fun l9 => dD w1 l9 fun s5 r10 => dP (.mp 1) r10 fun r11 => asNil r11 <| asCons r7 fun a12 r12 => asKv w6 a12 fun s6 => dO w0 w0 r12 fun s7 r13 => asNil r13 <| l39r3 (fun z1 z2 z3 => K .ret [(0, .undef), (1, .undef), (4, I z1), (5, .undef)] [.one (.pair w1 (.pair (.opq .map) .unit)) (.agg [.d w1 z2, .mp 1]), .kv w6 z3]) (fun z1 z2 z3 z4 => K (.exit 0) [(0, .ptr 0 0 []), (1, I z1), (4, .undef), (5, .ptr 2 0 [])] [.one (.pair w1 (.pair (.opq .map) .unit)) (.agg [.d w1 z2, .mp 1]), .kv w6 z3, .one w0 (.d w0 z4)]) s1 s2 s3 s4 s5 s6 s7
theorem l39r3v : LoopV E wF (E.info 39).keep 2 Try.f39.ntmps 40000003 (body Try.f39 3) ([0, 1, 5, 22, 23, 24], lsl39r3) := by
  intro vs σ K h0
  obtain ⟨s1, s2, r4, rfl, h8⟩ := cPDPD h0
  obtain ⟨s3, s4, r6, rfl, h12⟩ := cDD h8
  obtain ⟨rfl, h13⟩ := cN h12
  obtain ⟨a7, r7, rfl, h14⟩ := asCons_inv h13
  obtain ⟨a8, rfl, h15⟩ := asOne_inv h14
  obtain ⟨l9, rfl, h16⟩ := asAgL_inv h15
  obtain ⟨s5, r11, rfl, h20⟩ := cDP h16
  obtain ⟨rfl, h21⟩ := cN h20
  obtain ⟨a12, r12, rfl, h22⟩ := asCons_inv h21
  obtain ⟨s6, rfl, h23⟩ := asKv_inv h22
  obtain ⟨s7, r13, rfl, h26⟩ := oD h23
  obtain ⟨rfl, h27⟩ := cN h26
  intro J hJ
  have hp : ∀ c' ∈ subsOf (E.info 39).keep (body Try.f39 3), SubOK E wF (E.info 39).keep 2 Try.f39.ntmps (lofL nL) c' := all_eq (by kernel_rfl) all_nil
  exact h27.of (fun s1 s2 s3 s4 s5 s6 s7 => J [(40000003, .undef), (0, .ptr 0 0 []), (1, I s1), (5, .ptr 2 0 []), (22, .d (.sl wI) s2), (23, I s3), (24, I s4)] [.one (.pair w1 (.pair (.opq .map) .unit)) (.agg [.d w1 s5, .mp 1]), .kv w6 s6, .one w0 (.d w0 s7)]) (fun s1 s2 s3 s4 s5 s6 s7 hb => loop_round2 hSl39r3 (inlOK _) hp hJ (by kernel_rfl) hb)
def sp52 : Sp := fun args τ K => dD (.pair wI (.pair wI w5)) args fun x1 r1 => asNil r1 <| asNil τ <| c52 x1 (fun z1 z2 => K (.tup [I z1, B z2]) [])
theorem h52 : ∀ args τ K, sp52 args τ K → ACall E 52 args τ K := by
  intro args τ K h0
  obtain ⟨x1, r1, rfl, h2⟩ := cD h0
  obtain ⟨rfl, rfl, h4⟩ := cM h2
  exact ACall.spec2 (fn := Try.f52) (c := codeOf Try.f52) (L := lofL nL) nS (by kernel_rfl) (by kernel_rfl) (inlOK _) (all_eq (by kernel_rfl) all_nil) (by kernel_rfl) h4.of
abbrev S55 : wS := [(38, none, sp38)]
theorem hS55 : SpecOK E (ofL S55) := specOK_cons h38 specOK_nil
def sp55 : Sp := fun args τ K => dD wI args fun x1 r1 => asNil r1 <| asNil τ <| c55 x1 (fun z1 => K (B z1) [])
theorem h55 : ∀ args τ K, sp55 args τ K → ACall E 55 args τ K := by
  intro args τ K h0
  obtain ⟨x1, r1, rfl, h2⟩ := cD h0
  obtain ⟨rfl, rfl, h4⟩ := cM h2
  exact ACall.spec2 (fn := Try.f55) (c := codeOf Try.f55) (L := lofL nL) hS55 (by kernel_rfl) (by kernel_rfl) (inlOK _) (all_eq (by kernel_rfl) all_nil) (by kernel_rfl) h4.of
abbrev S53 : wS := [(55, none, sp55), (38, none, sp38)]
theorem hS53 : SpecOK E (ofL S53) := specOK_cons h55 (specOK_cons h38 specOK_nil)
def sp53 : Sp := fun args τ K => dD (.pair wI (.pair wI w5)) args fun x1 r1 => asNil r1 <| asNil τ <| c53 x1 (fun z1 => K (B z1) [])
theorem h53 : ∀ args τ K, sp53 args τ K → ACall E 53 args τ K := by
  intro args τ K h0
  obtain ⟨x1, r1, rfl, h2⟩ := cD h0
  obtain ⟨rfl, rfl, h4⟩ := cM h2
  exact ACall.spec2 (fn := Try.f53) (c := codeOf Try.f53) (L := lofL nL) hS53 (by kernel_rfl) (by kernel_rfl) (inlOK _) (all_eq (by kernel_rfl) all_nil) (by kernel_rfl) h4.of
abbrev Sj45s5 : wS := [(53, none, sp53)]
theorem hSj45s5 : SpecOK E (ofL Sj45s5) := specOK_cons h53 specOK_nil
def lsj45s5 : LSp := fun vs σ K => dP (.ptr 0 0 []) vs fun r1 => dD .bool r1 fun s1 r2 => asNil r2 <| dO (.pair wI (.pair wI w5)) (.pair wI (.pair wI w5)) σ fun s2 r3 => asNil r3 <| j45s5 (fun z1 => K .ret [(2, I z1)] []) (K .normal [(2, .undef)] []) s1 s2
theorem j45s5v : JoinV E wF (E.info 45).keep 0 Try.f45.ntmps 46500005 5000005 (jbody Try.f45 5000005) ([1, 35], lsj45s5) := by
  intro vs σ K h0
  obtain ⟨s1, r2, rfl, h4⟩ := cPD h0
  obtain ⟨rfl, h5⟩ := cN h4
  obtain ⟨s2, r3, rfl, h8⟩ := oD h5
  obtain ⟨rfl, h9⟩ := cN h8
  exact join_round2 (L := lofL nL) hSj45s5 (inlOK _) (all_eq (by kernel_rfl) all_nil) (by kernel_rfl) h9.of
abbrev Lj45s2 : wL := [(46500005, [1, 35], none, lsj45s5)]
def lsj45s2 : LSp := fun vs σ K => dP (.ptr 0 0 []) vs fun r1 => dD .bool r1 fun s1 r2 => asNil r2 <| dO (.pair wI (.pair wI w5)) (.pair wI (.pair wI w5)) σ fun s2 r3 => asNil r3 <| j45s2 (fun z1 => K .ret [(2, I z1)] []) (K .normal [(2, .undef)] []) s1 s2
theorem j45s2v : JoinV E wF (E.info 45).keep 0 Try.f45.ntmps 46500002 5000002 (jbody Try.f45 5000002) ([1, 10], lsj45s2) := by
  intro vs σ K h0
  obtain ⟨s1, r2, rfl, h4⟩ := cPD h0
  obtain ⟨rfl, h5⟩ := cN h4
  obtain ⟨s2, r3, rfl, h8⟩ := oD h5
  obtain ⟨rfl, h9⟩ := cN h8
  exact join_round2 (L := lofL Lj45s2) nS (inlOK _) (all_eq (by kernel_rfl : subsOf (E.info 45).keep (jbody Try.f45 5000002) = [.join 5000005 (jbody Try.f45 5000005)]) (all_cons (joinOK_of (mk := 46500005) (sl := [1, 35]) (ss := [([1, 35], lsj45s5)]) (by kernel_rfl) (by kernel_rfl) (all_cons j45s5v all_nil)) all_nil)) (by kernel_rfl) h9.of
def lsj45r9 : LSp := fun vs σ K => asNil vs <| asNil σ <| j45r9 (fun z1 => K .ret [(2, I z1)] []) 
theorem j45r9v : JoinV E wF (E.info 45).keep 0 Try.f45.ntmps 46400009 4000009 (jbody Try.f45 4000009) ([], lsj45r9) := by
  intro vs σ K h0
  obtain ⟨rfl, rfl, h2⟩ := cM h0
  exact join_round2 (L := lofL nL) nS (inlOK _) (all_eq (by kernel_rfl) all_nil) (by kernel_rfl) h2.of
abbrev S45 : wS := [(52, none, sp52)]
theorem hS45 : SpecOK E (ofL S45) := specOK_cons h52 specOK_nil
abbrev L45 : wL := [(46500002, [1, 10], none, lsj45s2), (46400009, [], none, lsj45r9)]
def sp45 : Sp := fun args τ K => dD (.pair wI (.pair wI w5)) args fun x1 r1 => asNil r1 <| asNil τ <| c45 x1 (fun z1 => K (I z1) [])
theorem h45 : ∀ args τ K, sp45 args τ K → ACall E 45 args τ K := by
  intro args τ K h0
  obtain ⟨x1, r1, rfl, h2⟩ := cD h0
  obtain ⟨rfl, rfl, h4⟩ := cM h2
  exact ACall.spec2 (fn := Try.f45) (c := codeOf Try.f45) (L := lofL L45) hS45 (by kernel_rfl) (by kernel_rfl) (inlOK _) (all_eq (by kernel_rfl : subsOf (E.info 45).keep (codeOf Try.f45) = [.join 4000009 (jbody Try.f45 4000009), .join 5000002 (jbody Try.f45 5000002)]) (all_cons (joinOK_of (mk := 46400009) (sl := []) (ss := [([], lsj45r9)]) (by kernel_rfl) (by kernel_rfl) (all_cons j45r9v all_nil)) (all_cons (joinOK_of (mk := 46500002) (sl := [1, 10]) (ss := [([1, 10], lsj45s2)]) (by kernel_rfl) (by kernel_rfl) (all_cons j45s2v all_nil)) all_nil))) (by kernel_rfl) h4.of
abbrev Sl39r10 : wS := [(44, none, sp44), (45, none, sp45)]
theorem hSl39r10 : SpecOK E (ofL Sl39r10) := specOK_cons h44 (specOK_cons h45 specOK_nil)
def lsl39r10 : LSp := fun vs σ K => dP (.ptr 0 0 []) vs fun r1 => dD wI r1 fun s1 r2 => dP (.ptr 2 0 []) r2 fun r3 => dD (.sl (.pair wI (.pair wI w5))) r3 fun s2 r4 => dD wI r4 fun s3 r5 => dD wI r5 fun s4 r6 => asNil r6 <| asCons σ fun a7 r7 => asOne (.pair w1 (.pair (.opq .map) .unit)) a7 fun a8 => asAgL a8 fun l9 => dD w1 l9 fun s5 r10 => dP (.mp 1) r10 fun r11 => asNil r11 <| asCons r7 fun a12 r12 => asKv w6 a12 fun s6 => dO w0 w0 r12 fun s7 r13 => asNil r13 <| l39r10 (fun z1 z2 z3 => K .ret [(0, .undef), (4, I z1), (5, .undef)] [.one (.pair w1 (.pair (.opq .map) .unit)) (.agg [.d w1 z2, .mp 1]), .kv w6 z3]) (fun z1 z2 z3 => K (.exit 2) [(0, .ptr 0 0 []), (4, .undef), (5, .ptr 2 0 [])] [.one (.pair w1 (.pair (.opq .map) .unit)) (.agg [.d w1 z1, .mp 1]), .kv w6 z2, .one w0 (.d w0 z3)]) s1 s2 s3 s4 s5 s6 s7
theorem l39r10v : LoopV E wF (E.info 39).keep 2 Try.f39.ntmps 40000010 (body Try.f39 10) ([0, 1, 5, 38, 39, 40], lsl39r10) := by
  intro vs σ K h0
  obtain ⟨s1, s2, r4, rfl, h8⟩ := cPDPD h0
  obtain ⟨s3, s4, r6, rfl, h12⟩ := cDD h8
  obtain ⟨rfl, h13⟩ := cN h12
  obtain ⟨a7, r7, rfl, h14⟩ := asCons_inv h13
  obtain ⟨a8, rfl, h15⟩ := asOne_inv h14
  obtain ⟨l9, rfl, h16⟩ := asAgL_inv h15
  obtain ⟨s5, r11, rfl, h20⟩ := cDP h16
  obtain ⟨rfl, h21⟩ := cN h20
  obtain ⟨a12, r12, rfl, h22⟩ := asCons_inv h21
  obtain ⟨s6, rfl, h23⟩ := asKv_inv h22
  obtain ⟨s7, r13, rfl, h26⟩ := oD h23
  obtain ⟨rfl, h27⟩ := cN h26
  intro J hJ
  have hp : ∀ c' ∈ subsOf (E.info 39).keep (body Try.f39 10), SubOK E wF (E.info 39).keep 2 Try.f39.ntmps (lofL nL) c' := all_eq (by kernel_rfl) all_nil
  exact h27.of (fun s1 s2 s3 s4 s5 s6 s7 => J [(40000010, .undef), (0, .ptr 0 0 []), (1, I s1), (5, .ptr 2 0 []), (38, .d (.sl (.pair wI (.pair wI w5))) s2), (39, I s3), (40, I s4)] [.one (.pair w1 (.pair (.opq .map) .unit)) (.agg [.d w1 s5, .mp 1]), .kv w6 s6, .one w0 (.d w0 s7)]) (fun s1 s2 s3 s4 s5 s6 s7 hb => loop_round2 hSl39r10 (inlOK _) hp hJ (by kernel_rfl) hb)
def lsj54r14 : LSp := fun vs σ K => dP (.ptr 0 0 []) vs fun r1 => dD wI r1 fun s1 r2 => dD .bool r2 fun s2 r3 => dD .bool r3 fun s3 r4 => dD .bool r4 fun s4 r5 => asNil r5 <| dO w3 w3 σ fun s5 r6 => asNil r6 <| j54r14 (fun z1 => K .ret [(2, B z1)] []) s1 s2 s3 s4 s5
theorem j54r14v : JoinV E wF (E.info 54).keep 0 Try.f54.ntmps 55400014 4000014 (jbody Try.f54 4000014) ([1, 3, 4, 5, 6], lsj54r14) := by
  intro vs σ K h0
  obtain ⟨s1, s2, s3, r4, rfl, h8⟩ := cPDDD h0
  obtain ⟨s4, r5, rfl, h10⟩ := cD h8
  obtain ⟨rfl, h11⟩ := cN h10
  obtain ⟨s5, r6, rfl, h14⟩ := oD h11
  obtain ⟨rfl, h15⟩ := cN h14
  exact join_round2 (L := lofL nL) nS (inlOK _) (all_eq (by kernel_rfl) all_nil) (by kernel_rfl) h15.of
abbrev L54 : wL := [(55400014, [1, 3, 4, 5, 6], none, lsj54r14)]
def sp54 : Sp := fun args τ K => dD w3 args fun x1 r1 => asNil r1 <| asNil τ <| c54 x1 (fun z1 => K (B z1) [])
theorem h54 : ∀ args τ K, sp54 args τ K → ACall E 54 args τ K := by
  intro args τ K h0
  obtain ⟨x1, r1, rfl, h2⟩ := cD h0
  obtain ⟨rfl, rfl, h4⟩ := cM h2
  exact ACall.spec2 (fn := Try.f54) (c := codeOf Try.f54) (L := lofL L54) nS (by kernel_rfl) (by kernel_rfl) (inlOK _) (all_eq (by kernel_rfl : subsOf (E.info 54).keep (codeOf Try.f54) = [.join 4000014 (jbody Try.f54 4000014)]) (all_cons (joinOK_of (mk := 55400014) (sl := [1, 3, 4, 5, 6]) (ss := [([1, 3, 4, 5, 6], lsj54r14)]) (by kernel_rfl) (by kernel_rfl) (all_cons j54r14v all_nil)) all_nil)) (by kernel_rfl) h4.of
def lsl51r2 : LSp := fun vs σ K => dD (.sl wI) vs fun s1 r1 => dD wI r1 fun s2 r2 => dD wI r2 fun s3 r3 => dD wI r3 fun s4 r4 => asNil r4 <| asNil σ <| l51r2 (fun z1 => K .ret [(4, I z1)] []) (K (.exit 0) [(4, .undef)] []) s1 s2 s3 s4
theorem l51r2v : LoopV E wF (E.info 51).keep 0 Try.f51.ntmps 52000002 (body Try.f51 2) ([0, 1, 7, 8], lsl51r2) := by
  intro vs σ K h0
  obtain ⟨s1, s2, s3, s4, r4, rfl, h8⟩ := cDDDD h0
  obtain ⟨rfl, rfl, h10⟩ := cM h8
  intro J hJ
  have hp : wH 51 Try.f51 (body Try.f51 2) nL := all_eq (by kernel_rfl) all_nil
  exact h10.of (fun s1 s2 s3 s4 => J [(52000002, .undef), (0, .d (.sl wI) s1), (1, I s2), (7, I s3), (8, I s4)] []) (fun s1 s2 s3 s4 hb => loop_round2 nS (inlOK _) hp hJ (by kernel_rfl) hb)
abbrev L51 : wL := [(52000002, [0, 1, 7, 8], none, lsl51r2)]
def sp51 : Sp := fun args τ K => dD (.sl wI) args fun x1 r1 => dD wI r1 fun x2 r2 => asNil r2 <| asNil τ <| c51 x1 x2 (fun z1 => K (I z1) [])
theorem h51 : ∀ args τ K, sp51 args τ K → ACall E 51 args τ K := by
  intro args τ K h0
  obtain ⟨x1, x2, r2, rfl, h4⟩ := cDD h0
  obtain ⟨rfl, rfl, h6⟩ := cM h4
  exact ACall.spec2 (fn := Try.f51) (c := codeOf Try.f51) (L := lofL L51) nS (by kernel_rfl) (by kernel_rfl) (inlOK _) (all_eq (by kernel_rfl : subsOf (E.info 51).keep (codeOf Try.f51) = [.loop (body Try.f51 2)]) (all_cons (loopOK_of (mk := 52000002) (sl := [0, 1, 7, 8]) (ss := [([0, 1, 7, 8], lsl51r2)]) (by kernel_rfl) (by kernel_rfl) (all_cons l51r2v all_nil)) all_nil)) (by kernel_rfl) h6.of
abbrev S43 : wS := [(51, none, sp51)]
theorem hS43 : SpecOK E (ofL S43) := specOK_cons h51 specOK_nil
def sp43 : Sp := fun args τ K => dD (.sl wI) args fun x1 r1 => dD wI r1 fun x2 r2 => asNil r2 <| asNil τ <| c43 x1 x2 (fun z1 => K (B z1) [])
theorem h43 : ∀ args τ K, sp43 args τ K → ACall E 43 args τ K := by
  intro args τ K h0
  obtain ⟨x1, x2, r2, rfl, h4⟩ := cDD h0
  obtain ⟨rfl, rfl, h6⟩ := cM h4
  exact ACall.spec2 (fn := Try.f43) (c := codeOf Try.f43) (L := lofL nL) hS43 (by kernel_rfl) (by kernel_rfl) (inlOK _) (all_eq (by kernel_rfl) all_nil) (by kernel_rfl) h6.of
abbrev Sl46r8 : wS := [(55, none, sp55), (43, none, sp43)]
theorem hSl46r8 : SpecOK E (ofL Sl46r8) := specOK_cons h55 (specOK_cons h43 specOK_nil)
def lsl46r8 : LSp := fun vs σ K => dP (.ptr 0 0 []) vs fun r1 => dP (.ptr 1 0 []) r1 fun r2 => dD (.sl wI) r2 fun s1 r3 => dD wI r3 fun s2 r4 => dD wI r4 fun s3 r5 => asNil r5 <| dO w1 w1 σ fun s4 r6 => dO w3 w3 r6 fun s5 r8 => asNil r8 <| l46r8 (fun z1 => K .ret [(2, .undef), (3, .undef), (4, I z1)] []) (fun z1 z2 => K (.exit 1) [(2, .ptr 0 0 []), (3, .ptr 1 0 []), (4, .undef)] [.one w1 (.d w1 z1), .one w3 (.d w3 z2)]) s1 s2 s3 s4 s5
theorem l46r8v : LoopV E wF (E.info 46).keep 0 Try.f46.ntmps 47000008 (body Try.f46 8) ([2, 3, 29, 30, 31], lsl46r8) := by
  intro vs σ K h0
  obtain ⟨s1, s2, r4, rfl, h8⟩ := cPPDD h0
  obtain ⟨s3, r5, rfl, h10⟩ := cD h8
  obtain ⟨rfl, h11⟩ := cN h10
  obtain ⟨s4, r6, rfl, h14⟩ := oD h11
  obtain ⟨s5, r8, rfl, h17⟩ := oD h14
  obtain ⟨rfl, h18⟩ := cN h17
  intro J hJ
  have hp : wH 46 Try.f46 (body Try.f46 8) nL := all_eq (by kernel_rfl) all_nil
  exact h18.of (fun s1 s2 s3 s4 s5 => J [(47000008, .undef), (2, .ptr 0 0 []), (3, .ptr 1 0 []), (29, .d (.sl wI) s1), (30, I s2), (31, I s3)] [.one w1 (.d w1 s4), .one w3 (.d w3 s5)]) (fun s1 s2 s3 s4 s5 hb => loop_round2 hSl46r8 (inlOK _) hp hJ (by kernel_rfl) hb)
abbrev Sl46r16 : wS := [(38, none, sp38)]
theorem hSl46r16 : SpecOK E (ofL Sl46r16) := specOK_cons h38 specOK_nil
def lsl46r16 : LSp := fun vs σ K => dP (.ptr 0 0 []) vs fun r1 => dD (.sl w5) r1 fun s1 r2 => dD wI r2 fun s2 r3 => dD wI r3 fun s3 r4 => asNil r4 <| dO w1 w1 σ fun s4 r5 => asNil r5 <| l46r16 (fun z1 => K .ret [(4, I z1)] []) (K (.exit 4) [(4, .undef)] []) s1 s2 s3 s4
theorem l46r16v : LoopV E wF (E.info 46).keep 0 Try.f46.ntmps 47000016 (body Try.f46 16) ([2, 49, 50, 51], lsl46r16) := by
  intro vs σ K h0
  obtain ⟨s1, s2, s3, r4, rfl, h8⟩ := cPDDD h0
  obtain ⟨rfl, h9⟩ := cN h8
  obtain ⟨s4, r5, rfl, h12⟩ := oD h9
  obtain ⟨rfl, h13⟩ := cN h12
  intro J hJ
  have hp : wH 46 Try.f46 (body Try.f46 16) nL := all_eq (by kernel_rfl) all_nil
  exact h13.of (fun s1 s2 s3 s4 => J [(47000016, .undef), (2, .ptr 0 0 []), (49, .d (.sl w5) s1), (50, I s2), (51, I s3)] [.one w1 (.d w1 s4)]) (fun s1 s2 s3 s4 hb => loop_round2 hSl46r16 (inlOK _) hp hJ (by kernel_rfl) hb)
abbrev S46 : wS := [(54, none, sp54), (38, none, sp38)]
theorem hS46 : SpecOK E (ofL S46) := specOK_cons h54 (specOK_cons h38 specOK_nil)
abbrev L46 : wL := [(47000008, [2, 3, 29, 30, 31], none, lsl46r8), (47000016, [2, 49, 50, 51], none, lsl46r16)]
def sp46 : Sp := fun args τ K => dD w1 args fun x1 r1 => dD w3 r1 fun x2 r2 => asNil r2 <| asNil τ <| c46 x1 x2 (fun z1 => K (I z1) [])
theorem h46 : ∀ args τ K, sp46 args τ K → ACall E 46 args τ K := by
  intro args τ K h0
  obtain ⟨x1, x2, r2, rfl, h4⟩ := cDD h0
  obtain ⟨rfl, rfl, h6⟩ := cM h4
  exact ACall.spec2 (fn := Try.f46) (c := codeOf Try.f46) (L := lofL L46) hS46 (by kernel_rfl) (by kernel_rfl) (inlOK _) (all_eq (by kernel_rfl : subsOf (E.info 46).keep (codeOf Try.f46) = [.loop (body Try.f46 8), .loop (body Try.f46 16)]) (all_cons (loopOK_of (mk := 47000008) (sl := [2, 3, 29, 30, 31]) (ss := [([2, 3, 29, 30, 31], lsl46r8)]) (by kernel_rfl) (by kernel_rfl) (all_cons l46r8v all_nil)) (all_cons (loopOK_of (mk := 47000016) (sl := [2, 49, 50, 51]) (ss := [([2, 49, 50, 51], lsl46r16)]) (by kernel_rfl) (by kernel_rfl) (all_cons l46r16v all_nil)) all_nil))) (by kernel_rfl) h6.of
abbrev S39 : wS := [(46, none, sp46)]
theorem hS39 : SpecOK E (ofL S39) := specOK_cons h46 specOK_nil
abbrev L39 : wL := [(40000003, [0, 1, 5, 22, 23, 24], none, lsl39r3), (40000010, [0, 1, 5, 38, 39, 40], none, lsl39r10)]
def sp39 : Sp := fun args τ K => dP (.ptr 0 0 []) args fun r1 => dD wI r1 fun x1 r2 => asNil r2 <| asCons τ fun a3 r3 => asOne (.pair w1 (.pair (.opq .map) .unit)) a3 fun a4 => asAgL a4 fun l5 => dD w1 l5 fun x2 r6 => dP (.mp 1) r6 fun r7 => asNil r7 <| asCons r3 fun a8 r8 => asKv w6 a8 fun x3 => asNil r8 <| c39 x1 x2 x3 (fun z1 z2 z3 => K (I z1) [.one (.pair w1 (.pair (.opq .map) .unit)) (.agg [.d w1 z2, .mp 1]), .kv w6 z3])
theorem h39 : ∀ args τ K, sp39 args τ K → ACall E 39 args τ K := by
  intro args τ K h0
  obtain ⟨x1, r2, rfl, h4⟩ := cPD h0
  obtain ⟨rfl, h5⟩ := cN h4
  obtain ⟨a3, r3, rfl, h6⟩ := asCons_inv h5
  obtain ⟨a4, rfl, h7⟩ := asOne_inv h6
  obtain ⟨l5, rfl, h8⟩ := asAgL_inv h7
  obtain ⟨x2, r7, rfl, h12⟩ := cDP h8
  obtain ⟨rfl, h13⟩ := cN h12
  obtain ⟨a8, r8, rfl, h14⟩ := asCons_inv h13
  obtain ⟨x3, rfl, h15⟩ := asKv_inv h14
  obtain ⟨rfl, h16⟩ := cN h15
  exact ACall.spec2 (fn := Try.f39) (c := codeOf Try.f39) (L := lofL L39) hS39 (by kernel_rfl) (by kernel_rfl) (inlOK _) (all_eq (by kernel_rfl : subsOf (E.info 39).keep (codeOf Try.f39) = [.loop (body Try.f39 3), .loop (body Try.f39 10)]) (all_cons (loopOK_of (mk := 40000003) (sl := [0, 1, 5, 22, 23, 24]) (ss := [([0, 1, 5, 22, 23, 24], lsl39r3)]) (by kernel_rfl) (by kernel_rfl) (all_cons l39r3v all_nil)) (all_cons (loopOK_of (mk := 40000010) (sl := [0, 1, 5, 38, 39, 40]) (ss := [([0, 1, 5, 38, 39, 40], lsl39r10)]) (by kernel_rfl) (by kernel_rfl) (all_cons l39r10v all_nil)) all_nil))) (by kernel_rfl) h16.of
abbrev Sl30r15 : wS := [(39, none, sp39)]
theorem hSl30r15 : SpecOK E (ofL Sl30r15) := specOK_cons h39 specOK_nil
def lsl30r15 : LSp := fun vs σ K => dP (.ptr 0 0 []) vs fun r1 => dD wI r1 fun s1 r2 => dD wI r2 fun s2 r3 => asNil r3 <| asCons σ fun a4 r4 => asOne (.pair w1 (.pair (.opq .map) .unit)) a4 fun a5 => asAgL a5 fun l6 => dD w1 l6 fun s3 r7 => dP (.mp 1) r7 fun r8 => asNil r8 <| asCons r4 fun a9 r9 => asKv w6 a9 fun s4 => asNil r9 <| l30r15 (fun z1 => K .ret [(2, I z1), (6, .undef)] []) (fun z1 z2 => K (.exit 3) [(2, .undef), (6, .ptr 0 0 [])] [.one (.pair w1 (.pair (.opq .map) .unit)) (.agg [.d w1 z1, .mp 1]), .kv w6 z2]) s1 s2 s3 s4
theorem l30r15v : LoopV E wF (E.info 30).keep 0 Try.f30.ntmps 31000015 (body Try.f30 15) ([6, 56, 57], lsl30r15) := by
  intro vs σ K h0
  obtain ⟨s1, s2, r3, rfl, h6⟩ := cPDD h0
  obtain ⟨rfl, h7⟩ := cN h6
  obtain ⟨a4, r4, rfl, h8⟩ := asCons_inv h7
  obtain ⟨a5, rfl, h9⟩ := asOne_inv h8
  obtain ⟨l6, rfl, h10⟩ := asAgL_inv h9
  obtain ⟨s3, r8, rfl, h14⟩ := cDP h10
  obtain ⟨rfl, h15⟩ := cN h14
  obtain ⟨a9, r9, rfl, h16⟩ := asCons_inv h15
  obtain ⟨s4, rfl, h17⟩ := asKv_inv h16
  obtain ⟨rfl, h18⟩ := cN h17
  intro J hJ
  have hp : wH 30 Try.f30 (body Try.f30 15) nL := all_eq (by kernel_rfl) all_nil
  exact h18.of (fun s1 s2 s3 s4 => J [(31000015, .undef), (6, .ptr 0 0 []), (56, I s1), (57, I s2)] [.one (.pair w1 (.pair (.opq .map) .unit)) (.agg [.d w1 s3, .mp 1]), .kv w6 s4]) (fun s1 s2 s3 s4 hb => loop_round2 hSl30r15 (inlOK _) hp hJ (by kernel_rfl) hb)
def sp56 : Sp := fun args τ K => dD (.arr 2 (.int .u64)) args fun x1 r1 => dD wI r1 fun x2 r2 => asNil r2 <| asNil τ <| c56 x1 x2 (fun z1 => K (.d (.arr 2 (.int .u64)) z1) [])
theorem h56 : ∀ args τ K, sp56 args τ K → ACall E 56 args τ K := by
  intro args τ K h0
  obtain ⟨x1, x2, r2, rfl, h4⟩ := cDD h0
  obtain ⟨rfl, rfl, h6⟩ := cM h4
  exact ACall.spec2 (fn := Try.f56) (c := codeOf Try.f56) (L := lofL nL) nS (by kernel_rfl) (by kernel_rfl) (inlOK _) (all_eq (by kernel_rfl) all_nil) (by kernel_rfl) h6.of
abbrev Sl47r3 : wS := [(56, none, sp56)]
theorem hSl47r3 : SpecOK E (ofL Sl47r3) := specOK_cons h56 specOK_nil
def lsl47r3 : LSp := fun vs σ K => dP (.ptr 0 0 []) vs fun r1 => dP (.ptr 1 0 []) r1 fun r2 => dP (.ptr 2 0 []) r2 fun r3 => dD wI r3 fun s1 r4 => dD wI r4 fun s2 r5 => asNil r5 <| dO w1 w1 σ fun s3 r6 => dO (.arr 2 (.int .u64)) (.arr 2 (.int .u64)) r6 fun s4 r8 => dO (.arr 2 (.int .u64)) (.arr 2 (.int .u64)) r8 fun s5 r10 => asNil r10 <| l47r3 (fun z1 z2 z3 => K (.exit 0) [(1, .ptr 0 0 []), (3, .ptr 1 0 []), (4, .ptr 2 0 [])] [.one w1 (.d w1 z1), .one (.arr 2 (.int .u64)) (.d (.arr 2 (.int .u64)) z2), .one (.arr 2 (.int .u64)) (.d (.arr 2 (.int .u64)) z3)]) s1 s2 s3 s4 s5
theorem l47r3v : LoopV E wF (E.info 47).keep 0 Try.f47.ntmps 48000003 (body Try.f47 3) ([1, 3, 4, 17, 18], lsl47r3) := by
  intro vs σ K h0
  obtain ⟨s1, r4, rfl, h8⟩ := cPPPD h0
  obtain ⟨s2, r5, rfl, h10⟩ := cD h8
  obtain ⟨rfl, h11⟩ := cN h10
  obtain ⟨s3, r6, rfl, h14⟩ := oD h11
  obtain ⟨s4, r8, rfl, h17⟩ := oD h14
  obtain ⟨s5, r10, rfl, h20⟩ := oD h17
  obtain ⟨rfl, h21⟩ := cN h20
  intro J hJ
  have hp : wH 47 Try.f47 (body Try.f47 3) nL := all_eq (by kernel_rfl) all_nil
  exact h21.of (fun s1 s2 s3 s4 s5 => J [(48000003, .undef), (1, .ptr 0 0 []), (3, .ptr 1 0 []), (4, .ptr 2 0 []), (17, I s1), (18, I s2)] [.one w1 (.d w1 s3), .one (.arr 2 (.int .u64)) (.d (.arr 2 (.int .u64)) s4), .one (.arr 2 (.int .u64)) (.d (.arr 2 (.int .u64)) s5)]) (fun s1 s2 s3 s4 s5 hb => loop_round2 hSl47r3 (inlOK _) hp hJ (by kernel_rfl) hb)
def lsl47r9 : LSp := fun vs σ K => dP (.ptr 0 0 []) vs fun r1 => dP (.ptr 1 0 []) r1 fun r2 => dP (.ptr 2 0 []) r2 fun r3 => dP (.vec 3) r3 fun r4 => dD wI r4 fun s1 r5 => dD wI r5 fun s2 r6 => asNil r6 <| dO w1 w1 σ fun s3 r7 => dO (.arr 2 (.int .u64)) (.arr 2 (.int .u64)) r7 fun s4 r9 => dO (.arr 2 (.int .u64)) (.arr 2 (.int .u64)) r9 fun s5 r11 => dR (.arr 2 (.int .u64)) false r11 fun s6 r13 => asNil r13 <| l47r9 (fun z1 z2 z3 => K (.exit 2) [(1, .ptr 0 0 []), (3, .ptr 1 0 []), (6, .vec 2)] [.one w1 (.d w1 z1), .one (.arr 2 (.int .u64)) (.d (.arr 2 (.int .u64)) z2), .row (.arr 2 (.int .u64)) z3 false]) s1 s2 s3 s4 s5 s6
theorem l47r9v : LoopV E wF (E.info 47).keep 0 Try.f47.ntmps 48000009 (body Try.f47 9) ([1, 3, 4, 6, 30, 31], lsl47r9) := by
  intro vs σ K h0
  obtain ⟨r4, rfl, h8⟩ := cPPPP h0
  obtain ⟨s1, s2, r6, rfl, h12⟩ := cDD h8
  obtain ⟨rfl, h13⟩ := cN h12
  obtain ⟨s3, r7, rfl, h16⟩ := oD h13
  obtain ⟨s4, r9, rfl, h19⟩ := oD h16
  obtain ⟨s5, r11, rfl, h22⟩ := oD h19
  obtain ⟨s6, r13, rfl, h24⟩ := cR h22
  obtain ⟨rfl, h25⟩ := cN h24
  intro J hJ
  have hp : wH 47 Try.f47 (body Try.f47 9) nL := all_eq (by kernel_rfl) all_nil
  exact h25.of (fun s1 s2 s3 s4 s5 s6 => J [(48000009, .undef), (1, .ptr 0 0 []), (3, .ptr 1 0 []), (4, .ptr 2 0 []), (6, .vec 3), (30, I s1), (31, I s2)] [.one w1 (.d w1 s3), .one (.arr 2 (.int .u64)) (.d (.arr 2 (.int .u64)) s4), .one (.arr 2 (.int .u64)) (.d (.arr 2 (.int .u64)) s5), .row (.arr 2 (.int .u64)) s6 false]) (fun s1 s2 s3 s4 s5 s6 hb => loop_round2 nS (inlOK _) hp hJ (by kernel_rfl) hb)
def sp49 : Sp := fun args τ K => dD (.arr 2 (.int .u64)) args fun x1 r1 => dD wI r1 fun x2 r2 => asNil r2 <| asNil τ <| c49 x1 x2 (fun z1 => K (B z1) [])
theorem h49 : ∀ args τ K, sp49 args τ K → ACall E 49 args τ K := by
  intro args τ K h0
  obtain ⟨x1, x2, r2, rfl, h4⟩ := cDD h0
  obtain ⟨rfl, rfl, h6⟩ := cM h4
  exact ACall.spec2 (fn := Try.f49) (c := codeOf Try.f49) (L := lofL nL) nS (by kernel_rfl) (by kernel_rfl) (inlOK _) (all_eq (by kernel_rfl) all_nil) (by kernel_rfl) h6.of
def sp57 : Sp := fun args τ K => dD (.arr 2 (.int .u64)) args fun x1 r1 => dD (.arr 2 (.int .u64)) r1 fun x2 r2 => asNil r2 <| asNil τ <| c57 x1 x2 (fun z1 => K (.d (.arr 2 (.int .u64)) z1) [])
theorem h57 : ∀ args τ K, sp57 args τ K → ACall E 57 args τ K := by
  intro args τ K h0
  obtain ⟨x1, x2, r2, rfl, h4⟩ := cDD h0
  obtain ⟨rfl, rfl, h6⟩ := cM h4
  exact ACall.spec2 (fn := Try.f57) (c := codeOf Try.f57) (L := lofL nL) nS (by kernel_rfl) (by kernel_rfl) (inlOK _) (all_eq (by kernel_rfl) all_nil) (by kernel_rfl) h6.of
abbrev Sj47r26 : wS := [(56, none, sp56), (49, none, sp49)]
theorem hSj47r26 : SpecOK E (ofL Sj47r26) := specOK_cons h56 (specOK_cons h49 specOK_nil)
def lsj47r26 : LSp := fun vs σ K => dP (.ptr 0 0 []) vs fun r1 => dP (.ptr 1 0 []) r1 fun r2 => dP (.vec 2) r2 fun r3 => dP (.ptr 3 0 []) r3 fun r4 => dD .bool r4 fun s1 r5 => dD wI r5 fun s2 r6 => dP (.ptr 4 0 []) r6 fun r7 => dP (.ptr 5 0 []) r7 fun r8 => dD (.sl w0) r8 fun s3 r9 => dD wI r9 fun s4 r10 => dD wI r10 fun s5 r11 => dD (.sl w5) r11 fun s6 r12 => dD wI r12 fun s7 r13 => dD wI r13 fun s8 r14 => asNil r14 <| dO w1 w1 σ fun s9 r15 => dO (.arr 2 (.int .u64)) (.arr 2 (.int .u64)) r15 fun s10 r17 => dR (.arr 2 (.int .u64)) false r17 fun s11 r19 => dO (.arr 2 (.int .u64)) (.arr 2 (.int .u64)) r19 fun s12 r20 => dO w5 w5 r20 fun s13 r22 => dO (.arr 2 (.int .u64)) (.arr 2 (.int .u64)) r22 fun s14 r24 => asNil r24 <| j47r26 (fun z1 z2 z3 z4 z5 z6 z7 z8 z9 z10 z11 z12 => K .normal [(1, .ptr 0 0 []), (3, .ptr 1 0 []), (6, .vec 2), (8, .ptr 3 0 []), (9, B z1), (10, I z2), (47, .d (.sl w0) z3), (48, I z4), (49, I z5), (60, .d (.sl w5) z6), (61, I z7), (62, I z8)] [.one w1 (.d w1 z9), .one (.arr 2 (.int .u64)) (.d (.arr 2 (.int .u64)) z10), .row (.arr 2 (.int .u64)) z11 false, .one (.arr 2 (.int .u64)) (.d (.arr 2 (.int .u64)) z12)]) s1 s2 s3 s4 s5 s6 s7 s8 s9 s10 s11 s12 s13 s14
theorem j47r26v : JoinV E wF (E.info 47).keep 0 Try.f47.ntmps 48400026 4000026 (jbody Try.f47 4000026) ([1, 3, 6, 8, 9, 10, 13, 14, 47, 48, 49, 60, 61, 62], lsj47r26) := by
  intro vs σ K h0
  obtain ⟨r4, rfl, h8⟩ := cPPPP h0
  obtain ⟨s1, s2, r8, rfl, h16⟩ := cDDPP h8
  obtain ⟨s3, s4, s5, s6, r12, rfl, h24⟩ := cDDDD h16
  obtain ⟨s7, s8, r14, rfl, h28⟩ := cDD h24
  obtain ⟨rfl, h29⟩ := cN h28
  obtain ⟨s9, r15, rfl, h32⟩ := oD h29
  obtain ⟨s10, r17, rfl, h35⟩ := oD h32
  obtain ⟨s11, r19, rfl, h37⟩ := cR h35
  obtain ⟨s12, r20, rfl, h40⟩ := oD h37
  obtain ⟨s13, r22, rfl, h43⟩ := oD h40
  obtain ⟨s14, r24, rfl, h46⟩ := oD h43
  obtain ⟨rfl, h47⟩ := cN h46
  exact join_round2 (L := lofL nL) hSj47r26 (inlOK _) (all_eq (by kernel_rfl) all_nil) (by kernel_rfl) h47.of
abbrev Sl47r23 : wS := [(57, none, sp57), (56, none, sp56)]
theorem hSl47r23 : SpecOK E (ofL Sl47r23) := specOK_cons h57 (specOK_cons h56 specOK_nil)
abbrev Ll47r23 : wL := [(48400026, [1, 3, 6, 8, 9, 10, 13, 14, 47, 48, 49, 60, 61, 62], none, lsj47r26)]
def lsl47r23 : LSp := fun vs σ K => dP (.ptr 0 0 []) vs fun r1 => dP (.ptr 1 0 []) r1 fun r2 => dP (.vec 2) r2 fun r3 => dP (.ptr 3 0 []) r3 fun r4 => dD .bool r4 fun s1 r5 => dD wI r5 fun s2 r6 => dD (.sl w0) r6 fun s3 r7 => dD wI r7 fun s4 r8 => dD wI r8 fun s5 r9 => dD (.sl w5) r9 fun s6 r10 => dD wI r10 fun s7 r11 => dD wI r11 fun s8 r12 => asNil r12 <| dO w1 w1 σ fun s9 r13 => dO (.arr 2 (.int .u64)) (.arr 2 (.int .u64)) r13 fun s10 r15 => dR (.arr 2 (.int .u64)) false r15 fun s11 r17 => dO (.arr 2 (.int .u64)) (.arr 2 (.int .u64)) r17 fun s12 r18 => asNil r18 <| l47r23 (fun z1 z2 z3 z4 z5 z6 z7 z8 => K (.exit 8) [(1, .ptr 0 0 []), (3, .ptr 1 0 []), (6, .vec 2), (8, .ptr 3 0 []), (9, B z1), (47, .d (.sl w0) z2), (48, I z3), (49, I z4)] [.one w1 (.d w1 z5), .one (.arr 2 (.int .u64)) (.d (.arr 2 (.int .u64)) z6), .row (.arr 2 (.int .u64)) z7 false, .one (.arr 2 (.int .u64)) (.d (.arr 2 (.int .u64)) z8)]) s1 s2 s3 s4 s5 s6 s7 s8 s9 s10 s11 s12
theorem l47r23v : LoopV E wF (E.info 47).keep 0 Try.f47.ntmps 48000023 (body Try.f47 23) ([1, 3, 6, 8, 9, 10, 47, 48, 49, 60, 61, 62], lsl47r23) := by
  intro vs σ K h0
  obtain ⟨r4, rfl, h8⟩ := cPPPP h0
  obtain ⟨s1, s2, s3, s4, r8, rfl, h16⟩ := cDDDD h8
  obtain ⟨s5, s6, s7, s8, r12, rfl, h24⟩ := cDDDD h16
  obtain ⟨rfl, h25⟩ := cN h24
  obtain ⟨s9, r13, rfl, h28⟩ := oD h25
  obtain ⟨s10, r15, rfl, h31⟩ := oD h28
  obtain ⟨s11, r17, rfl, h33⟩ := cR h31
  obtain ⟨s12, r18, rfl, h36⟩ := oD h33
  obtain ⟨rfl, h37⟩ := cN h36
  intro J hJ
  have hp : wH 47 Try.f47 (body Try.f47 23) Ll47r23 := all_eq (by kernel_rfl : subsOf (E.info 47).keep (body Try.f47 23) = [.join 4000026 (jbody Try.f47 4000026)]) (all_cons (joinOK_of (mk := 48400026) (sl := [1, 3, 6, 8, 9, 10, 13, 14, 47, 48, 49, 60, 61, 62]) (ss := [([1, 3, 6, 8, 9, 10, 13, 14, 47, 48, 49, 60, 61, 62], lsj47r26)]) (by kernel_rfl) (by kernel_rfl) (all_cons j47r26v all_nil)) all_nil)
  exact h37.of (fun s1 s2 s3 s4 s5 s6 s7 s8 s9 s10 s11 s12 => J [(48000023, .undef), (1, .ptr 0 0 []), (3, .ptr 1 0 []), (6, .vec 2), (8, .ptr 3 0 []), (9, B s1), (10, I s2), (47, .d (.sl w0) s3), (48, I s4), (49, I s5), (60, .d (.sl w5) s6), (61, I s7), (62, I s8)] [.one w1 (.d w1 s9), .one (.arr 2 (.int .u64)) (.d (.arr 2 (.int .u64)) s10), .row (.arr 2 (.int .u64)) s11 false, .one (.arr 2 (.int .u64)) (.d (.arr 2 (.int .u64)) s12)]) (fun s1 s2 s3 s4 s5 s6 s7 s8 s9 s10 s11 s12 hb => loop_round2 hSl47r23 (inlOK _) hp hJ (by kernel_rfl) hb)
abbrev Sl47r19 : wS := [(49, none, sp49)]
theorem hSl47r19 : SpecOK E (ofL Sl47r19) := specOK_cons h49 specOK_nil
abbrev Ll47r19 : wL := [(48000023, [1, 3, 6, 8, 9, 10, 47, 48, 49, 60, 61, 62], none, lsl47r23)]
def lsl47r19 : LSp := fun vs σ K => dP (.ptr 0 0 []) vs fun r1 => dP (.ptr 1 0 []) r1 fun r2 => dP (.vec 2) r2 fun r3 => dP (.ptr 3 0 []) r3 fun r4 => dD .bool r4 fun s1 r5 => dD (.sl w0) r5 fun s2 r6 => dD wI r6 fun s3 r7 => dD wI r7 fun s4 r8 => asNil r8 <| dO w1 w1 σ fun s5 r9 => dO (.arr 2 (.int .u64)) (.arr 2 (.int .u64)) r9 fun s6 r11 => dR (.arr 2 (.int .u64)) false r11 fun s7 r13 => dO (.arr 2 (.int .u64)) (.arr 2 (.int .u64)) r13 fun s8 r14 => asNil r14 <| l47r19 (fun z1 z2 z3 z4 z5 => K (.exit 6) [(1, .ptr 0 0 []), (3, .ptr 1 0 []), (6, .vec 2), (8, .ptr 3 0 []), (9, B z1)] [.one w1 (.d w1 z2), .one (.arr 2 (.int .u64)) (.d (.arr 2 (.int .u64)) z3), .row (.arr 2 (.int .u64)) z4 false, .one (.arr 2 (.int .u64)) (.d (.arr 2 (.int .u64)) z5)]) s1 s2 s3 s4 s5 s6 s7 s8
theorem l47r19v : LoopV E wF (E.info 47).keep 0 Try.f47.ntmps 48000019 (body Try.f47 19) ([1, 3, 6, 8, 9, 47, 48, 49], lsl47r19) := by
  intro vs σ K h0
  obtain ⟨r4, rfl, h8⟩ := cPPPP h0
  obtain ⟨s1, s2, s3, s4, r8, rfl, h16⟩ := cDDDD h8
  obtain ⟨rfl, h17⟩ := cN h16
  obtain ⟨s5, r9, rfl, h20⟩ := oD h17
  obtain ⟨s6, r11, rfl, h23⟩ := oD h20
  obtain ⟨s7, r13, rfl, h25⟩ := cR h23
  obtain ⟨s8, r14, rfl, h28⟩ := oD h25
  obtain ⟨rfl, h29⟩ := cN h28
  intro J hJ
  have hp : wH 47 Try.f47 (body Try.f47 19) Ll47r19 := all_eq (by kernel_rfl : subsOf (E.info 47).keep (body Try.f47 19) = [.loop (body Try.f47 23)]) (all_cons (loopOK_of (mk := 48000023) (sl := [1, 3, 6, 8, 9, 10, 47, 48, 49, 60, 61, 62]) (ss := [([1, 3, 6, 8, 9, 10, 47, 48, 49, 60, 61, 62], lsl47r23)]) (by kernel_rfl) (by kernel_rfl) (all_cons l47r23v all_nil)) all_nil)
  exact h29.of (fun s1 s2 s3 s4 s5 s6 s7 s8 => J [(48000019, .undef), (1, .ptr 0 0 []), (3, .ptr 1 0 []), (6, .vec 2), (8, .ptr 3 0 []), (9, B s1), (47, .d (.sl w0) s2), (48, I s3), (49, I s4)] [.one w1 (.d w1 s5), .one (.arr 2 (.int .u64)) (.d (.arr 2 (.int .u64)) s6), .row (.arr 2 (.int .u64)) s7 false, .one (.arr 2 (.int .u64)) (.d (.arr 2 (.int .u64)) s8)]) (fun s1 s2 s3 s4 s5 s6 s7 s8 hb => loop_round2 hSl47r19 (inlOK _) hp hJ (by kernel_rfl) hb)
abbrev Ll47r16 : wL := [(48000019, [1, 3, 6, 8, 9, 47, 48, 49], none, lsl47r19)]
def lsl47r16 : LSp := fun vs σ K => dP (.ptr 0 0 []) vs fun r1 => dP (.ptr 1 0 []) r1 fun r2 => dP (.vec 2) r2 fun r3 => dP (.ptr 3 0 []) r3 fun r4 => dD .bool r4 fun s1 r5 => asNil r5 <| dO w1 w1 σ fun s2 r6 => dO (.arr 2 (.int .u64)) (.arr 2 (.int .u64)) r6 fun s3 r8 => dR (.arr 2 (.int .u64)) false r8 fun s4 r10 => dO (.arr 2 (.int .u64)) (.arr 2 (.int .u64)) r10 fun s5 r11 => asNil r11 <| l47r16 (fun z1 z2 z3 => K (.exit 4) [(3, .ptr 0 0 []), (6, .vec 1), (8, .ptr 2 0 [])] [.one (.arr 2 (.int .u64)) (.d (.arr 2 (.int .u64)) z1), .row (.arr 2 (.int .u64)) z2 false, .one (.arr 2 (.int .u64)) (.d (.arr 2 (.int .u64)) z3)]) s1 s2 s3 s4 s5
theorem l47r16v : LoopV E wF (E.info 47).keep 0 Try.f47.ntmps 48000016 (body Try.f47 16) ([1, 3, 6, 8, 9], lsl47r16) := by
  intro vs σ K h0
  obtain ⟨r4, rfl, h8⟩ := cPPPP h0
  obtain ⟨s1, r5, rfl, h10⟩ := cD h8
  obtain ⟨rfl, h11⟩ := cN h10
  obtain ⟨s2, r6, rfl, h14⟩ := oD h11
  obtain ⟨s3, r8, rfl, h17⟩ := oD h14
  obtain ⟨s4, r10, rfl, h19⟩ := cR h17
  obtain ⟨s5, r11, rfl, h22⟩ := oD h19
  obtain ⟨rfl, h23⟩ := cN h22
  intro J hJ
  have hp : wH 47 Try.f47 (body Try.f47 16) Ll47r16 := all_eq (by kernel_rfl : subsOf (E.info 47).keep (body Try.f47 16) = [.loop (body Try.f47 19)]) (all_cons (loopOK_of (mk := 48000019) (sl := [1, 3, 6, 8, 9, 47, 48, 49]) (ss := [([1, 3, 6, 8, 9, 47, 48, 49], lsl47r19)]) (by kernel_rfl) (by kernel_rfl) (all_cons l47r19v all_nil)) all_nil)
  exact h23.of (fun s1 s2 s3 s4 s5 => J [(48000016, .undef), (1, .ptr 0 0 []), (3, .ptr 1 0 []), (6, .vec 2), (8, .ptr 3 0 []), (9, B s1)] [.one w1 (.d w1 s2), .one (.arr 2 (.int .u64)) (.d (.arr 2 (.int .u64)) s3), .row (.arr 2 (.int .u64)) s4 false, .one (.arr 2 (.int .u64)) (.d (.arr 2 (.int .u64)) s5)]) (fun s1 s2 s3 s4 s5 hb => loop_round2 nS (inlOK _) hp hJ (by kernel_rfl) hb)
abbrev S47 : wS := [(56, none, sp56)]
theorem hS47 : SpecOK E (ofL S47) := specOK_cons h56 specOK_nil
abbrev L47 : wL := [(48000003, [1, 3, 4, 17, 18], none, lsl47r3), (48000009, [1, 3, 4, 6, 30, 31], none, lsl47r9), (48000016, [1, 3, 6, 8, 9], none, lsl47r16)]
def sp47 : Sp := fun args τ K => dD w1 args fun x1 r1 => asNil r1 <| asNil τ <| c47 x1 (fun z1 z2 => K (.tup [.vec 0, .d (.arr 2 (.int .u64)) z1]) [.row (.arr 2 (.int .u64)) z2 false])
theorem h47 : ∀ args τ K, sp47 args τ K → ACall E 47 args τ K := by
  intro args τ K h0
  obtain ⟨x1, r1, rfl, h2⟩ := cD h0
  obtain ⟨rfl, rfl, h4⟩ := cM h2
  exact ACall.spec2 (fn := Try.f47) (c := codeOf Try.f47) (L := lofL L47) hS47 (by kernel_rfl) (by kernel_rfl) (inlOK _) (all_eq (by kernel_rfl : subsOf (E.info 47).keep (codeOf Try.f47) = [.loop (body Try.f47 3), .loop (body Try.f47 9), .loop (body Try.f47 16)]) (all_cons (loopOK_of (mk := 48000003) (sl := [1, 3, 4, 17, 18]) (ss := [([1, 3, 4, 17, 18], lsl47r3)]) (by kernel_rfl) (by kernel_rfl) (all_cons l47r3v all_nil)) (all_cons (loopOK_of (mk := 48000009) (sl := [1, 3, 4, 6, 30, 31]) (ss := [([1, 3, 4, 6, 30, 31], lsl47r9)]) (by kernel_rfl) (by kernel_rfl) (all_cons l47r9v all_nil)) (all_cons (loopOK_of (mk := 48000016) (sl := [1, 3, 6, 8, 9]) (ss := [([1, 3, 6, 8, 9], lsl47r16)]) (by kernel_rfl) (by kernel_rfl) (all_cons l47r16v all_nil)) all_nil)))) (by kernel_rfl) h4.of
abbrev S48 : wS := [(49, none, sp49)]
theorem hS48 : SpecOK E (ofL S48) := specOK_cons h49 specOK_nil
def sp48 : Sp := fun args τ K => dD wI args fun x1 r1 => dP (.ptr 0 0 []) r1 fun r2 => dP (.ptr 3 0 []) r2 fun r3 => dP (.ptr 4 0 []) r3 fun r4 => dP (.ptr 5 0 []) r4 fun r5 => dP (.ptr 7 0 []) r5 fun r6 => asNil r6 <| dQ (.opq .ptr) (.ptr 1 0 []) τ fun r7 => asCons r7 fun a9 r9 => asOne (.pair w1 (.pair (.opq .map) .unit)) a9 fun a10 => asAgL a10 fun l11 => dD w1 l11 fun x2 r12 => dP (.mp 2) r12 fun r13 => asNil r13 <| asCons r9 fun a14 r14 => asKv w6 a14 fun x3 => dO wI wI r14 fun x4 r15 => dO wI wI r15 fun x5 r17 => dQ (.sl (.arr 2 (.int .u64))) (.vec 6) r17 fun r19 => dR (.arr 2 (.int .u64)) false r19 fun x6 r21 => dO (.arr 2 (.int .u64)) (.arr 2 (.int .u64)) r21 fun x7 r22 => asNil r22 <| c48 x1 x2 x3 x4 x5 x6 x7 (fun z1 z2 z3 z4 z5 z6 z7 => K (B z1) [.one (.opq .ptr) (.ptr 1 0 []), .one (.pair w1 (.pair (.opq .map) .unit)) (.agg [.d w1 z2, .mp 2]), .kv w6 z3, .one wI (I z4), .one wI (I z5), .one (.sl (.arr 2 (.int .u64))) (.vec 6), .row (.arr 2 (.int .u64)) z6 false, .one (.arr 2 (.int .u64)) (.d (.arr 2 (.int .u64)) z7)])
theorem h48 : ∀ args τ K, sp48 args τ K → ACall E 48 args τ K := by
  intro args τ K h0
  obtain ⟨x1, r4, rfl, h8⟩ := cDPPP h0
  obtain ⟨r6, rfl, h12⟩ := cPP h8
  obtain ⟨rfl, h13⟩ := cN h12
  obtain ⟨r7, rfl, h16⟩ := oP h13
  obtain ⟨a9, r9, rfl, h17⟩ := asCons_inv h16
  obtain ⟨a10, rfl, h18⟩ := asOne_inv h17
  obtain ⟨l11, rfl, h19⟩ := asAgL_inv h18
  obtain ⟨x2, r13, rfl, h23⟩ := cDP h19
  obtain ⟨rfl, h24⟩ := cN h23
  obtain ⟨a14, r14, rfl, h25⟩ := asCons_inv h24
  obtain ⟨x3, rfl, h26⟩ := asKv_inv h25
  obtain ⟨x4, r15, rfl, h29⟩ := oD h26
  obtain ⟨x5, r17, rfl, h32⟩ := oD h29
  obtain ⟨r19, rfl, h35⟩ := oP h32
  obtain ⟨x6, r21, rfl, h37⟩ := cR h35
  obtain ⟨x7, r22, rfl, h40⟩ := oD h37
  obtain ⟨rfl, h41⟩ := cN h40
  exact ACall.spec2 (fn := Try.f48) (c := codeOf Try.f48) (L := lofL nL) hS48 (by kernel_rfl) (by kernel_rfl) (inlOK _) (all_eq (by kernel_rfl) all_nil) (by kernel_rfl) h41.of
abbrev Sl40r12 : wS := [(48, none, sp48)]
theorem hSl40r12 : SpecOK E (ofL Sl40r12) := specOK_cons h48 specOK_nil
def lsl40r12 : LSp := fun vs σ K => dP (.ptr 2 0 []) vs fun r1 => dP (.ptr 3 0 []) r1 fun r2 => dP (.ptr 5 0 []) r2 fun r3 => dP (.ptr 6 0 []) r3 fun r4 => dP (.ptr 7 0 []) r4 fun r5 => asCons r5 fun a6 r6 => asFn 48 a6 fun l7 l8 => asNil l7 <| dP (.ptr 2 0 []) l8 fun r9 => dP (.ptr 8 0 []) r9 fun r10 => dP (.ptr 7 0 []) r10 fun r11 => dP (.ptr 3 0 []) r11 fun r12 => dP (.ptr 5 0 []) r12 fun r13 => asNil r13 <| dD (.sl w0) r6 fun s1 r14 => dD wI r14 fun s2 r15 => dD wI r15 fun s3 r16 => dD (.sl (.pair wI (.pair wI w5))) r16 fun s4 r17 => dD wI r17 fun s5 r18 => dD wI r18 fun s6 r19 => dD (.sl wI) r19 fun s7 r20 => dD wI r20 fun s8 r21 => dD wI r21 fun s9 r22 => asNil r22 <| asCons σ fun a23 r23 => asOne (.pair w1 (.pair (.opq .map) .unit)) a23 fun a24 => asAgL a24 fun l25 => dD w1 l25 fun s10 r26 => dP (.mp 1) r26 fun r27 => asNil r27 <| asCons r23 fun a28 r28 => asKv w6 a28 fun s11 => dQ (.opq .ptr) (.ptr 0 0 []) r28 fun r29 => dQ (.sl (.arr 2 (.int .u64))) (.vec 4) r29 fun r31 => dR (.arr 2 (.int .u64)) false r31 fun s12 r33 => dO (.arr 2 (.int .u64)) (.arr 2 (.int .u64)) r33 fun s13 r34 => dO w0 w0 r34 fun s14 r36 => dO wI wI r36 fun s15 r38 => dO wI wI r38 fun s16 r40 => asNil r40 <| l40r12 (fun z1 z2 z3 => K .ret [(1, .undef), (2, I z1), (3, .undef), (4, .undef), (6, .undef), (7, .undef), (8, .undef), (25, .undef), (26, .undef), (27, .undef), (34, .undef), (35, .undef), (36, .undef)] [.one (.pair w1 (.pair (.opq .map) .unit)) (.agg [.d w1 z2, .mp 1]), .kv w6 z3]) (fun z1 z2 z3 z4 z5 z6 z7 z8 z9 z10 z11 z12 z13 => K (.exit 4) [(1, .ptr 2 0 []), (2, .undef), (3, .ptr 3 0 []), (4, .ptr 5 0 []), (6, .ptr 6 0 []), (7, .ptr 7 0 []), (8, .fn 48 [] [.ptr 2 0 [], .ptr 8 0 [], .ptr 7 0 [], .ptr 3 0 [], .ptr 5 0 []]), (25, .d (.sl w0) z1), (26, I z2), (27, I z3), (34, .d (.sl (.pair wI (.pair wI w5))) z4), (35, I z5), (36, I z6)] [.one (.pair w1 (.pair (.opq .map) .unit)) (.agg [.d w1 z7, .mp 1]), .kv w6 z8, .one (.opq .ptr) (.ptr 0 0 []), .one (.sl (.arr 2 (.int .u64))) (.vec 4), .row (.arr 2 (.int .u64)) z9 false, .one (.arr 2 (.int .u64)) (.d (.arr 2 (.int .u64)) z10), .one w0 (.d w0 z11), .one wI (I z12), .one wI (I z13)]) s1 s2 s3 s4 s5 s6 s7 s8 s9 s10 s11 s12 s13 s14 s15 s16
theorem l40r12v : LoopV E wF (E.info 40).keep 2 Try.f40.ntmps 41000012 (body Try.f40 12) ([1, 3, 4, 6, 7, 8, 25, 26, 27, 34, 35, 36, 43, 44, 45], lsl40r12) := by
  intro vs σ K h0
  obtain ⟨r4, rfl, h8⟩ := cPPPP h0
  obtain ⟨r5, rfl, h10⟩ := cP h8
  obtain ⟨a6, r6, rfl, h11⟩ := asCons_inv h10
  obtain ⟨l7, l8, rfl, h12⟩ := asFn_inv h11
  obtain ⟨rfl, h13⟩ := cN h12
  obtain ⟨r12, rfl, h21⟩ := cPPPP h13
  obtain ⟨r13, rfl, h23⟩ := cP h21
  obtain ⟨rfl, h24⟩ := cN h23
  obtain ⟨s1, s2, s3, s4, r17, rfl, h32⟩ := cDDDD h24
  obtain ⟨s5, s6, s7, s8, r21, rfl, h40⟩ := cDDDD h32
  obtain ⟨s9, r22, rfl, h42⟩ := cD h40
  obtain ⟨rfl, h43⟩ := cN h42
  obtain ⟨a23, r23, rfl, h44⟩ := asCons_inv h43
  obtain ⟨a24, rfl, h45⟩ := asOne_inv h44
  obtain ⟨l25, rfl, h46⟩ := asAgL_inv h45
  obtain ⟨s10, r27, rfl, h50⟩ := cDP h46
  obtain ⟨rfl, h51⟩ := cN h50
  obtain ⟨a28, r28, rfl, h52⟩ := asCons_inv h51
  obtain ⟨s11, rfl, h53⟩ := asKv_inv h52
  obtain ⟨r29, rfl, h56⟩ := oP h53
  obtain ⟨r31, rfl, h59⟩ := oP h56
  obtain ⟨s12, r33, rfl, h61⟩ := cR h59
  obtain ⟨s13, r34, rfl, h64⟩ := oD h61
  obtain ⟨s14, r36, rfl, h67⟩ := oD h64
  obtain ⟨s15, r38, rfl, h70⟩ := oD h67
  obtain ⟨s16, r40, rfl, h73⟩ := oD h70
  obtain ⟨rfl, h74⟩ := cN h73
  intro J hJ
  have hp : ∀ c' ∈ subsOf (E.info 40).keep (body Try.f40 12), SubOK E wF (E.info 40).keep 2 Try.f40.ntmps (lofL nL) c' := all_eq (by kernel_rfl) all_nil
  exact h74.of (fun s1 s2 s3 s4 s5 s6 s7 s8 s9 s10 s11 s12 s13 s14 s15 s16 => J [(41000012, .undef), (1, .ptr 2 0 []), (3, .ptr 3 0 []), (4, .ptr 5 0 []), (6, .ptr 6 0 []), (7, .ptr 7 0 []), (8, .fn 48 [] [.ptr 2 0 [], .ptr 8 0 [], .ptr 7 0 [], .ptr 3 0 [], .ptr 5 0 []]), (25, .d (.sl w0) s1), (26, I s2), (27, I s3), (34, .d (.sl (.pair wI (.pair wI w5))) s4), (35, I s5), (36, I s6), (43, .d (.sl wI) s7), (44, I s8), (45, I s9)] [.one (.pair w1 (.pair (.opq .map) .unit)) (.agg [.d w1 s10, .mp 1]), .kv w6 s11, .one (.opq .ptr) (.ptr 0 0 []), .one (.sl (.arr 2 (.int .u64))) (.vec 4), .row (.arr 2 (.int .u64)) s12 false, .one (.arr 2 (.int .u64)) (.d (.arr 2 (.int .u64)) s13), .one w0 (.d w0 s14), .one wI (I s15), .one wI (I s16)]) (fun s1 s2 s3 s4 s5 s6 s7 s8 s9 s10 s11 s12 s13 s14 s15 s16 hb => loop_round2 hSl40r12 (inlOK _) hp hJ (by kernel_rfl) hb)
abbrev Ll40r8 : wL := [(41000012, [1, 3, 4, 6, 7, 8, 25, 26, 27, 34, 35, 36, 43, 44, 45], none, lsl40r12)]
def lsl40r8 : LSp := fun vs σ K => dP (.ptr 2 0 []) vs fun r1 => dP (.ptr 3 0 []) r1 fun r2 => dP (.ptr 5 0 []) r2 fun r3 => dP (.ptr 6 0 []) r3 fun r4 => dP (.ptr 7 0 []) r4 fun r5 => asCons r5 fun a6 r6 => asFn 48 a6 fun l7 l8 => asNil l7 <| dP (.ptr 2 0 []) l8 fun r9 => dP (.ptr 8 0 []) r9 fun r10 => dP (.ptr 7 0 []) r10 fun r11 => dP (.ptr 3 0 []) r11 fun r12 => dP (.ptr 5 0 []) r12 fun r13 => asNil r13 <| dD (.sl w0) r6 fun s1 r14 => dD wI r14 fun s2 r15 => dD wI r15 fun s3 r16 => dD (.sl (.pair wI (.pair wI w5))) r16 fun s4 r17 => dD wI r17 fun s5 r18 => dD wI r18 fun s6 r19 => asNil r19 <| asCons σ fun a20 r20 => asOne (.pair w1 (.pair (.opq .map) .unit)) a20 fun a21 => asAgL a21 fun l22 => dD w1 l22 fun s7 r23 => dP (.mp 1) r23 fun r24 => asNil r24 <| asCons r20 fun a25 r25 => asKv w6 a25 fun s8 => dQ (.opq .ptr) (.ptr 0 0 []) r25 fun r26 => dQ (.sl (.arr 2 (.int .u64))) (.vec 4) r26 fun r28 => dR (.arr 2 (.int .u64)) false r28 fun s9 r30 => dO (.arr 2 (.int .u64)) (.arr 2 (.int .u64)) r30 fun s10 r31 => dO w0 w0 r31 fun s11 r33 => dO wI wI r33 fun s12 r35 => dO wI wI r35 fun s13 r37 => asNil r37 <| l40r8 (fun z1 z2 z3 => K .ret [(1, .undef), (2, I z1), (3, .undef), (4, .undef), (6, .undef), (7, .undef), (8, .undef), (25, .undef), (26, .undef), (27, .undef)] [.one (.pair w1 (.pair (.opq .map) .unit)) (.agg [.d w1 z2, .mp 1]), .kv w6 z3]) (fun z1 z2 z3 z4 z5 z6 z7 z8 z9 z10 => K (.exit 2) [(1, .ptr 2 0 []), (2, .undef), (3, .ptr 3 0 []), (4, .ptr 5 0 []), (6, .ptr 6 0 []), (7, .ptr 7 0 []), (8, .fn 48 [] [.ptr 2 0 [], .ptr 8 0 [], .ptr 7 0 [], .ptr 3 0 [], .ptr 5 0 []]), (25, .d (.sl w0) z1), (26, I z2), (27, I z3)] [.one (.pair w1 (.pair (.opq .map) .unit)) (.agg [.d w1 z4, .mp 1]), .kv w6 z5, .one (.opq .ptr) (.ptr 0 0 []), .one (.sl (.arr 2 (.int .u64))) (.vec 4), .row (.arr 2 (.int .u64)) z6 false, .one (.arr 2 (.int .u64)) (.d (.arr 2 (.int .u64)) z7), .one w0 (.d w0 z8), .one wI (I z9), .one wI (I z10)]) s1 s2 s3 s4 s5 s6 s7 s8 s9 s10 s11 s12 s13
theorem l40r8v : LoopV E wF (E.info 40).keep 2 Try.f40.ntmps 41000008 (body Try.f40 8) ([1, 3, 4, 6, 7, 8, 25, 26, 27, 34, 35, 36], lsl40r8) := by
  intro vs σ K h0
  obtain ⟨r4, rfl, h8⟩ := cPPPP h0
  obtain ⟨r5, rfl, h10⟩ := cP h8
  obtain ⟨a6, r6, rfl, h11⟩ := asCons_inv h10
  obtain ⟨l7, l8, rfl, h12⟩ := asFn_inv h11
  obtain ⟨rfl, h13⟩ := cN h12
  obtain ⟨r12, rfl, h21⟩ := cPPPP h13
  obtain ⟨r13, rfl, h23⟩ := cP h21
  obtain ⟨rfl, h24⟩ := cN h23
  obtain ⟨s1, s2, s3, s4, r17, rfl, h32⟩ := cDDDD h24
  obtain ⟨s5, s6, r19, rfl, h36⟩ := cDD h32
  obtain ⟨rfl, h37⟩ := cN h36
  obtain ⟨a20, r20, rfl, h38⟩ := asCons_inv h37
  obtain ⟨a21, rfl, h39⟩ := asOne_inv h38
  obtain ⟨l22, rfl, h40⟩ := asAgL_inv h39
  obtain ⟨s7, r24, rfl, h44⟩ := cDP h40
  obtain ⟨rfl, h45⟩ := cN h44
  obtain ⟨a25, r25, rfl, h46⟩ := asCons_inv h45
  obtain ⟨s8, rfl, h47⟩ := asKv_inv h46
  obtain ⟨r26, rfl, h50⟩ := oP h47
  obtain ⟨r28, rfl, h53⟩ := oP h50
  obtain ⟨s9, r30, rfl, h55⟩ := cR h53
  obtain ⟨s10, r31, rfl, h58⟩ := oD h55
  obtain ⟨s11, r33, rfl, h61⟩ := oD h58
  obtain ⟨s12, r35, rfl, h64⟩ := oD h61
  obtain ⟨s13, r37, rfl, h67⟩ := oD h64
  obtain ⟨rfl, h68⟩ := cN h67
  intro J hJ
  have hp : ∀ c' ∈ subsOf (E.info 40).keep (body Try.f40 8), SubOK E wF (E.info 40).keep 2 Try.f40.ntmps (lofL Ll40r8) c' := all_eq (by kernel_rfl : subsOf (E.info 40).keep (body Try.f40 8) = [.loop (body Try.f40 12)]) (all_cons (loopOK_of (mk := 41000012) (sl := [1, 3, 4, 6, 7, 8, 25, 26, 27, 34, 35, 36, 43, 44, 45]) (ss := [([1, 3, 4, 6, 7, 8, 25, 26, 27, 34, 35, 36, 43, 44, 45], lsl40r12)]) (by kernel_rfl) (by kernel_rfl) (all_cons l40r12v all_nil)) all_nil)
  exact h68.of (fun s1 s2 s3 s4 s5 s6 s7 s8 s9 s10 s11 s12 s13 => J [(41000008, .undef), (1, .ptr 2 0 []), (3, .ptr 3 0 []), (4, .ptr 5 0 []), (6, .ptr 6 0 []), (7, .ptr 7 0 []), (8, .fn 48 [] [.ptr 2 0 [], .ptr 8 0 [], .ptr 7 0 [], .ptr 3 0 [], .ptr 5 0 []]), (25, .d (.sl w0) s1), (26, I s2), (27, I s3), (34, .d (.sl (.pair wI (.pair wI w5))) s4), (35, I s5), (36, I s6)] [.one (.pair w1 (.pair (.opq .map) .unit)) (.agg [.d w1 s7, .mp 1]), .kv w6 s8, .one (.opq .ptr) (.ptr 0 0 []), .one (.sl (.arr 2 (.int .u64))) (.vec 4), .row (.arr 2 (.int .u64)) s9 false, .one (.arr 2 (.int .u64)) (.d (.arr 2 (.int .u64)) s10), .one w0 (.d w0 s11), .one wI (I s12), .one wI (I s13)]) (fun s1 s2 s3 s4 s5 s6 s7 s8 s9 s10 s11 s12 s13 hb => loop_round2 nS (inlOK _) hp hJ (by kernel_rfl) hb)
abbrev Sl50r7 : wS := [(48, none, sp48)]
theorem hSl50r7 : SpecOK E (ofL Sl50r7) := specOK_cons h48 specOK_nil
def lsl50r7 : LSp := fun vs σ K => asCons vs fun a1 r1 => asFn 48 a1 fun l2 l3 => asNil l2 <| dP (.ptr 0 0 []) l3 fun r4 => dP (.ptr 3 0 []) r4 fun r5 => dP (.ptr 4 0 []) r5 fun r6 => dP (.ptr 5 0 []) r6 fun r7 => dP (.ptr 7 0 []) r7 fun r8 => asNil r8 <| dD (.sl w5) r1 fun s1 r9 => dD wI r9 fun s2 r10 => dD wI r10 fun s3 r11 => dD (.sl wI) r11 fun s4 r12 => dD wI r12 fun s5 r13 => dD wI r13 fun s6 r14 => asNil r14 <| dQ (.opq .ptr) (.ptr 1 0 []) σ fun r15 => asCons r15 fun a17 r17 => asOne (.pair w1 (.pair (.opq .map) .unit)) a17 fun a18 => asAgL a18 fun l19 => dD w1 l19 fun s7 r20 => dP (.mp 2) r20 fun r21 => asNil r21 <| asCons r17 fun a22 r22 => asKv w6 a22 fun s8 => dO wI wI r22 fun s9 r23 => dO wI wI r23 fun s10 r25 => dQ (.sl (.arr 2 (.int .u64))) (.vec 6) r25 fun r27 => dR (.arr 2 (.int .u64)) false r27 fun s11 r29 => dO (.arr 2 (.int .u64)) (.arr 2 (.int .u64)) r29 fun s12 r30 => asNil r30 <| l50r7 (fun z1 z2 z3 z4 z5 z6 z7 => K .ret [(1, .undef), (4, B z1), (25, .undef), (26, .undef), (27, .undef)] [.one (.opq .ptr) (.ptr 1 0 []), .one (.pair w1 (.pair (.opq .map) .unit)) (.agg [.d w1 z2, .mp 2]), .kv w6 z3, .one wI (I z4), .one wI (I z5), .one (.sl (.arr 2 (.int .u64))) (.vec 6), .row (.arr 2 (.int .u64)) z6 false, .one (.arr 2 (.int .u64)) (.d (.arr 2 (.int .u64)) z7)]) (fun z1 z2 z3 z4 z5 z6 z7 z8 z9 => K (.exit 2) [(1, .fn 48 [] [.ptr 0 0 [], .ptr 3 0 [], .ptr 4 0 [], .ptr 5 0 [], .ptr 7 0 []]), (4, .undef), (25, .d (.sl w5) z1), (26, I z2), (27, I z3)] [.one (.opq .ptr) (.ptr 1 0 []), .one (.pair w1 (.pair (.opq .map) .unit)) (.agg [.d w1 z4, .mp 2]), .kv w6 z5, .one wI (I z6), .one wI (I z7), .one (.sl (.arr 2 (.int .u64))) (.vec 6), .row (.arr 2 (.int .u64)) z8 false, .one (.arr 2 (.int .u64)) (.d (.arr 2 (.int .u64)) z9)]) s1 s2 s3 s4 s5 s6 s7 s8 s9 s10 s11 s12
theorem l50r7v : LoopV E wF (E.info 50).keep 8 Try.f50.ntmps 51000007 (body Try.f50 7) ([1, 25, 26, 27, 32, 33, 34], lsl50r7) := by
  intro vs σ K h0
  obtain ⟨a1, r1, rfl, h1⟩ := asCons_inv h0
  obtain ⟨l2, l3, rfl, h2⟩ := asFn_inv h1
  obtain ⟨rfl, h3⟩ := cN h2
  obtain ⟨r7, rfl, h11⟩ := cPPPP h3
  obtain ⟨r8, rfl, h13⟩ := cP h11
  obtain ⟨rfl, h14⟩ := cN h13
  obtain ⟨s1, s2, s3, s4, r12, rfl, h22⟩ := cDDDD h14
  obtain ⟨s5, s6, r14, rfl, h26⟩ := cDD h22
  obtain ⟨rfl, h27⟩ := cN h26
  obtain ⟨r15, rfl, h30⟩ := oP h27
  obtain ⟨a17, r17, rfl, h31⟩ := asCons_inv h30
  obtain ⟨a18, rfl, h32⟩ := asOne_inv h31
  obtain ⟨l19, rfl, h33⟩ := asAgL_inv h32
  obtain ⟨s7, r21, rfl, h37⟩ := cDP h33
  obtain ⟨rfl, h38⟩ := cN h37
  obtain ⟨a22, r22, rfl, h39⟩ := asCons_inv h38
  obtain ⟨s8, rfl, h40⟩ := asKv_inv h39
  obtain ⟨s9, r23, rfl, h43⟩ := oD h40
  obtain ⟨s10, r25, rfl, h46⟩ := oD h43
  obtain ⟨r27, rfl, h49⟩ := oP h46
  obtain ⟨s11, r29, rfl, h51⟩ := cR h49
  obtain ⟨s12, r30, rfl, h54⟩ := oD h51
  obtain ⟨rfl, h55⟩ := cN h54
  intro J hJ
  have hp : ∀ c' ∈ subsOf (E.info 50).keep (body Try.f50 7), SubOK E wF (E.info 50).keep 8 Try.f50.ntmps (lofL nL) c' := all_eq (by kernel_rfl) all_nil
  exact h55.of (fun s1 s2 s3 s4 s5 s6 s7 s8 s9 s10 s11 s12 => J [(51000007, .undef), (1, .fn 48 [] [.ptr 0 0 [], .ptr 3 0 [], .ptr 4 0 [], .ptr 5 0 [], .ptr 7 0 []]), (25, .d (.sl w5) s1), (26, I s2), (27, I s3), (32, .d (.sl wI) s4), (33, I s5), (34, I s6)] [.one (.opq .ptr) (.ptr 1 0 []), .one (.pair w1 (.pair (.opq .map) .unit)) (.agg [.d w1 s7, .mp 2]), .kv w6 s8, .one wI (I s9), .one wI (I s10), .one (.sl (.arr 2 (.int .u64))) (.vec 6), .row (.arr 2 (.int .u64)) s11 false, .one (.arr 2 (.int .u64)) (.d (.arr 2 (.int .u64)) s12)]) (fun s1 s2 s3 s4 s5 s6 s7 s8 s9 s10 s11 s12 hb => loop_round2 hSl50r7 (inlOK _) hp hJ (by kernel_rfl) hb)
abbrev Ll50r4 : wL := [(51000007, [1, 25, 26, 27, 32, 33, 34], none, lsl50r7)]
def lsl50r4 : LSp := fun vs σ K => asCons vs fun a1 r1 => asFn 48 a1 fun l2 l3 => asNil l2 <| dP (.ptr 0 0 []) l3 fun r4 => dP (.ptr 3 0 []) r4 fun r5 => dP (.ptr 4 0 []) r5 fun r6 => dP (.ptr 5 0 []) r6 fun r7 => dP (.ptr 7 0 []) r7 fun r8 => asNil r8 <| dD (.sl w5) r1 fun s1 r9 => dD wI r9 fun s2 r10 => dD wI r10 fun s3 r11 => asNil r11 <| dQ (.opq .ptr) (.ptr 1 0 []) σ fun r12 => asCons r12 fun a14 r14 => asOne (.pair w1 (.pair (.opq .map) .unit)) a14 fun a15 => asAgL a15 fun l16 => dD w1 l16 fun s4 r17 => dP (.mp 2) r17 fun r18 => asNil r18 <| asCons r14 fun a19 r19 => asKv w6 a19 fun s5 => dO wI wI r19 fun s6 r20 => dO wI wI r20 fun s7 r22 => dQ (.sl (.arr 2 (.int .u64))) (.vec 6) r22 fun r24 => dR (.arr 2 (.int .u64)) false r24 fun s8 r26 => dO (.arr 2 (.int .u64)) (.arr 2 (.int .u64)) r26 fun s9 r27 => asNil r27 <| l50r4 (fun z1 z2 z3 z4 z5 z6 z7 => K .ret [(4, B z1)] [.one (.opq .ptr) (.ptr 1 0 []), .one (.pair w1 (.pair (.opq .map) .unit)) (.agg [.d w1 z2, .mp 2]), .kv w6 z3, .one wI (I z4), .one wI (I z5), .one (.sl (.arr 2 (.int .u64))) (.vec 6), .row (.arr 2 (.int .u64)) z6 false, .one (.arr 2 (.int .u64)) (.d (.arr 2 (.int .u64)) z7)]) (fun z1 z2 z3 z4 z5 z6 => K (.exit 0) [(4, .undef)] [.one (.opq .ptr) (.ptr 1 0 []), .one (.pair w1 (.pair (.opq .map) .unit)) (.agg [.d w1 z1, .mp 2]), .kv w6 z2, .one wI (I z3), .one wI (I z4), .one (.sl (.arr 2 (.int .u64))) (.vec 6), .row (.arr 2 (.int .u64)) z5 false, .one (.arr 2 (.int .u64)) (.d (.arr 2 (.int .u64)) z6)]) s1 s2 s3 s4 s5 s6 s7 s8 s9
theorem l50r4v : LoopV E wF (E.info 50).keep 8 Try.f50.ntmps 51000004 (body Try.f50 4) ([1, 25, 26, 27], lsl50r4) := by
  intro vs σ K h0
  obtain ⟨a1, r1, rfl, h1⟩ := asCons_inv h0
  obtain ⟨l2, l3, rfl, h2⟩ := asFn_inv h1
  obtain ⟨rfl, h3⟩ := cN h2
  obtain ⟨r7, rfl, h11⟩ := cPPPP h3
  obtain ⟨r8, rfl, h13⟩ := cP h11
  obtain ⟨rfl, h14⟩ := cN h13
  obtain ⟨s1, s2, s3, r11, rfl, h20⟩ := cDDD h14
  obtain ⟨rfl, h21⟩ := cN h20
  obtain ⟨r12, rfl, h24⟩ := oP h21
  obtain ⟨a14, r14, rfl, h25⟩ := asCons_inv h24
  obtain ⟨a15, rfl, h26⟩ := asOne_inv h25
  obtain ⟨l16, rfl, h27⟩ := asAgL_inv h26
  obtain ⟨s4, r18, rfl, h31⟩ := cDP h27
  obtain ⟨rfl, h32⟩ := cN h31
  obtain ⟨a19, r19, rfl, h33⟩ := asCons_inv h32
  obtain ⟨s5, rfl, h34⟩ := asKv_inv h33
  obtain ⟨s6, r20, rfl, h37⟩ := oD h34
  obtain ⟨s7, r22, rfl, h40⟩ := oD h37
  obtain ⟨r24, rfl, h43⟩ := oP h40
  obtain ⟨s8, r26, rfl, h45⟩ := cR h43
  obtain ⟨s9, r27, rfl, h48⟩ := oD h45
  obtain ⟨rfl, h49⟩ := cN h48
  intro J hJ
  have hp : ∀ c' ∈ subsOf (E.info 50).keep (body Try.f50 4), SubOK E wF (E.info 50).keep 8 Try.f50.ntmps (lofL Ll50r4) c' := all_eq (by kernel_rfl : subsOf (E.info 50).keep (body Try.f50 4) = [.loop (body Try.f50 7)]) (all_cons (loopOK_of (mk := 51000007) (sl := [1, 25, 26, 27, 32, 33, 34]) (ss := [([1, 25, 26, 27, 32, 33, 34], lsl50r7)]) (by kernel_rfl) (by kernel_rfl) (all_cons l50r7v all_nil)) all_nil)
  exact h49.of (fun s1 s2 s3 s4 s5 s6 s7 s8 s9 => J [(51000004, .undef), (1, .fn 48 [] [.ptr 0 0 [], .ptr 3 0 [], .ptr 4 0 [], .ptr 5 0 [], .ptr 7 0 []]), (25, .d (.sl w5) s1), (26, I s2), (27, I s3)] [.one (.opq .ptr) (.ptr 1 0 []), .one (.pair w1 (.pair (.opq .map) .unit)) (.agg [.d w1 s4, .mp 2]), .kv w6 s5, .one wI (I s6), .one wI (I s7), .one (.sl (.arr 2 (.int .u64))) (.vec 6), .row (.arr 2 (.int .u64)) s8 false, .one (.arr 2 (.int .u64)) (.d (.arr 2 (.int .u64)) s9)]) (fun s1 s2 s3 s4 s5 s6 s7 s8 s9 hb => loop_round2 nS (inlOK _) hp hJ (by kernel_rfl) hb)
abbrev S50 : wS := [(48, none, sp48)]
theorem hS50 : SpecOK E (ofL S50) := specOK_cons h48 specOK_nil
abbrev L50 : wL := [(51000004, [1, 25, 26, 27], none, lsl50r4)]
def sp50 : Sp := fun args τ K => dD w3 args fun x1 r1 => asCons r1 fun a2 r2 => asFn 48 a2 fun l3 l4 => asNil l3 <| dP (.ptr 0 0 []) l4 fun r5 => dP (.ptr 3 0 []) r5 fun r6 => dP (.ptr 4 0 []) r6 fun r7 => dP (.ptr 5 0 []) r7 fun r8 => dP (.ptr 7 0 []) r8 fun r9 => asNil r9 <| asNil r2 <| dQ (.opq .ptr) (.ptr 1 0 []) τ fun r10 => asCons r10 fun a12 r12 => asOne (.pair w1 (.pair (.opq .map) .unit)) a12 fun a13 => asAgL a13 fun l14 => dD w1 l14 fun x2 r15 => dP (.mp 2) r15 fun r16 => asNil r16 <| asCons r12 fun a17 r17 => asKv w6 a17 fun x3 => dO wI wI r17 fun x4 r18 => dO wI wI r18 fun x5 r20 => dQ (.sl (.arr 2 (.int .u64))) (.vec 6) r20 fun r22 => dR (.arr 2 (.int .u64)) false r22 fun x6 r24 => dO (.arr 2 (.int .u64)) (.arr 2 (.int .u64)) r24 fun x7 r25 => asNil r25 <| c50 x1 x2 x3 x4 x5 x6 x7 (fun z1 z2 z3 z4 z5 z6 z7 => K (B z1) [.one (.opq .ptr) (.ptr 1 0 []), .one (.pair w1 (.pair (.opq .map) .unit)) (.agg [.d w1 z2, .mp 2]), .kv w6 z3, .one wI (I z4), .one wI (I z5), .one (.sl (.arr 2 (.int .u64))) (.vec 6), .row (.arr 2 (.int .u64)) z6 false, .one (.arr 2 (.int .u64)) (.d (.arr 2 (.int .u64)) z7)])
theorem h50 : ∀ args τ K, sp50 args τ K → ACall E 50 args τ K := by
  intro args τ K h0
  obtain ⟨x1, r1, rfl, h2⟩ := cD h0
  obtain ⟨a2, r2, rfl, h3⟩ := asCons_inv h2
  obtain ⟨l3, l4, rfl, h4⟩ := asFn_inv h3
  obtain ⟨rfl, h5⟩ := cN h4
  obtain ⟨r8, rfl, h13⟩ := cPPPP h5
  obtain ⟨r9, rfl, h15⟩ := cP h13
  obtain ⟨rfl, rfl, h17⟩ := cM h15
  obtain ⟨r10, rfl, h20⟩ := oP h17
  obtain ⟨a12, r12, rfl, h21⟩ := asCons_inv h20
  obtain ⟨a13, rfl, h22⟩ := asOne_inv h21
  obtain ⟨l14, rfl, h23⟩ := asAgL_inv h22
  obtain ⟨x2, r16, rfl, h27⟩ := cDP h23
  obtain ⟨rfl, h28⟩ := cN h27
  obtain ⟨a17, r17, rfl, h29⟩ := asCons_inv h28
  obtain ⟨x3, rfl, h30⟩ := asKv_inv h29
  obtain ⟨x4, r18, rfl, h33⟩ := oD h30
  obtain ⟨x5, r20, rfl, h36⟩ := oD h33
  obtain ⟨r22, rfl, h39⟩ := oP h36
  obtain ⟨x6, r24, rfl, h41⟩ := cR h39
  obtain ⟨x7, r25, rfl, h44⟩ := oD h41
  obtain ⟨rfl, h45⟩ := cN h44
  exact ACall.spec2 (fn := Try.f50) (c := codeOf Try.f50) (L := lofL L50) hS50 (by kernel_rfl) (by kernel_rfl) (inlOK _) (all_eq (by kernel_rfl : subsOf (E.info 50).keep (codeOf Try.f50) = [.loop (body Try.f50 4)]) (all_cons (loopOK_of (mk := 51000004) (sl := [1, 25, 26, 27]) (ss := [([1, 25, 26, 27], lsl50r4)]) (by kernel_rfl) (by kernel_rfl) (all_cons l50r4v all_nil)) all_nil)) (by kernel_rfl) h45.of
abbrev Sl40r3 : wS := [(50, none, sp50)]
theorem hSl40r3 : SpecOK E (ofL Sl40r3) := specOK_cons h50 specOK_nil
abbrev Ll40r3 : wL := [(41000008, [1, 3, 4, 6, 7, 8, 25, 26, 27, 34, 35, 36], none, lsl40r8)]
def lsl40r3 : LSp := fun vs σ K => dP (.ptr 2 0 []) vs fun r1 => dP (.ptr 3 0 []) r1 fun r2 => dP (.ptr 5 0 []) r2 fun r3 => dD (.sl w0) r3 fun s1 r4 => dD wI r4 fun s2 r5 => dD wI r5 fun s3 r6 => asNil r6 <| asCons σ fun a7 r7 => asOne (.pair w1 (.pair (.opq .map) .unit)) a7 fun a8 => asAgL a8 fun l9 => dD w1 l9 fun s4 r10 => dP (.mp 1) r10 fun r11 => asNil r11 <| asCons r7 fun a12 r12 => asKv w6 a12 fun s5 => dQ (.opq .ptr) (.ptr 0 0 []) r12 fun r13 => dQ (.sl (.arr 2 (.int .u64))) (.vec 4) r13 fun r15 => dR (.arr 2 (.int .u64)) false r15 fun s6 r17 => dO (.arr 2 (.int .u64)) (.arr 2 (.int .u64)) r17 fun s7 r18 => asNil r18 <| l40r3 (fun z1 z2 z3 => K .ret [(2, I z1)] [.one (.pair w1 (.pair (.opq .map) .unit)) (.agg [.d w1 z2, .mp 1]), .kv w6 z3]) (fun z1 z2 => K (.exit 0) [(2, .undef)] [.one (.pair w1 (.pair (.opq .map) .unit)) (.agg [.d w1 z1, .mp 1]), .kv w6 z2]) s1 s2 s3 s4 s5 s6 s7
theorem l40r3v : LoopV E wF (E.info 40).keep 2 Try.f40.ntmps 41000003 (body Try.f40 3) ([1, 3, 4, 25, 26, 27], lsl40r3) := by
  intro vs σ K h0
  obtain ⟨s1, r4, rfl, h8⟩ := cPPPD h0
  obtain ⟨s2, s3, r6, rfl, h12⟩ := cDD h8
  obtain ⟨rfl, h13⟩ := cN h12
  obtain ⟨a7, r7, rfl, h14⟩ := asCons_inv h13
  obtain ⟨a8, rfl, h15⟩ := asOne_inv h14
  obtain ⟨l9, rfl, h16⟩ := asAgL_inv h15
  obtain ⟨s4, r11, rfl, h20⟩ := cDP h16
  obtain ⟨rfl, h21⟩ := cN h20
  obtain ⟨a12, r12, rfl, h22⟩ := asCons_inv h21
  obtain ⟨s5, rfl, h23⟩ := asKv_inv h22
  obtain ⟨r13, rfl, h26⟩ := oP h23
  obtain ⟨r15, rfl, h29⟩ := oP h26
  obtain ⟨s6, r17, rfl, h31⟩ := cR h29
  obtain ⟨s7, r18, rfl, h34⟩ := oD h31
  obtain ⟨rfl, h35⟩ := cN h34
  intro J hJ
  have hp : ∀ c' ∈ subsOf (E.info 40).keep (body Try.f40 3), SubOK E wF (E.info 40).keep 2 Try.f40.ntmps (lofL Ll40r3) c' := all_eq (by kernel_rfl : subsOf (E.info 40).keep (body Try.f40 3) = [.loop (body Try.f40 8)]) (all_cons (loopOK_of (mk := 41000008) (sl := [1, 3, 4, 6, 7, 8, 25, 26, 27, 34, 35, 36]) (ss := [([1, 3, 4, 6, 7, 8, 25, 26, 27, 34, 35, 36], lsl40r8)]) (by kernel_rfl) (by kernel_rfl) (all_cons l40r8v all_nil)) all_nil)
  exact h35.of (fun s1 s2 s3 s4 s5 s6 s7 => J [(41000003, .undef), (1, .ptr 2 0 []), (3, .ptr 3 0 []), (4, .ptr 5 0 []), (25, .d (.sl w0) s1), (26, I s2), (27, I s3)] [.one (.pair w1 (.pair (.opq .map) .unit)) (.agg [.d w1 s4, .mp 1]), .kv w6 s5, .one (.opq .ptr) (.ptr 0 0 []), .one (.sl (.arr 2 (.int .u64))) (.vec 4), .row (.arr 2 (.int .u64)) s6 false, .one (.arr 2 (.int .u64)) (.d (.arr 2 (.int .u64)) s7)]) (fun s1 s2 s3 s4 s5 s6 s7 hb => loop_round2 hSl40r3 (inlOK _) hp hJ (by kernel_rfl) hb)
abbrev S40 : wS := [(47, none, sp47)]
theorem hS40 : SpecOK E (ofL S40) := specOK_cons h47 specOK_nil
abbrev L40 : wL := [(41000003, [1, 3, 4, 25, 26, 27], none, lsl40r3)]
def sp40 : Sp := fun args τ K => dP (.ptr 0 0 []) args fun r1 => asNil r1 <| asCons τ fun a2 r2 => asOne (.pair w1 (.pair (.opq .map) .unit)) a2 fun a3 => asAgL a3 fun l4 => dD w1 l4 fun x1 r5 => dP (.mp 1) r5 fun r6 => asNil r6 <| asCons r2 fun a7 r7 => asKv w6 a7 fun x2 => asNil r7 <| c40 x1 x2 (fun z1 z2 z3 => K (I z1) [.one (.pair w1 (.pair (.opq .map) .unit)) (.agg [.d w1 z2, .mp 1]), .kv w6 z3])
theorem h40 : ∀ args τ K, sp40 args τ K → ACall E 40 args τ K := by
  intro args τ K h0
  obtain ⟨r1, rfl, h2⟩ := cP h0
  obtain ⟨rfl, h3⟩ := cN h2
  obtain ⟨a2, r2, rfl, h4⟩ := asCons_inv h3
  obtain ⟨a3, rfl, h5⟩ := asOne_inv h4
  obtain ⟨l4, rfl, h6⟩ := asAgL_inv h5
  obtain ⟨x1, r6, rfl, h10⟩ := cDP h6
  obtain ⟨rfl, h11⟩ := cN h10
  obtain ⟨a7, r7, rfl, h12⟩ := asCons_inv h11
  obtain ⟨x2, rfl, h13⟩ := asKv_inv h12
  obtain ⟨rfl, h14⟩ := cN h13
  exact ACall.spec2 (fn := Try.f40) (c := codeOf Try.f40) (L := lofL L40) hS40 (by kernel_rfl) (by kernel_rfl) (inlOK _) (all_eq (by kernel_rfl : subsOf (E.info 40).keep (codeOf Try.f40) = [.loop (body Try.f40 3)]) (all_cons (loopOK_of (mk := 41000003) (sl := [1, 3, 4, 25, 26, 27]) (ss := [([1, 3, 4, 25, 26, 27], lsl40r3)]) (by kernel_rfl) (by kernel_rfl) (all_cons l40r3v all_nil)) all_nil)) (by kernel_rfl) h14.of
abbrev S30 : wS := [(38, none, sp38), (40, none, sp40)]
theorem hS30 : SpecOK E (ofL S30) := specOK_cons h38 (specOK_cons h40 specOK_nil)
abbrev L30 : wL := [(31000003, [1, 3, 10, 11, 12], none, lsl30r3), (31000015, [6, 56, 57], none, lsl30r15)]
def sp30 : Sp := fun args τ K => dD w1 args fun x1 r1 => asNil r1 <| asNil τ <| c30 x1 (fun z1 => K (I z1) [])
theorem h30 : ∀ args τ K, sp30 args τ K → ACall E 30 args τ K := by
  intro args τ K h0
  obtain ⟨x1, r1, rfl, h2⟩ := cD h0
  obtain ⟨rfl, rfl, h4⟩ := cM h2
  exact ACall.spec2 (fn := Try.f30) (c := codeOf Try.f30) (L := lofL L30) hS30 (by kernel_rfl) (by kernel_rfl) (inlOK _) (all_eq (by kernel_rfl : subsOf (E.info 30).keep (codeOf Try.f30) = [.loop (body Try.f30 3), .loop (body Try.f30 15)]) (all_cons (loopOK_of (mk := 31000003) (sl := [1, 3, 10, 11, 12]) (ss := [([1, 3, 10, 11, 12], lsl30r3)]) (by kernel_rfl) (by kernel_rfl) (all_cons l30r3v all_nil)) (all_cons (loopOK_of (mk := 31000015) (sl := [6, 56, 57]) (ss := [([6, 56, 57], lsl30r15)]) (by kernel_rfl) (by kernel_rfl) (all_cons l30r15v all_nil)) all_nil))) (by kernel_rfl) h4.of
def sp42 : Sp := fun args τ K => dD wI args fun x1 r1 => dP (.ptr 0 0 []) r1 fun r2 => asNil r2 <| dO wI wI τ fun x2 r3 => asNil r3 <| c42 x1 x2 (fun z1 => K (.tup []) [.one wI (I z1)])
theorem h42 : ∀ args τ K, sp42 args τ K → ACall E 42 args τ K := by
  intro args τ K h0
  obtain ⟨x1, r2, rfl, h4⟩ := cDP h0
  obtain ⟨rfl, h5⟩ := cN h4
  obtain ⟨x2, r3, rfl, h8⟩ := oD h5
  obtain ⟨rfl, h9⟩ := cN h8
  exact ACall.spec2 (fn := Try.f42) (c := codeOf Try.f42) (L := lofL nL) nS (by kernel_rfl) (by kernel_rfl) (inlOK _) (all_eq (by kernel_rfl) all_nil) (by kernel_rfl) h9.of
abbrev Sl41r5 : wS := [(42, none, sp42)]
theorem hSl41r5 : SpecOK E (ofL Sl41r5) := specOK_cons h42 specOK_nil
def lsl41r5 : LSp := fun vs σ K => asCons vs fun a1 r1 => asFn 42 a1 fun l2 l3 => asNil l2 <| dP (.ptr 0 0 []) l3 fun r4 => asNil r4 <| dP (.ptr 1 0 []) r1 fun r5 => dD (.sl w0) r5 fun s1 r6 => dD wI r6 fun s2 r7 => dD wI r7 fun s3 r8 => dD (.sl wI) r8 fun s4 r9 => dD wI r9 fun s5 r10 => dD wI r10 fun s6 r11 => asNil r11 <| dO wI wI σ fun s7 r12 => dO w0 w0 r12 fun s8 r14 => asNil r14 <| l41r5 (fun z1 z2 z3 z4 z5 => K (.exit 2) [(1, .fn 42 [] [.ptr 0 0 []]), (5, .ptr 1 0 []), (11, .d (.sl w0) z1), (12, I z2), (13, I z3)] [.one wI (I z4), .one w0 (.d w0 z5)]) s1 s2 s3 s4 s5 s6 s7 s8
theorem l41r5v : LoopV E wF (E.info 41).keep 1 Try.f41.ntmps 42000005 (body Try.f41 5) ([1, 5, 11, 12, 13, 18, 19, 20], lsl41r5) := by
  intro vs σ K h0
  obtain ⟨a1, r1, rfl, h1⟩ := asCons_inv h0
  obtain ⟨l2, l3, rfl, h2⟩ := asFn_inv h1
  obtain ⟨rfl, h3⟩ := cN h2
  obtain ⟨r4, rfl, h5⟩ := cP h3
  obtain ⟨rfl, h6⟩ := cN h5
  obtain ⟨s1, s2, s3, r8, rfl, h14⟩ := cPDDD h6
  obtain ⟨s4, s5, s6, r11, rfl, h20⟩ := cDDD h14
  obtain ⟨rfl, h21⟩ := cN h20
  obtain ⟨s7, r12, rfl, h24⟩ := oD h21
  obtain ⟨s8, r14, rfl, h27⟩ := oD h24
  obtain ⟨rfl, h28⟩ := cN h27
  intro J hJ
  have hp : ∀ c' ∈ subsOf (E.info 41).keep (body Try.f41 5), SubOK E wF (E.info 41).keep 1 Try.f41.ntmps (lofL nL) c' := all_eq (by kernel_rfl) all_nil
  exact h28.of (fun s1 s2 s3 s4 s5 s6 s7 s8 => J [(42000005, .undef), (1, .fn 42 [] [.ptr 0 0 []]), (5, .ptr 1 0 []), (11, .d (.sl w0) s1), (12, I s2), (13, I s3), (18, .d (.sl wI) s4), (19, I s5), (20, I s6)] [.one wI (I s7), .one w0 (.d w0 s8)]) (fun s1 s2 s3 s4 s5 s6 s7 s8 hb => loop_round2 hSl41r5 (inlOK _) hp hJ (by kernel_rfl) hb)
abbrev Sl41r10 : wS := [(42, none, sp42)]
theorem hSl41r10 : SpecOK E (ofL Sl41r10) := specOK_cons h42 specOK_nil
def lsl41r10 : LSp := fun vs σ K => asCons vs fun a1 r1 => asFn 42 a1 fun l2 l3 => asNil l2 <| dP (.ptr 0 0 []) l3 fun r4 => asNil r4 <| dD (.sl w0) r1 fun s1 r5 => dD wI r5 fun s2 r6 => dD wI r6 fun s3 r7 => dD (.sl (.pair wI (.pair wI w5))) r7 fun s4 r8 => dD wI r8 fun s5 r9 => dD wI r9 fun s6 r10 => asNil r10 <| dO wI wI σ fun s7 r11 => asNil r11 <| l41r10 (fun z1 z2 z3 z4 => K (.exit 4) [(1, .fn 42 [] [.ptr 0 0 []]), (11, .d (.sl w0) z1), (12, I z2), (13, I z3)] [.one wI (I z4)]) s1 s2 s3 s4 s5 s6 s7
theorem l41r10v : LoopV E wF (E.info 41).keep 1 Try.f41.ntmps 42000010 (body Try.f41 10) ([1, 11, 12, 13, 29, 30, 31], lsl41r10) := by
  intro vs σ K h0
  obtain ⟨a1, r1, rfl, h1⟩ := asCons_inv h0
  obtain ⟨l2, l3, rfl, h2⟩ := asFn_inv h1
  obtain ⟨rfl, h3⟩ := cN h2
  obtain ⟨r4, rfl, h5⟩ := cP h3
  obtain ⟨rfl, h6⟩ := cN h5
  obtain ⟨s1, s2, s3, s4, r8, rfl, h14⟩ := cDDDD h6
  obtain ⟨s5, s6, r10, rfl, h18⟩ := cDD h14
  obtain ⟨rfl, h19⟩ := cN h18
  obtain ⟨s7, r11, rfl, h22⟩ := oD h19
  obtain ⟨rfl, h23⟩ := cN h22
  intro J hJ
  have hp : ∀ c' ∈ subsOf (E.info 41).keep (body Try.f41 10), SubOK E wF (E.info 41).keep 1 Try.f41.ntmps (lofL nL) c' := all_eq (by kernel_rfl) all_nil
  exact h23.of (fun s1 s2 s3 s4 s5 s6 s7 => J [(42000010, .undef), (1, .fn 42 [] [.ptr 0 0 []]), (11, .d (.sl w0) s1), (12, I s2), (13, I s3), (29, .d (.sl (.pair wI (.pair wI w5))) s4), (30, I s5), (31, I s6)] [.one wI (I s7)]) (fun s1 s2 s3 s4 s5 s6 s7 hb => loop_round2 hSl41r10 (inlOK _) hp hJ (by kernel_rfl) hb)
abbrev Ll41r2 : wL := [(42000005, [1, 5, 11, 12, 13, 18, 19, 20], none, lsl41r5), (42000010, [1, 11, 12, 13, 29, 30, 31], none, lsl41r10)]
def lsl41r2 : LSp := fun vs σ K => asCons vs fun a1 r1 => asFn 42 a1 fun l2 l3 => asNil l2 <| dP (.ptr 0 0 []) l3 fun r4 => asNil r4 <| dD (.sl w0) r1 fun s1 r5 => dD wI r5 fun s2 r6 => dD wI r6 fun s3 r7 => asNil r7 <| dO wI wI σ fun s4 r8 => asNil r8 <| l41r2 (fun z1 => K (.exit 0) [] [.one wI (I z1)]) s1 s2 s3 s4
theorem l41r2v : LoopV E wF (E.info 41).keep 1 Try.f41.ntmps 42000002 (body Try.f41 2) ([1, 11, 12, 13], lsl41r2) := by
  intro vs σ K h0
  obtain ⟨a1, r1, rfl, h1⟩ := asCons_inv h0
  obtain ⟨l2, l3, rfl, h2⟩ := asFn_inv h1
  obtain ⟨rfl, h3⟩ := cN h2
  obtain ⟨r4, rfl, h5⟩ := cP h3
  obtain ⟨rfl, h6⟩ := cN h5
  obtain ⟨s1, s2, s3, r7, rfl, h12⟩ := cDDD h6
  obtain ⟨rfl, h13⟩ := cN h12
  obtain ⟨s4, r8, rfl, h16⟩ := oD h13
  obtain ⟨rfl, h17⟩ := cN h16
  intro J hJ
  have hp : ∀ c' ∈ subsOf (E.info 41).keep (body Try.f41 2), SubOK E wF (E.info 41).keep 1 Try.f41.ntmps (lofL Ll41r2) c' := all_eq (by kernel_rfl : subsOf (E.info 41).keep (body Try.f41 2) = [.loop (body Try.f41 5), .loop (body Try.f41 10)]) (all_cons (loopOK_of (mk := 42000005) (sl := [1, 5, 11, 12, 13, 18, 19, 20]) (ss := [([1, 5, 11, 12, 13, 18, 19, 20], lsl41r5)]) (by kernel_rfl) (by kernel_rfl) (all_cons l41r5v all_nil)) (all_cons (loopOK_of (mk := 42000010) (sl := [1, 11, 12, 13, 29, 30, 31]) (ss := [([1, 11, 12, 13, 29, 30, 31], lsl41r10)]) (by kernel_rfl) (by kernel_rfl) (all_cons l41r10v all_nil)) all_nil))
  exact h17.of (fun s1 s2 s3 s4 => J [(42000002, .undef), (1, .fn 42 [] [.ptr 0 0 []]), (11, .d (.sl w0) s1), (12, I s2), (13, I s3)] [.one wI (I s4)]) (fun s1 s2 s3 s4 hb => loop_round2 nS (inlOK _) hp hJ (by kernel_rfl) hb)
abbrev L41 : wL := [(42000002, [1, 11, 12, 13], none, lsl41r2)]
def sp41 : Sp := fun args τ K => dD w1 args fun x1 r1 => asCons r1 fun a2 r2 => asFn 42 a2 fun l3 l4 => asNil l3 <| dP (.ptr 0 0 []) l4 fun r5 => asNil r5 <| asNil r2 <| dO wI wI τ fun x2 r6 => asNil r6 <| c41 x1 x2 (fun z1 => K (.tup []) [.one wI (I z1)])
theorem h41 : ∀ args τ K, sp41 args τ K → ACall E 41 args τ K := by
  intro args τ K h0
  obtain ⟨x1, r1, rfl, h2⟩ := cD h0
  obtain ⟨a2, r2, rfl, h3⟩ := asCons_inv h2
  obtain ⟨l3, l4, rfl, h4⟩ := asFn_inv h3
  obtain ⟨rfl, h5⟩ := cN h4
  obtain ⟨r5, rfl, h7⟩ := cP h5
  obtain ⟨rfl, rfl, h9⟩ := cM h7
  obtain ⟨x2, r6, rfl, h12⟩ := oD h9
  obtain ⟨rfl, h13⟩ := cN h12
  exact ACall.spec2 (fn := Try.f41) (c := codeOf Try.f41) (L := lofL L41) nS (by kernel_rfl) (by kernel_rfl) (inlOK _) (all_eq (by kernel_rfl : subsOf (E.info 41).keep (codeOf Try.f41) = [.loop (body Try.f41 2)]) (all_cons (loopOK_of (mk := 42000002) (sl := [1, 11, 12, 13]) (ss := [([1, 11, 12, 13], lsl41r2)]) (by kernel_rfl) (by kernel_rfl) (all_cons l41r2v all_nil)) all_nil)) (by kernel_rfl) h13.of
abbrev S31 : wS := [(41, none, sp41)]
theorem hS31 : SpecOK E (ofL S31) := specOK_cons h41 specOK_nil
def sp31 : Sp := fun args τ K => dD w1 args fun x1 r1 => asNil r1 <| asNil τ <| c31 x1 (fun z1 => K (I z1) [])
theorem h31 : ∀ args τ K, sp31 args τ K → ACall E 31 args τ K := by
  intro args τ K h0
  obtain ⟨x1, r1, rfl, h2⟩ := cD h0
  obtain ⟨rfl, rfl, h4⟩ := cM h2
  exact ACall.spec2 (fn := Try.f31) (c := codeOf Try.f31) (L := lofL nL) hS31 (by kernel_rfl) (by kernel_rfl) (inlOK _) (all_eq (by kernel_rfl) all_nil) (by kernel_rfl) h4.of
abbrev Sl32r7 : wS := [(43, none, sp43)]
theorem hSl32r7 : SpecOK E (ofL Sl32r7) := specOK_cons h43 specOK_nil
def lsl32r7 : LSp := fun vs σ K => dP (.ptr 0 0 []) vs fun r1 => dP (.vec 3) r1 fun r2 => dP (.ptr 5 0 []) r2 fun r3 => dP (.vec 6) r3 fun r4 => dP (.ptr 7 0 []) r4 fun r5 => dD (.sl w5) r5 fun s1 r6 => dD wI r6 fun s2 r7 => dD wI r7 fun s3 r8 => dP (.vec 4) r8 fun r9 => dD wI r9 fun s4 r10 => dD wI r10 fun s5 r11 => asNil r11 <| asCons σ fun a12 r12 => asOne w4 a12 fun a13 => asAgL a13 fun l14 => asCons l14 fun a15 r15 => asAgL a15 fun l16 => dD wI l16 fun s6 r17 => dP (.vec 1) r17 fun r18 => asNil r18 <| dD wI r15 fun s7 r19 => dP (.vec 2) r19 fun r20 => asNil r20 <| dR w0 false r12 fun s8 r21 => asCons r21 fun a22 r22 => asDeep .bool a22 fun s9 l23 => asNil l23 <| asCons r22 fun a24 r24 => asDeep .bool a24 fun s10 l25 => asCons l25 fun a26 r26 => asHole 4 a26 fun s11 => asNil r26 <| dR .bool false r24 fun s12 r27 => dO w3 w3 r27 fun s13 r28 => dR .bool false r28 fun s14 r30 => dO w5 w5 r30 fun s15 r31 => asNil r31 <| l32r7 (fun z1 z2 z3 z4 z5 z6 z7 z8 z9 z10 => K (.exit 2) [(0, .ptr 0 0 []), (2, .vec 3), (7, .ptr 4 0 []), (8, .vec 5), (32, .d (.sl w5) z1), (33, I z2), (34, I z3)] [.one w4 (.agg [.agg [I z4, .vec 1], I z5, .vec 2]), .row w0 z6 false, .deep .bool z7 [], .deep .bool z8 [], .one w3 (.d w3 z9), .row .bool z10 false]) s1 s2 s3 s4 s5 s6 s7 s8 s9 s10 s11 s12 s13 s14 s15
theorem l32r7v : LoopV E wF (E.info 32).keep 4 Try.f32.ntmps 33000007 (body Try.f32 7) ([0, 2, 7, 8, 10, 32, 33, 34, 42, 43, 44], lsl32r7) := by
  intro vs σ K h0
  obtain ⟨r4, rfl, h8⟩ := cPPPP h0
  obtain ⟨s1, s2, s3, r8, rfl, h16⟩ := cPDDD h8
  obtain ⟨s4, s5, r11, rfl, h22⟩ := cPDD h16
  obtain ⟨rfl, h23⟩ := cN h22
  obtain ⟨a12, r12, rfl, h24⟩ := asCons_inv h23
  obtain ⟨a13, rfl, h25⟩ := asOne_inv h24
  obtain ⟨l14, rfl, h26⟩ := asAgL_inv h25
  obtain ⟨a15, r15, rfl, h27⟩ := asCons_inv h26
  obtain ⟨l16, rfl, h28⟩ := asAgL_inv h27
  obtain ⟨s6, r18, rfl, h32⟩ := cDP h28
  obtain ⟨rfl, h33⟩ := cN h32
  obtain ⟨s7, r20, rfl, h37⟩ := cDP h33
  obtain ⟨rfl, h38⟩ := cN h37
  obtain ⟨s8, r21, rfl, h40⟩ := cR h38
  obtain ⟨a22, r22, rfl, h41⟩ := asCons_inv h40
  obtain ⟨s9, l23, rfl, h42⟩ := asDeep_inv h41
  obtain ⟨rfl, h43⟩ := cN h42
  obtain ⟨a24, r24, rfl, h44⟩ := asCons_inv h43
  obtain ⟨s10, l25, rfl, h45⟩ := asDeep_inv h44
  obtain ⟨a26, r26, rfl, h46⟩ := asCons_inv h45
  obtain ⟨s11, rfl, h47⟩ := asHole_inv h46
  obtain ⟨rfl, h48⟩ := cN h47
  obtain ⟨s12, r27, rfl, h50⟩ := cR h48
  obtain ⟨s13, r28, rfl, h53⟩ := oD h50
  obtain ⟨s14, r30, rfl, h55⟩ := cR h53
  obtain ⟨s15, r31, rfl, h58⟩ := oD h55
  obtain ⟨rfl, h59⟩ := cN h58
  intro J hJ
  have hp : ∀ c' ∈ subsOf (E.info 32).keep (body Try.f32 7), SubOK E wF (E.info 32).keep 4 Try.f32.ntmps (lofL nL) c' := all_eq (by kernel_rfl) all_nil
  exact h59.of (fun s1 s2 s3 s4 s5 s6 s7 s8 s9 s10 s11 s12 s13 s14 s15 => J [(33000007, .undef), (0, .ptr 0 0 []), (2, .vec 3), (7, .ptr 5 0 []), (8, .vec 6), (10, .ptr 7 0 []), (32, .d (.sl w5) s1), (33, I s2), (34, I s3), (42, .vec 4), (43, I s4), (44, I s5)] [.one w4 (.agg [.agg [I s6, .vec 1], I s7, .vec 2]), .row w0 s8 false, .deep .bool s9 [], .deep .bool s10 [(s11, 4)], .row .bool s12 false, .one w3 (.d w3 s13), .row .bool s14 false, .one w5 (.d w5 s15)]) (fun s1 s2 s3 s4 s5 s6 s7 s8 s9 s10 s11 s12 s13 s14 s15 hb => loop_round2 hSl32r7 (inlOK _) hp hJ (by kernel_rfl) hb)
abbrev Ll32r4 : wL := [(33000007, [0, 2, 7, 8, 10, 32, 33, 34, 42, 43, 44], none, lsl32r7)]
def lsl32r4 : LSp := fun vs σ K => dP (.ptr 0 0 []) vs fun r1 => dP (.vec 3) r1 fun r2 => dP (.ptr 4 0 []) r2 fun r3 => dP (.vec 5) r3 fun r4 => dD (.sl w5) r4 fun s1 r5 => dD wI r5 fun s2 r6 => dD wI r6 fun s3 r7 => asNil r7 <| asCons σ fun a8 r8 => asOne w4 a8 fun a9 => asAgL a9 fun l10 => asCons l10 fun a11 r11 => asAgL a11 fun l12 => dD wI l12 fun s4 r13 => dP (.vec 1) r13 fun r14 => asNil r14 <| dD wI r11 fun s5 r15 => dP (.vec 2) r15 fun r16 => asNil r16 <| dR w0 false r8 fun s6 r17 => asCons r17 fun a18 r18 => asDeep .bool a18 fun s7 l19 => asNil l19 <| asCons r18 fun a20 r20 => asDeep .bool a20 fun s8 l21 => asNil l21 <| dO w3 w3 r20 fun s9 r22 => dR .bool false r22 fun s10 r24 => asNil r24 <| l32r4 (fun z1 z2 z3 z4 z5 z6 z7 => K (.exit 0) [(7, .ptr 4 0 []), (8, .vec 5)] [.one w4 (.agg [.agg [I z1, .vec 1], I z2, .vec 2]), .row w0 z3 false, .deep .bool z4 [], .deep .bool z5 [], .one w3 (.d w3 z6), .row .bool z7 false]) s1 s2 s3 s4 s5 s6 s7 s8 s9 s10
theorem l32r4v : LoopV E wF (E.info 32).keep 4 Try.f32.ntmps 33000004 (body Try.f32 4) ([0, 2, 7, 8, 32, 33, 34], lsl32r4) := by
  intro vs σ K h0
  obtain ⟨r4, rfl, h8⟩ := cPPPP h0
  obtain ⟨s1, s2, s3, r7, rfl, h14⟩ := cDDD h8
  obtain ⟨rfl, h15⟩ := cN h14
  obtain ⟨a8, r8, rfl, h16⟩ := asCons_inv h15
  obtain ⟨a9, rfl, h17⟩ := asOne_inv h16
  obtain ⟨l10, rfl, h18⟩ := asAgL_inv h17
  obtain ⟨a11, r11, rfl, h19⟩ := asCons_inv h18
  obtain ⟨l12, rfl, h20⟩ := asAgL_inv h19
  obtain ⟨s4, r14, rfl, h24⟩ := cDP h20
  obtain ⟨rfl, h25⟩ := cN h24
  obtain ⟨s5, r16, rfl, h29⟩ := cDP h25
  obtain ⟨rfl, h30⟩ := cN h29
  obtain ⟨s6, r17, rfl, h32⟩ := cR h30
  obtain ⟨a18, r18, rfl, h33⟩ := asCons_inv h32
  obtain ⟨s7, l19, rfl, h34⟩ := asDeep_inv h33
  obtain ⟨rfl, h35⟩ := cN h34
  obtain ⟨a20, r20, rfl, h36⟩ := asCons_inv h35
  obtain ⟨s8, l21, rfl, h37⟩ := asDeep_inv h36
  obtain ⟨rfl, h38⟩ := cN h37
  obtain ⟨s9, r22, rfl, h41⟩ := oD h38
  obtain ⟨s10, r24, rfl, h43⟩ := cR h41
  obtain ⟨rfl, h44⟩ := cN h43
  intro J hJ
  have hp : ∀ c' ∈ subsOf (E.info 32).keep (body Try.f32 4), SubOK E wF (E.info 32).keep 4 Try.f32.ntmps (lofL Ll32r4) c' := all_eq (by kernel_rfl : subsOf (E.info 32).keep (body Try.f32 4) = [.loop (body Try.f32 7)]) (all_cons (loopOK_of (mk := 33000007) (sl := [0, 2, 7, 8, 10, 32, 33, 34, 42, 43, 44]) (ss := [([0, 2, 7, 8, 10, 32, 33, 34, 42, 43, 44], lsl32r7)]) (by kernel_rfl) (by kernel_rfl) (all_cons l32r7v all_nil)) all_nil)
  exact h44.of (fun s1 s2 s3 s4 s5 s6 s7 s8 s9 s10 => J [(33000004, .undef), (0, .ptr 0 0 []), (2, .vec 3), (7, .ptr 4 0 []), (8, .vec 5), (32, .d (.sl w5) s1), (33, I s2), (34, I s3)] [.one w4 (.agg [.agg [I s4, .vec 1], I s5, .vec 2]), .row w0 s6 false, .deep .bool s7 [], .deep .bool s8 [], .one w3 (.d w3 s9), .row .bool s10 false]) (fun s1 s2 s3 s4 s5 s6 s7 s8 s9 s10 hb => loop_round2 nS (inlOK _) hp hJ (by kernel_rfl) hb)
def lsl32r19 : LSp := fun vs σ K => dP (.vec 4) vs fun r1 => dD (.sl w5) r1 fun s1 r2 => dD wI r2 fun s2 r3 => dD wI r3 fun s3 r4 => dD (.sl wI) r4 fun s4 r5 => dD wI r5 fun s5 r6 => dD wI r6 fun s6 r7 => asNil r7 <| asCons σ fun a8 r8 => asOne w4 a8 fun a9 => asAgL a9 fun l10 => asCons l10 fun a11 r11 => asAgL a11 fun l12 => dD wI l12 fun s7 r13 => dP (.vec 1) r13 fun r14 => asNil r14 <| dD wI r11 fun s8 r15 => dP (.vec 2) r15 fun r16 => asNil r16 <| dR w0 false r8 fun s9 r17 => asCons r17 fun a18 r18 => asDeep .bool a18 fun s10 l19 => asNil l19 <| asCons r18 fun a20 r20 => asDeep .bool a20 fun s11 l21 => asNil l21 <| dR .bool false r20 fun s12 r22 => asNil r22 <| l32r19 (fun z1 z2 z3 z4 z5 z6 z7 z8 z9 => K (.exit 6) [(8, .vec 4), (83, .d (.sl w5) z1), (84, I z2), (85, I z3)] [.one w4 (.agg [.agg [I z4, .vec 1], I z5, .vec 2]), .row w0 z6 false, .deep .bool z7 [], .deep .bool z8 [], .row .bool z9 false]) s1 s2 s3 s4 s5 s6 s7 s8 s9 s10 s11 s12
theorem l32r19v : LoopV E wF (E.info 32).keep 4 Try.f32.ntmps 33000019 (body Try.f32 19) ([8, 83, 84, 85, 90, 91, 92], lsl32r19) := by
  intro vs σ K h0
  obtain ⟨s1, s2, s3, r4, rfl, h8⟩ := cPDDD h0
  obtain ⟨s4, s5, s6, r7, rfl, h14⟩ := cDDD h8
  obtain ⟨rfl, h15⟩ := cN h14
  obtain ⟨a8, r8, rfl, h16⟩ := asCons_inv h15
  obtain ⟨a9, rfl, h17⟩ := asOne_inv h16
  obtain ⟨l10, rfl, h18⟩ := asAgL_inv h17
  obtain ⟨a11, r11, rfl, h19⟩ := asCons_inv h18
  obtain ⟨l12, rfl, h20⟩ := asAgL_inv h19
  obtain ⟨s7, r14, rfl, h24⟩ := cDP h20
  obtain ⟨rfl, h25⟩ := cN h24
  obtain ⟨s8, r16, rfl, h29⟩ := cDP h25
  obtain ⟨rfl, h30⟩ := cN h29
  obtain ⟨s9, r17, rfl, h32⟩ := cR h30
  obtain ⟨a18, r18, rfl, h33⟩ := asCons_inv h32
  obtain ⟨s10, l19, rfl, h34⟩ := asDeep_inv h33
  obtain ⟨rfl, h35⟩ := cN h34
  obtain ⟨a20, r20, rfl, h36⟩ := asCons_inv h35
  obtain ⟨s11, l21, rfl, h37⟩ := asDeep_inv h36
  obtain ⟨rfl, h38⟩ := cN h37
  obtain ⟨s12, r22, rfl, h40⟩ := cR h38
  obtain ⟨rfl, h41⟩ := cN h40
  intro J hJ
  have hp : ∀ c' ∈ subsOf (E.info 32).keep (body Try.f32 19), SubOK E wF (E.info 32).keep 4 Try.f32.ntmps (lofL nL) c' := all_eq (by kernel_rfl) all_nil
  exact h41.of (fun s1 s2 s3 s4 s5 s6 s7 s8 s9 s10 s11 s12 => J [(33000019, .undef), (8, .vec 4), (83, .d (.sl w5) s1), (84, I s2), (85, I s3), (90, .d (.sl wI) s4), (91, I s5), (92, I s6)] [.one w4 (.agg [.agg [I s7, .vec 1], I s8, .vec 2]), .row w0 s9 false, .deep .bool s10 [], .deep .bool s11 [], .row .bool s12 false]) (fun s1 s2 s3 s4 s5 s6 s7 s8 s9 s10 s11 s12 hb => loop_round2 nS (inlOK _) hp hJ (by kernel_rfl) hb)
abbrev Ll32r16 : wL := [(33000019, [8, 83, 84, 85, 90, 91, 92], none, lsl32r19)]
def lsl32r16 : LSp := fun vs σ K => dP (.vec 4) vs fun r1 => dD (.sl w5) r1 fun s1 r2 => dD wI r2 fun s2 r3 => dD wI r3 fun s3 r4 => asNil r4 <| asCons σ fun a5 r5 => asOne w4 a5 fun a6 => asAgL a6 fun l7 => asCons l7 fun a8 r8 => asAgL a8 fun l9 => dD wI l9 fun s4 r10 => dP (.vec 1) r10 fun r11 => asNil r11 <| dD wI r8 fun s5 r12 => dP (.vec 2) r12 fun r13 => asNil r13 <| dR w0 false r5 fun s6 r14 => asCons r14 fun a15 r15 => asDeep .bool a15 fun s7 l16 => asNil l16 <| asCons r15 fun a17 r17 => asDeep .bool a17 fun s8 l18 => asNil l18 <| dR .bool false r17 fun s9 r19 => asNil r19 <| l32r16 (fun z1 z2 z3 z4 z5 z6 => K (.exit 4) [(8, .vec 4)] [.one w4 (.agg [.agg [I z1, .vec 1], I z2, .vec 2]), .row w0 z3 false, .deep .bool z4 [], .deep .bool z5 [], .row .bool z6 false]) s1 s2 s3 s4 s5 s6 s7 s8 s9
theorem l32r16v : LoopV E wF (E.info 32).keep 4 Try.f32.ntmps 33000016 (body Try.f32 16) ([8, 83, 84, 85], lsl32r16) := by
  intro vs σ K h0
  obtain ⟨s1, s2, s3, r4, rfl, h8⟩ := cPDDD h0
  obtain ⟨rfl, h9⟩ := cN h8
  obtain ⟨a5, r5, rfl, h10⟩ := asCons_inv h9
  obtain ⟨a6, rfl, h11⟩ := asOne_inv h10
  obtain ⟨l7, rfl, h12⟩ := asAgL_inv h11
  obtain ⟨a8, r8, rfl, h13⟩ := asCons_inv h12
  obtain ⟨l9, rfl, h14⟩ := asAgL_inv h13
  obtain ⟨s4, r11, rfl, h18⟩ := cDP h14
  obtain ⟨rfl, h19⟩ := cN h18
  obtain ⟨s5, r13, rfl, h23⟩ := cDP h19
  obtain ⟨rfl, h24⟩ := cN h23
  obtain ⟨s6, r14, rfl, h26⟩ := cR h24
  obtain ⟨a15, r15, rfl, h27⟩ := asCons_inv h26
  obtain ⟨s7, l16, rfl, h28⟩ := asDeep_inv h27
  obtain ⟨rfl, h29⟩ := cN h28
  obtain ⟨a17, r17, rfl, h30⟩ := asCons_inv h29
  obtain ⟨s8, l18, rfl, h31⟩ := asDeep_inv h30
  obtain ⟨rfl, h32⟩ := cN h31
  obtain ⟨s9, r19, rfl, h34⟩ := cR h32
  obtain ⟨rfl, h35⟩ := cN h34
  intro J hJ
  have hp : ∀ c' ∈ subsOf (E.info 32).keep (body Try.f32 16), SubOK E wF (E.info 32).keep 4 Try.f32.ntmps (lofL Ll32r16) c' := all_eq (by kernel_rfl : subsOf (E.info 32).keep (body Try.f32 16) = [.loop (body Try.f32 19)]) (all_cons (loopOK_of (mk := 33000019) (sl := [8, 83, 84, 85, 90, 91, 92]) (ss := [([8, 83, 84, 85, 90, 91, 92], lsl32r19)]) (by kernel_rfl) (by kernel_rfl) (all_cons l32r19v all_nil)) all_nil)
  exact h35.of (fun s1 s2 s3 s4 s5 s6 s7 s8 s9 => J [(33000016, .undef), (8, .vec 4), (83, .d (.sl w5) s1), (84, I s2), (85, I s3)] [.one w4 (.agg [.agg [I s4, .vec 1], I s5, .vec 2]), .row w0 s6 false, .deep .bool s7 [], .deep .bool s8 [], .row .bool s9 false]) (fun s1 s2 s3 s4 s5 s6 s7 s8 s9 hb => loop_round2 nS (inlOK _) hp hJ (by kernel_rfl) hb)
abbrev L32 : wL := [(33000004, [0, 2, 7, 8, 32, 33, 34], none, lsl32r4), (33000016, [8, 83, 84, 85], none, lsl32r16)]
def sp32 : Sp := fun args τ K => dP (.ptr 0 0 []) args fun r1 => dD wI r1 fun x1 r2 => dP (.vec 3) r2 fun r3 => asNil r3 <| asCons τ fun a4 r4 => asOne w4 a4 fun a5 => asAgL a5 fun l6 => asCons l6 fun a7 r7 => asAgL a7 fun l8 => dD wI l8 fun x2 r9 => dP (.vec 1) r9 fun r10 => asNil r10 <| dD wI r7 fun x3 r11 => dP (.vec 2) r11 fun r12 => asNil r12 <| dR w0 false r4 fun x4 r13 => asCons r13 fun a14 r14 => asDeep .bool a14 fun x5 l15 => asNil l15 <| asCons r14 fun a16 r16 => asDeep .bool a16 fun x6 l17 => asNil l17 <| asNil r16 <| c32 x1 x2 x3 x4 x5 x6 (fun z1 z2 z3 z4 z5 z6 => K (.vec 4) [.one w4 (.agg [.agg [I z1, .vec 1], I z2, .vec 2]), .row w0 z3 false, .deep .bool z4 [], .deep .bool z5 [], .row .bool z6 false])
theorem h32 : ∀ args τ K, sp32 args τ K → ACall E 32 args τ K := by
  intro args τ K h0
  obtain ⟨x1, r3, rfl, h6⟩ := cPDP h0
  obtain ⟨rfl, h7⟩ := cN h6
  obtain ⟨a4, r4, rfl, h8⟩ := asCons_inv h7
  obtain ⟨a5, rfl, h9⟩ := asOne_inv h8
  obtain ⟨l6, rfl, h10⟩ := asAgL_inv h9
  obtain ⟨a7, r7, rfl, h11⟩ := asCons_inv h10
  obtain ⟨l8, rfl, h12⟩ := asAgL_inv h11
  obtain ⟨x2, r10, rfl, h16⟩ := cDP h12
  obtain ⟨rfl, h17⟩ := cN h16
  obtain ⟨x3, r12, rfl, h21⟩ := cDP h17
  obtain ⟨rfl, h22⟩ := cN h21
  obtain ⟨x4, r13, rfl, h24⟩ := cR h22
  obtain ⟨a14, r14, rfl, h25⟩ := asCons_inv h24
  obtain ⟨x5, l15, rfl, h26⟩ := asDeep_inv h25
  obtain ⟨rfl, h27⟩ := cN h26
  obtain ⟨a16, r16, rfl, h28⟩ := asCons_inv h27
  obtain ⟨x6, l17, rfl, h29⟩ := asDeep_inv h28
  obtain ⟨rfl, rfl, h31⟩ := cM h29
  exact ACall.spec2 (fn := Try.f32) (c := codeOf Try.f32) (L := lofL L32) nS (by kernel_rfl) (by kernel_rfl) (inlOK _) (all_eq (by kernel_rfl : subsOf (E.info 32).keep (codeOf Try.f32) = [.loop (body Try.f32 4), .loop (body Try.f32 16)]) (all_cons (loopOK_of (mk := 33000004) (sl := [0, 2, 7, 8, 32, 33, 34]) (ss := [([0, 2, 7, 8, 32, 33, 34], lsl32r4)]) (by kernel_rfl) (by kernel_rfl) (all_cons l32r4v all_nil)) (all_cons (loopOK_of (mk := 33000016) (sl := [8, 83, 84, 85]) (ss := [([8, 83, 84, 85], lsl32r16)]) (by kernel_rfl) (by kernel_rfl) (all_cons l32r16v all_nil)) all_nil))) (by kernel_rfl) h31.of
def sp34 : Sp := fun args τ K => dD (.sl .bool) args fun x1 r1 => asNil r1 <| asNil τ <| c34 x1 (fun z1 => K (.vec 0) [.row .bool z1 false])
theorem h34 : ∀ args τ K, sp34 args τ K → ACall E 34 args τ K := by
  intro args τ K h0
  obtain ⟨x1, r1, rfl, h2⟩ := cD h0
  obtain ⟨rfl, rfl, h4⟩ := cM h2
  exact ACall.spec2 (fn := Try.f34) (c := codeOf Try.f34) (L := lofL nL) nS (by kernel_rfl) (by kernel_rfl) (inlOK _) (all_eq (by kernel_rfl) all_nil) (by kernel_rfl) h4.of
def lsl19r12 : LSp := fun vs σ K => dD (.opq .func) vs fun s1 r1 => dP (.ptr 3 0 []) r1 fun r2 => dP (.vec 4) r2 fun r3 => dD wI r3 fun s2 r4 => dD (.sl wI) r4 fun s3 r5 => dD wI r5 fun s4 r6 => dD wI r6 fun s5 r7 => asNil r7 <| asCons σ fun a8 r8 => asOne w4 a8 fun a9 => asAgL a9 fun l10 => asCons l10 fun a11 r11 => asAgL a11 fun l12 => dD wI l12 fun s6 r13 => dP (.vec 1) r13 fun r14 => asNil r14 <| dD wI r11 fun s7 r15 => dP (.vec 2) r15 fun r16 => asNil r16 <| dR w0 false r8 fun s8 r17 => asCons r17 fun a18 r18 => asDeep .bool a18 fun s9 l19 => asNil l19 <| dO w0 w0 r18 fun s10 r20 => dR .bool false r20 fun s11 r22 => asNil r22 <| l19r12 (fun z1 z2 z3 z4 z5 z6 z7 z8 => K (.exit 2) [(2, .d (.opq .func) z1), (7, .ptr 3 0 []), (8, .vec 4), (9, I z2)] [.one w4 (.agg [.agg [I z3, .vec 1], I z4, .vec 2]), .row w0 z5 false, .deep .bool z6 [], .one w0 (.d w0 z7), .row .bool z8 false]) s1 s2 s3 s4 s5 s6 s7 s8 s9 s10 s11
theorem l19r12v : LoopV E wF (E.info 19).keep 3 Try.f19.ntmps 20000012 (body Try.f19 12) ([2, 7, 8, 9, 54, 55, 56], lsl19r12) := by
  intro vs σ K h0
  obtain ⟨s1, s2, r4, rfl, h8⟩ := cDPPD h0
  obtain ⟨s3, s4, s5, r7, rfl, h14⟩ := cDDD h8
  obtain ⟨rfl, h15⟩ := cN h14
  obtain ⟨a8, r8, rfl, h16⟩ := asCons_inv h15
  obtain ⟨a9, rfl, h17⟩ := asOne_inv h16
  obtain ⟨l10, rfl, h18⟩ := asAgL_inv h17
  obtain ⟨a11, r11, rfl, h19⟩ := asCons_inv h18
  obtain ⟨l12, rfl, h20⟩ := asAgL_inv h19
  obtain ⟨s6, r14, rfl, h24⟩ := cDP h20
  obtain ⟨rfl, h25⟩ := cN h24
  obtain ⟨s7, r16, rfl, h29⟩ := cDP h25
  obtain ⟨rfl, h30⟩ := cN h29
  obtain ⟨s8, r17, rfl, h32⟩ := cR h30
  obtain ⟨a18, r18, rfl, h33⟩ := asCons_inv h32
  obtain ⟨s9, l19, rfl, h34⟩ := asDeep_inv h33
  obtain ⟨rfl, h35⟩ := cN h34
  obtain ⟨s10, r20, rfl, h38⟩ := oD h35
  obtain ⟨s11, r22, rfl, h40⟩ := cR h38
  obtain ⟨rfl, h41⟩ := cN h40
  intro J hJ
  have hp : ∀ c' ∈ subsOf (E.info 19).keep (body Try.f19 12), SubOK E wF (E.info 19).keep 3 Try.f19.ntmps (lofL nL) c' := all_eq (by kernel_rfl) all_nil
  exact h41.of (fun s1 s2 s3 s4 s5 s6 s7 s8 s9 s10 s11 => J [(20000012, .undef), (2, .d (.opq .func) s1), (7, .ptr 3 0 []), (8, .vec 4), (9, I s2), (54, .d (.sl wI) s3), (55, I s4), (56, I s5)] [.one w4 (.agg [.agg [I s6, .vec 1], I s7, .vec 2]), .row w0 s8 false, .deep .bool s9 [], .one w0 (.d w0 s10), .row .bool s11 false]) (fun s1 s2 s3 s4 s5 s6 s7 s8 s9 s10 s11 hb => loop_round2 nS (inlOK _) hp hJ (by kernel_rfl) hb)
abbrev Ll19r5 : wL := [(20000012, [2, 7, 8, 9, 54, 55, 56], none, lsl19r12)]
def lsl19r5 : LSp := fun vs σ K => dD (.opq .func) vs fun s1 r1 => dP (.ptr 3 0 []) r1 fun r2 => dP (.vec 4) r2 fun r3 => dD wI r3 fun s2 r4 => asNil r4 <| asCons σ fun a5 r5 => asOne w4 a5 fun a6 => asAgL a6 fun l7 => asCons l7 fun a8 r8 => asAgL a8 fun l9 => dD wI l9 fun s3 r10 => dP (.vec 1) r10 fun r11 => asNil r11 <| dD wI r8 fun s4 r12 => dP (.vec 2) r12 fun r13 => asNil r13 <| dR w0 false r5 fun s5 r14 => asCons r14 fun a15 r15 => asDeep .bool a15 fun s6 l16 => asNil l16 <| dO w0 w0 r15 fun s7 r17 => dR .bool false r17 fun s8 r19 => asNil r19 <| l19r5 (fun z1 z2 z3 z4 z5 => K .ret [(6, .vec 3)] [.one w4 (.agg [.agg [I z1, .vec 1], I z2, .vec 2]), .row w0 z3 false, .deep .bool z4 [], .row .bool z5 false]) s1 s2 s3 s4 s5 s6 s7 s8
theorem l19r5v : LoopV E wF (E.info 19).keep 3 Try.f19.ntmps 20000005 (body Try.f19 5) ([2, 7, 8, 9], lsl19r5) := by
  intro vs σ K h0
  obtain ⟨s1, s2, r4, rfl, h8⟩ := cDPPD h0
  obtain ⟨rfl, h9⟩ := cN h8
  obtain ⟨a5, r5, rfl, h10⟩ := asCons_inv h9
  obtain ⟨a6, rfl, h11⟩ := asOne_inv h10
  obtain ⟨l7, rfl, h12⟩ := asAgL_inv h11
  obtain ⟨a8, r8, rfl, h13⟩ := asCons_inv h12
  obtain ⟨l9, rfl, h14⟩ := asAgL_inv h13
  obtain ⟨s3, r11, rfl, h18⟩ := cDP h14
  obtain ⟨rfl, h19⟩ := cN h18
  obtain ⟨s4, r13, rfl, h23⟩ := cDP h19
  obtain ⟨rfl, h24⟩ := cN h23
  obtain ⟨s5, r14, rfl, h26⟩ := cR h24
  obtain ⟨a15, r15, rfl, h27⟩ := asCons_inv h26
  obtain ⟨s6, l16, rfl, h28⟩ := asDeep_inv h27
  obtain ⟨rfl, h29⟩ := cN h28
  obtain ⟨s7, r17, rfl, h32⟩ := oD h29
  obtain ⟨s8, r19, rfl, h34⟩ := cR h32
  obtain ⟨rfl, h35⟩ := cN h34
  intro J hJ
  have hp : ∀ c' ∈ subsOf (E.info 19).keep (body Try.f19 5), SubOK E wF (E.info 19).keep 3 Try.f19.ntmps (lofL Ll19r5) c' := all_eq (by kernel_rfl : subsOf (E.info 19).keep (body Try.f19 5) = [.loop (body Try.f19 12)]) (all_cons (loopOK_of (mk := 20000012) (sl := [2, 7, 8, 9, 54, 55, 56]) (ss := [([2, 7, 8, 9, 54, 55, 56], lsl19r12)]) (by kernel_rfl) (by kernel_rfl) (all_cons l19r12v all_nil)) all_nil)
  exact h35.of (fun s1 s2 s3 s4 s5 s6 s7 s8 => J [(20000005, .undef), (2, .d (.opq .func) s1), (7, .ptr 3 0 []), (8, .vec 4), (9, I s2)] [.one w4 (.agg [.agg [I s3, .vec 1], I s4, .vec 2]), .row w0 s5 false, .deep .bool s6 [], .one w0 (.d w0 s7), .row .bool s8 false]) (fun s1 s2 s3 s4 s5 s6 s7 s8 hb => loop_round2 nS (inlOK _) hp hJ (by kernel_rfl) hb)
abbrev S19 : wS := [(34, none, sp34)]
theorem hS19 : SpecOK E (ofL S19) := specOK_cons h34 specOK_nil
abbrev L19 : wL := [(20000005, [2, 7, 8, 9], none, lsl19r5)]
def sp19 : Sp := fun args τ K => dP (.ptr 0 0 []) args fun r1 => dD wI r1 fun x1 r2 => dD (.opq .func) r2 fun x2 r3 => asNil r3 <| asCons τ fun a4 r4 => asOne w4 a4 fun a5 => asAgL a5 fun l6 => asCons l6 fun a7 r7 => asAgL a7 fun l8 => dD wI l8 fun x3 r9 => dP (.vec 1) r9 fun r10 => asNil r10 <| dD wI r7 fun x4 r11 => dP (.vec 2) r11 fun r12 => asNil r12 <| dR w0 false r4 fun x5 r13 => asCons r13 fun a14 r14 => asDeep .bool a14 fun x6 l15 => asNil l15 <| asNil r14 <| c19 x1 x2 x3 x4 x5 x6 (fun z1 z2 z3 z4 z5 => K (.vec 3) [.one w4 (.agg [.agg [I z1, .vec 1], I z2, .vec 2]), .row w0 z3 false, .deep .bool z4 [], .row .bool z5 false])
theorem h19 : ∀ args τ K, sp19 args τ K → ACall E 19 args τ K := by
  intro args τ K h0
  obtain ⟨x1, x2, r3, rfl, h6⟩ := cPDD h0
  obtain ⟨rfl, h7⟩ := cN h6
  obtain ⟨a4, r4, rfl, h8⟩ := asCons_inv h7
  obtain ⟨a5, rfl, h9⟩ := asOne_inv h8
  obtain ⟨l6, rfl, h10⟩ := asAgL_inv h9
  obtain ⟨a7, r7, rfl, h11⟩ := asCons_inv h10
  obtain ⟨l8, rfl, h12⟩ := asAgL_inv h11
  obtain ⟨x3, r10, rfl, h16⟩ := cDP h12
  obtain ⟨rfl, h17⟩ := cN h16
  obtain ⟨x4, r12, rfl, h21⟩ := cDP h17
  obtain ⟨rfl, h22⟩ := cN h21
  obtain ⟨x5, r13, rfl, h24⟩ := cR h22
  obtain ⟨a14, r14, rfl, h25⟩ := asCons_inv h24
  obtain ⟨x6, l15, rfl, h26⟩ := asDeep_inv h25
  obtain ⟨rfl, rfl, h28⟩ := cM h26
  exact ACall.spec2 (fn := Try.f19) (c := codeOf Try.f19) (L := lofL L19) hS19 (by kernel_rfl) (by kernel_rfl) (inlOK _) (all_eq (by kernel_rfl : subsOf (E.info 19).keep (codeOf Try.f19) = [.loop (body Try.f19 5)]) (all_cons (loopOK_of (mk := 20000005) (sl := [2, 7, 8, 9]) (ss := [([2, 7, 8, 9], lsl19r5)]) (by kernel_rfl) (by kernel_rfl) (all_cons l19r5v all_nil)) all_nil)) (by kernel_rfl) h28.of
def lsl33r4 : LSp := fun vs σ K => dD (.sl .bool) vs fun s1 r1 => dD (.sl .bool) r1 fun s2 r2 => dD wI r2 fun s3 r3 => dD wI r3 fun s4 r4 => asNil r4 <| asNil σ <| l33r4 (fun z1 => K .ret [(4, B z1)] []) (K (.exit 0) [(4, .undef)] []) s1 s2 s3 s4
theorem l33r4v : LoopV E wF (E.info 33).keep 0 Try.f33.ntmps 34000004 (body Try.f33 4) ([0, 1, 12, 13], lsl33r4) := by
  intro vs σ K h0
  obtain ⟨s1, s2, s3, s4, r4, rfl, h8⟩ := cDDDD h0
  obtain ⟨rfl, rfl, h10⟩ := cM h8
  intro J hJ
  have hp : wH 33 Try.f33 (body Try.f33 4) nL := all_eq (by kernel_rfl) all_nil
  exact h10.of (fun s1 s2 s3 s4 => J [(34000004, .undef), (0, .d (.sl .bool) s1), (1, .d (.sl .bool) s2), (12, I s3), (13, I s4)] []) (fun s1 s2 s3 s4 hb => loop_round2 nS (inlOK _) hp hJ (by kernel_rfl) hb)
abbrev L33 : wL := [(34000004, [0, 1, 12, 13], none, lsl33r4)]
def sp33 : Sp := fun args τ K => dD (.sl .bool) args fun x1 r1 => dD (.sl .bool) r1 fun x2 r2 => asNil r2 <| asNil τ <| c33 x1 x2 (fun z1 => K (B z1) [])
theorem h33 : ∀ args τ K, sp33 args τ K → ACall E 33 args τ K := by
  intro args τ K h0
  obtain ⟨x1, x2, r2, rfl, h4⟩ := cDD h0
  obtain ⟨rfl, rfl, h6⟩ := cM h4
  exact ACall.spec2 (fn := Try.f33) (c := codeOf Try.f33) (L := lofL L33) nS (by kernel_rfl) (by kernel_rfl) (inlOK _) (all_eq (by kernel_rfl : subsOf (E.info 33).keep (codeOf Try.f33) = [.loop (body Try.f33 4)]) (all_cons (loopOK_of (mk := 34000004) (sl := [0, 1, 12, 13]) (ss := [([0, 1, 12, 13], lsl33r4)]) (by kernel_rfl) (by kernel_rfl) (all_cons l33r4v all_nil)) all_nil)) (by kernel_rfl) h6.of
abbrev Sl18r10 : wS := [(32, none, sp32), (19, none, sp19), (33, none, sp33)]
theorem hSl18r10 : SpecOK E (ofL Sl18r10) := specOK_cons h32 (specOK_cons h19 (specOK_cons h33 specOK_nil))
def lsl18r10 : LSp := fun vs σ K => dP (.ptr 1 0 []) vs fun r1 => dP (.ptr 2 0 []) r1 fun r2 => dP (.vec 4) r2 fun r3 => dD .bool r3 fun s1 r4 => dD wI r4 fun s2 r5 => asNil r5 <| dR w0 false σ fun s3 r6 => asCons r6 fun a7 r7 => asOne w1 a7 fun a8 => asAgL a8 fun l9 => dD wI l9 fun s4 r10 => dP (.vec 0) r10 fun r11 => asNil r11 <| asCons r7 fun a12 r12 => asOne w4 a12 fun a13 => asAgL a13 fun l14 => asCons l14 fun a15 r15 => asAgL a15 fun l16 => dD wI l16 fun s5 r17 => dP (.vec 0) r17 fun r18 => asNil r18 <| dD wI r15 fun s6 r19 => dP (.vec 3) r19 fun r20 => asNil r20 <| asCons r12 fun a21 r21 => asDeep .bool a21 fun s7 l22 => asNil l22 <| asCons r21 fun a23 r23 => asDeep .bool a23 fun s8 l24 => asNil l24 <| asNil r23 <| l18r10 (fun z1 z2 z3 z4 z5 z6 z7 => K (.exit 2) [(1, .ptr 1 0 []), (6, .ptr 2 0 []), (7, .vec 4), (8, B z1)] [.row w0 z2 false, .one w1 (.agg [I z3, .vec 0]), .one w4 (.agg [.agg [I z4, .vec 0], I z5, .vec 3]), .deep .bool z6 [], .deep .bool z7 []]) s1 s2 s3 s4 s5 s6 s7 s8
theorem l18r10v : LoopV E wF (E.info 18).keep 1 Try.f18.ntmps 19000010 (body Try.f18 10) ([1, 6, 7, 8, 9], lsl18r10) := by
  intro vs σ K h0
  obtain ⟨s1, r4, rfl, h8⟩ := cPPPD h0
  obtain ⟨s2, r5, rfl, h10⟩ := cD h8
  obtain ⟨rfl, h11⟩ := cN h10
  obtain ⟨s3, r6, rfl, h13⟩ := cR h11
  obtain ⟨a7, r7, rfl, h14⟩ := asCons_inv h13
  obtain ⟨a8, rfl, h15⟩ := asOne_inv h14
  obtain ⟨l9, rfl, h16⟩ := asAgL_inv h15
  obtain ⟨s4, r11, rfl, h20⟩ := cDP h16
  obtain ⟨rfl, h21⟩ := cN h20
  obtain ⟨a12, r12, rfl, h22⟩ := asCons_inv h21
  obtain ⟨a13, rfl, h23⟩ := asOne_inv h22
  obtain ⟨l14, rfl, h24⟩ := asAgL_inv h23
  obtain ⟨a15, r15, rfl, h25⟩ := asCons_inv h24
  obtain ⟨l16, rfl, h26⟩ := asAgL_inv h25
  obtain ⟨s5, r18, rfl, h30⟩ := cDP h26
  obtain ⟨rfl, h31⟩ := cN h30
  obtain ⟨s6, r20, rfl, h35⟩ := cDP h31
  obtain ⟨rfl, h36⟩ := cN h35
  obtain ⟨a21, r21, rfl, h37⟩ := asCons_inv h36
  obtain ⟨s7, l22, rfl, h38⟩ := asDeep_inv h37
  obtain ⟨rfl, h39⟩ := cN h38
  obtain ⟨a23, r23, rfl, h40⟩ := asCons_inv h39
  obtain ⟨s8, l24, rfl, h41⟩ := asDeep_inv h40
  obtain ⟨rfl, rfl, h43⟩ := cM h41
  intro J hJ
  have hp : ∀ c' ∈ subsOf (E.info 18).keep (body Try.f18 10), SubOK E wF (E.info 18).keep 1 Try.f18.ntmps (lofL nL) c' := all_eq (by kernel_rfl) all_nil
  exact h43.of (fun s1 s2 s3 s4 s5 s6 s7 s8 => J [(19000010, .undef), (1, .ptr 1 0 []), (6, .ptr 2 0 []), (7, .vec 4), (8, B s1), (9, I s2)] [.row w0 s3 false, .one w1 (.agg [I s4, .vec 0]), .one w4 (.agg [.agg [I s5, .vec 0], I s6, .vec 3]), .deep .bool s7 [], .deep .bool s8 []]) (fun s1 s2 s3 s4 s5 s6 s7 s8 hb => loop_round2 hSl18r10 (inlOK _) hp hJ (by kernel_rfl) hb)
abbrev Ll18r7 : wL := [(19000010, [1, 6, 7, 8, 9], none, lsl18r10)]
def lsl18r7 : LSp := fun vs σ K => dP (.ptr 1 0 []) vs fun r1 => dP (.ptr 2 0 []) r1 fun r2 => dP (.vec 4) r2 fun r3 => dD .bool r3 fun s1 r4 => asNil r4 <| dR w0 false σ fun s2 r5 => asCons r5 fun a6 r6 => asOne w1 a6 fun a7 => asAgL a7 fun l8 => dD wI l8 fun s3 r9 => dP (.vec 0) r9 fun r10 => asNil r10 <| asCons r6 fun a11 r11 => asOne w4 a11 fun a12 => asAgL a12 fun l13 => asCons l13 fun a14 r14 => asAgL a14 fun l15 => dD wI l15 fun s4 r16 => dP (.vec 0) r16 fun r17 => asNil r17 <| dD wI r14 fun s5 r18 => dP (.vec 3) r18 fun r19 => asNil r19 <| asCons r11 fun a20 r20 => asDeep .bool a20 fun s6 l21 => asNil l21 <| asCons r20 fun a22 r22 => asDeep .bool a22 fun s7 l23 => asNil l23 <| asNil r22 <| l18r7 (fun z1 z2 z3 z4 z5 => K (.exit 0) [(6, .ptr 1 0 []), (7, .vec 3)] [.row w0 z1 false, .one w4 (.agg [.agg [I z2, .vec 0], I z3, .vec 2]), .deep .bool z4 [], .deep .bool z5 []]) s1 s2 s3 s4 s5 s6 s7
theorem l18r7v : LoopV E wF (E.info 18).keep 1 Try.f18.ntmps 19000007 (body Try.f18 7) ([1, 6, 7, 8], lsl18r7) := by
  intro vs σ K h0
  obtain ⟨s1, r4, rfl, h8⟩ := cPPPD h0
  obtain ⟨rfl, h9⟩ := cN h8
  obtain ⟨s2, r5, rfl, h11⟩ := cR h9
  obtain ⟨a6, r6, rfl, h12⟩ := asCons_inv h11
  obtain ⟨a7, rfl, h13⟩ := asOne_inv h12
  obtain ⟨l8, rfl, h14⟩ := asAgL_inv h13
  obtain ⟨s3, r10, rfl, h18⟩ := cDP h14
  obtain ⟨rfl, h19⟩ := cN h18
  obtain ⟨a11, r11, rfl, h20⟩ := asCons_inv h19
  obtain ⟨a12, rfl, h21⟩ := asOne_inv h20
  obtain ⟨l13, rfl, h22⟩ := asAgL_inv h21
  obtain ⟨a14, r14, rfl, h23⟩ := asCons_inv h22
  obtain ⟨l15, rfl, h24⟩ := asAgL_inv h23
  obtain ⟨s4, r17, rfl, h28⟩ := cDP h24
  obtain ⟨rfl, h29⟩ := cN h28
  obtain ⟨s5, r19, rfl, h33⟩ := cDP h29
  obtain ⟨rfl, h34⟩ := cN h33
  obtain ⟨a20, r20, rfl, h35⟩ := asCons_inv h34
  obtain ⟨s6, l21, rfl, h36⟩ := asDeep_inv h35
  obtain ⟨rfl, h37⟩ := cN h36
  obtain ⟨a22, r22, rfl, h38⟩ := asCons_inv h37
  obtain ⟨s7, l23, rfl, h39⟩ := asDeep_inv h38
  obtain ⟨rfl, rfl, h41⟩ := cM h39
  intro J hJ
  have hp : ∀ c' ∈ subsOf (E.info 18).keep (body Try.f18 7), SubOK E wF (E.info 18).keep 1 Try.f18.ntmps (lofL Ll18r7) c' := all_eq (by kernel_rfl : subsOf (E.info 18).keep (body Try.f18 7) = [.loop (body Try.f18 10)]) (all_cons (loopOK_of (mk := 19000010) (sl := [1, 6, 7, 8, 9]) (ss := [([1, 6, 7, 8, 9], lsl18r10)]) (by kernel_rfl) (by kernel_rfl) (all_cons l18r10v all_nil)) all_nil)
  exact h41.of (fun s1 s2 s3 s4 s5 s6 s7 => J [(19000007, .undef), (1, .ptr 1 0 []), (6, .ptr 2 0 []), (7, .vec 4), (8, B s1)] [.row w0 s2 false, .one w1 (.agg [I s3, .vec 0]), .one w4 (.agg [.agg [I s4, .vec 0], I s5, .vec 3]), .deep .bool s6 [], .deep .bool s7 []]) (fun s1 s2 s3 s4 s5 s6 s7 hb => loop_round2 nS (inlOK _) hp hJ (by kernel_rfl) hb)
abbrev S18 : wS := [(30, none, sp30), (31, none, sp31)]
theorem hS18 : SpecOK E (ofL S18) := specOK_cons h30 (specOK_cons h31 specOK_nil)
abbrev L18 : wL := [(19000007, [1, 6, 7, 8], none, lsl18r7)]
def sp18 : Sp := fun args τ K => asCons args fun a1 r1 => asAgL a1 fun l2 => dD wI l2 fun x1 r3 => dP (.vec 0) r3 fun r4 => asNil r4 <| asNil r1 <| dR w0 false τ fun x2 r5 => asNil r5 <| c18 x1 x2 (fun z1 z2 z3 z4 => K (.tup [.d (.opq .ptr) z1, .vec 1, I z2]) [.row w0 z3 false, .deep .bool z4 []]) (fun z1 z2 z3 z4 z5 z6 => K (.tup [.ptr 1 0 [], .vec 3, I z1]) [.row w0 z2 false, .one w4 (.agg [.agg [I z3, .vec 0], I z4, .vec 2]), .deep .bool z5 [], .deep .bool z6 []])
theorem h18 : ∀ args τ K, sp18 args τ K → ACall E 18 args τ K := by
  intro args τ K h0
  obtain ⟨a1, r1, rfl, h1⟩ := asCons_inv h0
  obtain ⟨l2, rfl, h2⟩ := asAgL_inv h1
  obtain ⟨x1, r4, rfl, h6⟩ := cDP h2
  obtain ⟨rfl, rfl, h8⟩ := cM h6
  obtain ⟨x2, r5, rfl, h10⟩ := cR h8
  obtain ⟨rfl, h11⟩ := cN h10
  exact ACall.spec2 (fn := Try.f18) (c := codeOf Try.f18) (L := lofL L18) hS18 (by kernel_rfl) (by kernel_rfl) (inlOK _) (all_eq (by kernel_rfl : subsOf (E.info 18).keep (codeOf Try.f18) = [.loop (body Try.f18 7)]) (all_cons (loopOK_of (mk := 19000007) (sl := [1, 6, 7, 8]) (ss := [([1, 6, 7, 8], lsl18r7)]) (by kernel_rfl) (by kernel_rfl) (all_cons l18r7v all_nil)) all_nil)) (by kernel_rfl) h11.of
def lsl11r6 : LSp := fun vs σ K => dD (.opq .ptr) vs fun s1 r1 => dP (.vec 1) r1 fun r2 => dP (.vec 2) r2 fun r3 => dP (.vec 3) r3 fun r4 => dD wI r4 fun s2 r5 => dD wI r5 fun s3 r6 => asNil r6 <| dR w0 false σ fun s4 r7 => asCons r7 fun a8 r8 => asDeep .bool a8 fun s5 l9 => asNil l9 <| asCons r8 fun a10 r10 => asDeep wI a10 fun s6 l11 => asNil l11 <| asCons r10 fun a12 r12 => asDeep wI a12 fun s7 l13 => asNil l13 <| asNil r12 <| l11r6 (fun z1 z2 z3 => K (.exit 0) [(8, .vec 1), (9, .vec 2)] [.row w0 z1 false, .deep wI z2 [], .deep wI z3 []]) s1 s2 s3 s4 s5 s6 s7
theorem l11r6v : LoopV E wF (E.info 11).keep 1 Try.f11.ntmps 12000006 (body Try.f11 6) ([5, 6, 8, 9, 22, 23], lsl11r6) := by
  intro vs σ K h0
  obtain ⟨s1, r4, rfl, h8⟩ := cDPPP h0
  obtain ⟨s2, s3, r6, rfl, h12⟩ := cDD h8
  obtain ⟨rfl, h13⟩ := cN h12
  obtain ⟨s4, r7, rfl, h15⟩ := cR h13
  obtain ⟨a8, r8, rfl, h16⟩ := asCons_inv h15
  obtain ⟨s5, l9, rfl, h17⟩ := asDeep_inv h16
  obtain ⟨rfl, h18⟩ := cN h17
  obtain ⟨a10, r10, rfl, h19⟩ := asCons_inv h18
  obtain ⟨s6, l11, rfl, h20⟩ := asDeep_inv h19
  obtain ⟨rfl, h21⟩ := cN h20
  obtain ⟨a12, r12, rfl, h22⟩ := asCons_inv h21
  obtain ⟨s7, l13, rfl, h23⟩ := asDeep_inv h22
  obtain ⟨rfl, rfl, h25⟩ := cM h23
  intro J hJ
  have hp : ∀ c' ∈ subsOf (E.info 11).keep (body Try.f11 6), SubOK E wF (E.info 11).keep 1 Try.f11.ntmps (lofL nL) c' := all_eq (by kernel_rfl) all_nil
  exact h25.of (fun s1 s2 s3 s4 s5 s6 s7 => J [(12000006, .undef), (5, .d (.opq .ptr) s1), (6, .vec 1), (8, .vec 2), (9, .vec 3), (22, I s2), (23, I s3)] [.row w0 s4 false, .deep .bool s5 [], .deep wI s6 [], .deep wI s7 []]) (fun s1 s2 s3 s4 s5 s6 s7 hb => loop_round2 nS (inlOK _) hp hJ (by kernel_rfl) hb)
def lsl21r3 : LSp := fun vs σ K => dP (.vec 0) vs fun r1 => dD (.sl .bool) r1 fun s1 r2 => dD wI r2 fun s2 r3 => dD wI r3 fun s3 r4 => asNil r4 <| dR wI false σ fun s4 r5 => asNil r5 <| l21r3 (fun z1 => K (.exit 0) [(3, .vec 0)] [.row wI z1 false]) s1 s2 s3 s4
theorem l21r3v : LoopV E wF (E.info 21).keep 0 Try.f21.ntmps 22000003 (body Try.f21 3) ([3, 6, 7, 8], lsl21r3) := by
  intro vs σ K h0
  obtain ⟨s1, s2, s3, r4, rfl, h8⟩ := cPDDD h0
  obtain ⟨rfl, h9⟩ := cN h8
  obtain ⟨s4, r5, rfl, h11⟩ := cR h9
  obtain ⟨rfl, h12⟩ := cN h11
  intro J hJ
  have hp : wH 21 Try.f21 (body Try.f21 3) nL := all_eq (by kernel_rfl) all_nil
  exact h12.of (fun s1 s2 s3 s4 => J [(22000003, .undef), (3, .vec 0), (6, .d (.sl .bool) s1), (7, I s2), (8, I s3)] [.row wI s4 false]) (fun s1 s2 s3 s4 hb => loop_round2 nS (inlOK _) hp hJ (by kernel_rfl) hb)
abbrev L21 : wL := [(22000003, [3, 6, 7, 8], none, lsl21r3)]
def sp21 : Sp := fun args τ K => dD (.sl .bool) args fun x1 r1 => asNil r1 <| asNil τ <| c21 x1 (fun z1 => K (.vec 0) [.row wI z1 false])
theorem h21 : ∀ args τ K, sp21 args τ K → ACall E 21 args τ K := by
  intro args τ K h0
  obtain ⟨x1, r1, rfl, h2⟩ := cD h0
  obtain ⟨rfl, rfl, h4⟩ := cM h2
  exact ACall.spec2 (fn := Try.f21) (c := codeOf Try.f21) (L := lofL L21) nS (by kernel_rfl) (by kernel_rfl) (inlOK _) (all_eq (by kernel_rfl : subsOf (E.info 21).keep (codeOf Try.f21) = [.loop (body Try.f21 3)]) (all_cons (loopOK_of (mk := 22000003) (sl := [3, 6, 7, 8]) (ss := [([3, 6, 7, 8], lsl21r3)]) (by kernel_rfl) (by kernel_rfl) (all_cons l21r3v all_nil)) all_nil)) (by kernel_rfl) h4.of
abbrev Sl11r6v2 : wS := [(21, none, sp21)]
theorem hSl11r6v2 : SpecOK E (ofL Sl11r6v2) := specOK_cons h21 specOK_nil
def lsl11r6v2 : LSp := fun vs σ K => dP (.ptr 1 0 []) vs fun r1 => dP (.vec 3) r1 fun r2 => dP (.vec 4) r2 fun r3 => dP (.vec 5) r3 fun r4 => dD wI r4 fun s1 r5 => dD wI r5 fun s2 r6 => asNil r6 <| dR w0 false σ fun s3 r7 => asCons r7 fun a8 r8 => asOne w4 a8 fun a9 => asAgL a9 fun l10 => asCons l10 fun a11 r11 => asAgL a11 fun l12 => dD wI l12 fun s4 r13 => dP (.vec 0) r13 fun r14 => asNil r14 <| dD wI r11 fun s5 r15 => dP (.vec 2) r15 fun r16 => asNil r16 <| asCons r8 fun a17 r17 => asDeep .bool a17 fun s6 l18 => asNil l18 <| asCons r17 fun a19 r19 => asDeep .bool a19 fun s7 l20 => asNil l20 <| asCons r19 fun a21 r21 => asDeep wI a21 fun s8 l22 => asNil l22 <| asCons r21 fun a23 r23 => asDeep wI a23 fun s9 l24 => asNil l24 <| asNil r23 <| l11r6v2 (fun z1 z2 z3 => K (.exit 0) [(8, .vec 1), (9, .vec 2)] [.row w0 z1 false, .deep wI z2 [], .deep wI z3 []]) s1 s2 s3 s4 s5 s6 s7 s8 s9
theorem l11r6v2v : LoopV E wF (E.info 11).keep 1 Try.f11.ntmps 12000006 (body Try.f11 6) ([5, 6, 8, 9, 22, 23], lsl11r6v2) := by
  intro vs σ K h0
  obtain ⟨r4, rfl, h8⟩ := cPPPP h0
  obtain ⟨s1, s2, r6, rfl, h12⟩ := cDD h8
  obtain ⟨rfl, h13⟩ := cN h12
  obtain ⟨s3, r7, rfl, h15⟩ := cR h13
  obtain ⟨a8, r8, rfl, h16⟩ := asCons_inv h15
  obtain ⟨a9, rfl, h17⟩ := asOne_inv h16
  obtain ⟨l10, rfl, h18⟩ := asAgL_inv h17
  obtain ⟨a11, r11, rfl, h19⟩ := asCons_inv h18
  obtain ⟨l12, rfl, h20⟩ := asAgL_inv h19
  obtain ⟨s4, r14, rfl, h24⟩ := cDP h20
  obtain ⟨rfl, h25⟩ := cN h24
  obtain ⟨s5, r16, rfl, h29⟩ := cDP h25
  obtain ⟨rfl, h30⟩ := cN h29
  obtain ⟨a17, r17, rfl, h31⟩ := asCons_inv h30
  obtain ⟨s6, l18, rfl, h32⟩ := asDeep_inv h31
  obtain ⟨rfl, h33⟩ := cN h32
  obtain ⟨a19, r19, rfl, h34⟩ := asCons_inv h33
  obtain ⟨s7, l20, rfl, h35⟩ := asDeep_inv h34
  obtain ⟨rfl, h36⟩ := cN h35
  obtain ⟨a21, r21, rfl, h37⟩ := asCons_inv h36
  obtain ⟨s8, l22, rfl, h38⟩ := asDeep_inv h37
  obtain ⟨rfl, h39⟩ := cN h38
  obtain ⟨a23, r23, rfl, h40⟩ := asCons_inv h39
  obtain ⟨s9, l24, rfl, h41⟩ := asDeep_inv h40
  obtain ⟨rfl, rfl, h43⟩ := cM h41
  intro J hJ
  have hp : ∀ c' ∈ subsOf (E.info 11).keep (body Try.f11 6), SubOK E wF (E.info 11).keep 1 Try.f11.ntmps (lofL nL) c' := all_eq (by kernel_rfl) all_nil
  exact h43.of (fun s1 s2 s3 s4 s5 s6 s7 s8 s9 => J [(12000006, .undef), (5, .ptr 1 0 []), (6, .vec 3), (8, .vec 4), (9, .vec 5), (22, I s1), (23, I s2)] [.row w0 s3 false, .one w4 (.agg [.agg [I s4, .vec 0], I s5, .vec 2]), .deep .bool s6 [], .deep .bool s7 [], .deep wI s8 [], .deep wI s9 []]) (fun s1 s2 s3 s4 s5 s6 s7 s8 s9 hb => loop_round2 hSl11r6v2 (inlOK _) hp hJ (by kernel_rfl) hb)
abbrev S11 : wS := [(18, none, sp18)]
theorem hS11 : SpecOK E (ofL S11) := specOK_cons h18 specOK_nil
abbrev L11 : wL := [(12000006, [5, 6, 8, 9, 22, 23], some ([.d (.opq .ptr), .fix (.vec 1), .fix (.vec 2), .fix (.vec 3), .d wI, .d wI], [.row w0 false, .deep .bool [], .deep wI [], .deep wI []]), lsl11r6), (12000006, [5, 6, 8, 9, 22, 23], some ([.fix (.ptr 1 0 []), .fix (.vec 3), .fix (.vec 4), .fix (.vec 5), .d wI, .d wI], [.row w0 false, .one w4 (.agg [.agg [.d wI, .fix (.vec 0)], .d wI, .fix (.vec 2)]), .deep .bool [], .deep .bool [], .deep wI [], .deep wI []]), lsl11r6v2)]
def sp11 : Sp := fun args τ K => asCons args fun a1 r1 => asAgL a1 fun l2 => dD wI l2 fun x1 r3 => dP (.vec 0) r3 fun r4 => asNil r4 <| asNil r1 <| dR w0 true τ fun x2 r5 => asNil r5 <| c11 x1 x2 (fun z1 z2 z3 z4 => K (.tup [.vec 1, .vec 2, I z1]) [.row w0 z2 false, .deep wI z3 [], .deep wI z4 []])
theorem h11 : ∀ args τ K, sp11 args τ K → ACall E 11 args τ K := by
  intro args τ K h0
  obtain ⟨a1, r1, rfl, h1⟩ := asCons_inv h0
  obtain ⟨l2, rfl, h2⟩ := asAgL_inv h1
  obtain ⟨x1, r4, rfl, h6⟩ := cDP h2
  obtain ⟨rfl, rfl, h8⟩ := cM h6
  obtain ⟨x2, r5, rfl, h10⟩ := cR h8
  obtain ⟨rfl, h11⟩ := cN h10
  exact ACall.spec2 (fn := Try.f11) (c := codeOf Try.f11) (L := lofL L11) hS11 (by kernel_rfl) (by kernel_rfl) (inlOK _) (all_eq (by kernel_rfl : subsOf (E.info 11).keep (codeOf Try.f11) = [.loop (body Try.f11 6)]) (all_cons (loopOK_of (mk := 12000006) (sl := [5, 6, 8, 9, 22, 23]) (ss := [([5, 6, 8, 9, 22, 23], lsl11r6), ([5, 6, 8, 9, 22, 23], lsl11r6v2)]) (by kernel_rfl) (by kernel_rfl) (all_cons l11r6v (all_cons l11r6v2v all_nil))) all_nil)) (by kernel_rfl) h11.of
def lsl20r1 : LSp := fun vs σ K => dD wI vs fun s1 r1 => dP (.ptr 0 0 []) r1 fun r2 => dP (.ptr 2 0 []) r2 fun r3 => dP (.vec 3) r3 fun r4 => dD wI r4 fun s2 r5 => dD wI r5 fun s3 r6 => asNil r6 <| dQ (.sl (.sl w2)) (.vec 1) σ fun r7 => asCons r7 fun a9 r9 => asDeep w2 a9 fun s4 l10 => asNil l10 <| dO wI wI r9 fun s5 r11 => dR wI false r11 fun s6 r13 => asNil r13 <| l20r1 (fun z1 z2 => K (.exit 0) [] [.one (.sl (.sl w2)) (.vec 1), .deep w2 z1 [], .one wI (I z2)]) s1 s2 s3 s4 s5 s6
theorem l20r1v : LoopV E wF (E.info 20).keep 3 Try.f20.ntmps 21000001 (body Try.f20 1) ([0, 2, 3, 10, 11, 12], lsl20r1) := by
  intro vs σ K h0
  obtain ⟨s1, r4, rfl, h8⟩ := cDPPP h0
  obtain ⟨s2, s3, r6, rfl, h12⟩ := cDD h8
  obtain ⟨rfl, h13⟩ := cN h12
  obtain ⟨r7, rfl, h16⟩ := oP h13
  obtain ⟨a9, r9, rfl, h17⟩ := asCons_inv h16
  obtain ⟨s4, l10, rfl, h18⟩ := asDeep_inv h17
  obtain ⟨rfl, h19⟩ := cN h18
  obtain ⟨s5, r11, rfl, h22⟩ := oD h19
  obtain ⟨s6, r13, rfl, h24⟩ := cR h22
  obtain ⟨rfl, h25⟩ := cN h24
  intro J hJ
  have hp : ∀ c' ∈ subsOf (E.info 20).keep (body Try.f20 1), SubOK E wF (E.info 20).keep 3 Try.f20.ntmps (lofL nL) c' := all_eq (by kernel_rfl) all_nil
  exact h25.of (fun s1 s2 s3 s4 s5 s6 => J [(21000001, .undef), (0, I s1), (2, .ptr 0 0 []), (3, .ptr 2 0 []), (10, .vec 3), (11, I s2), (12, I s3)] [.one (.sl (.sl w2)) (.vec 1), .deep w2 s4 [], .one wI (I s5), .row wI s6 false]) (fun s1 s2 s3 s4 s5 s6 hb => loop_round2 nS (inlOK _) hp hJ (by kernel_rfl) hb)
abbrev S20 : wS := [(21, none, sp21)]
theorem hS20 : SpecOK E (ofL S20) := specOK_cons h21 specOK_nil
abbrev L20 : wL := [(21000001, [0, 2, 3, 10, 11, 12], none, lsl20r1)]
def sp20 : Sp := fun args τ K => dD wI args fun x1 r1 => dD (.sl .bool) r1 fun x2 r2 => dP (.ptr 0 0 []) r2 fun r3 => dP (.ptr 2 0 []) r3 fun r4 => asNil r4 <| dQ (.sl (.sl w2)) (.vec 1) τ fun r5 => asCons r5 fun a7 r7 => asDeep w2 a7 fun x3 l8 => asNil l8 <| dO wI wI r7 fun x4 r9 => asNil r9 <| c20 x1 x2 x3 x4 (fun z1 z2 => K (.tup []) [.one (.sl (.sl w2)) (.vec 1), .deep w2 z1 [], .one wI (I z2)])
theorem h20 : ∀ args τ K, sp20 args τ K → ACall E 20 args τ K := by
  intro args τ K h0
  obtain ⟨x1, x2, r4, rfl, h8⟩ := cDDPP h0
  obtain ⟨rfl, h9⟩ := cN h8
  obtain ⟨r5, rfl, h12⟩ := oP h9
  obtain ⟨a7, r7, rfl, h13⟩ := asCons_inv h12
  obtain ⟨x3, l8, rfl, h14⟩ := asDeep_inv h13
  obtain ⟨rfl, h15⟩ := cN h14
  obtain ⟨x4, r9, rfl, h18⟩ := oD h15
  obtain ⟨rfl, h19⟩ := cN h18
  exact ACall.spec2 (fn := Try.f20) (c := codeOf Try.f20) (L := lofL L20) hS20 (by kernel_rfl) (by kernel_rfl) (inlOK _) (all_eq (by kernel_rfl : subsOf (E.info 20).keep (codeOf Try.f20) = [.loop (body Try.f20 1)]) (all_cons (loopOK_of (mk := 21000001) (sl := [0, 2, 3, 10, 11, 12]) (ss := [([0, 2, 3, 10, 11, 12], lsl20r1)]) (by kernel_rfl) (by kernel_rfl) (all_cons l20r1v all_nil)) all_nil)) (by kernel_rfl) h19.of
def lsl19r12v2 : LSp := fun vs σ K => asCons vs fun a1 r1 => asFn 20 a1 fun l2 l3 => asNil l2 <| dP (.ptr 3 0 []) l3 fun r4 => dP (.ptr 5 0 []) r4 fun r5 => asNil r5 <| dP (.ptr 6 0 []) r1 fun r6 => dP (.vec 7) r6 fun r7 => dD wI r7 fun s1 r8 => dD (.sl wI) r8 fun s2 r9 => dD wI r9 fun s3 r10 => dD wI r10 fun s4 r11 => asNil r11 <| asCons σ fun a12 r12 => asOne w4 a12 fun a13 => asAgL a13 fun l14 => asCons l14 fun a15 r15 => asAgL a15 fun l16 => dD wI l16 fun s5 r17 => dP (.vec 1) r17 fun r18 => asNil r18 <| dD wI r15 fun s6 r19 => dP (.vec 2) r19 fun r20 => asNil r20 <| dR w0 false r12 fun s7 r21 => asCons r21 fun a22 r22 => asDeep .bool a22 fun s8 l23 => asNil l23 <| dQ (.sl (.sl w2)) (.vec 4) r22 fun r24 => asCons r24 fun a26 r26 => asDeep w2 a26 fun s9 l27 => asNil l27 <| dO wI wI r26 fun s10 r28 => dO w0 w0 r28 fun s11 r30 => dR .bool false r30 fun s12 r32 => asNil r32 <| l19r12v2 (fun z1 z2 z3 z4 z5 z6 z7 z8 z9 => K (.exit 2) [(2, .fn 20 [] [.ptr 3 0 [], .ptr 5 0 []]), (7, .ptr 6 0 []), (8, .vec 7), (9, I z1)] [.one w4 (.agg [.agg [I z2, .vec 1], I z3, .vec 2]), .row w0 z4 false, .deep .bool z5 [], .one (.sl (.sl w2)) (.vec 4), .deep w2 z6 [], .one wI (I z7), .one w0 (.d w0 z8), .row .bool z9 false]) s1 s2 s3 s4 s5 s6 s7 s8 s9 s10 s11 s12
theorem l19r12v2v : LoopV E wF (E.info 19).keep 6 Try.f19.ntmps 20000012 (body Try.f19 12) ([2, 7, 8, 9, 54, 55, 56], lsl19r12v2) := by
  intro vs σ K h0
  obtain ⟨a1, r1, rfl, h1⟩ := asCons_inv h0
  obtain ⟨l2, l3, rfl, h2⟩ := asFn_inv h1
  obtain ⟨rfl, h3⟩ := cN h2
  obtain ⟨r5, rfl, h7⟩ := cPP h3
  obtain ⟨rfl, h8⟩ := cN h7
  obtain ⟨s1, s2, r9, rfl, h16⟩ := cPPDD h8
  obtain ⟨s3, s4, r11, rfl, h20⟩ := cDD h16
  obtain ⟨rfl, h21⟩ := cN h20
  obtain ⟨a12, r12, rfl, h22⟩ := asCons_inv h21
  obtain ⟨a13, rfl, h23⟩ := asOne_inv h22
  obtain ⟨l14, rfl, h24⟩ := asAgL_inv h23
  obtain ⟨a15, r15, rfl, h25⟩ := asCons_inv h24
  obtain ⟨l16, rfl, h26⟩ := asAgL_inv h25
  obtain ⟨s5, r18, rfl, h30⟩ := cDP h26
  obtain ⟨rfl, h31⟩ := cN h30
  obtain ⟨s6, r20, rfl, h35⟩ := cDP h31
  obtain ⟨rfl, h36⟩ := cN h35
  obtain ⟨s7, r21, rfl, h38⟩ := cR h36
  obtain ⟨a22, r22, rfl, h39⟩ := asCons_inv h38
  obtain ⟨s8, l23, rfl, h40⟩ := asDeep_inv h39
  obtain ⟨rfl, h41⟩ := cN h40
  obtain ⟨r24, rfl, h44⟩ := oP h41
  obtain ⟨a26, r26, rfl, h45⟩ := asCons_inv h44
  obtain ⟨s9, l27, rfl, h46⟩ := asDeep_inv h45
  obtain ⟨rfl, h47⟩ := cN h46
  obtain ⟨s10, r28, rfl, h50⟩ := oD h47
  obtain ⟨s11, r30, rfl, h53⟩ := oD h50
  obtain ⟨s12, r32, rfl, h55⟩ := cR h53
  obtain ⟨rfl, h56⟩ := cN h55
  intro J hJ
  have hp : ∀ c' ∈ subsOf (E.info 19).keep (body Try.f19 12), SubOK E wF (E.info 19).keep 6 Try.f19.ntmps (lofL nL) c' := all_eq (by kernel_rfl) all_nil
  exact h56.of (fun s1 s2 s3 s4 s5 s6 s7 s8 s9 s10 s11 s12 => J [(20000012, .undef), (2, .fn 20 [] [.ptr 3 0 [], .ptr 5 0 []]), (7, .ptr 6 0 []), (8, .vec 7), (9, I s1), (54, .d (.sl wI) s2), (55, I s3), (56, I s4)] [.one w4 (.agg [.agg [I s5, .vec 1], I s6, .vec 2]), .row w0 s7 false, .deep .bool s8 [], .one (.sl (.sl w2)) (.vec 4), .deep w2 s9 [], .one wI (I s10), .one w0 (.d w0 s11), .row .bool s12 false]) (fun s1 s2 s3 s4 s5 s6 s7 s8 s9 s10 s11 s12 hb => loop_round2 nS (inlOK _) hp hJ (by kernel_rfl) hb)
abbrev Sl19r5v2 : wS := [(20, none, sp20)]
theorem hSl19r5v2 : SpecOK E (ofL Sl19r5v2) := specOK_cons h20 specOK_nil
abbrev Ll19r5v2 : wL := [(20000012, [2, 7, 8, 9, 54, 55, 56], none, lsl19r12v2)]
def lsl19r5v2 : LSp := fun vs σ K => asCons vs fun a1 r1 => asFn 20 a1 fun l2 l3 => asNil l2 <| dP (.ptr 3 0 []) l3 fun r4 => dP (.ptr 5 0 []) r4 fun r5 => asNil r5 <| dP (.ptr 6 0 []) r1 fun r6 => dP (.vec 7) r6 fun r7 => dD wI r7 fun s1 r8 => asNil r8 <| asCons σ fun a9 r9 => asOne w4 a9 fun a10 => asAgL a10 fun l11 => asCons l11 fun a12 r12 => asAgL a12 fun l13 => dD wI l13 fun s2 r14 => dP (.vec 1) r14 fun r15 => asNil r15 <| dD wI r12 fun s3 r16 => dP (.vec 2) r16 fun r17 => asNil r17 <| dR w0 false r9 fun s4 r18 => asCons r18 fun a19 r19 => asDeep .bool a19 fun s5 l20 => asNil l20 <| dQ (.sl (.sl w2)) (.vec 4) r19 fun r21 => asCons r21 fun a23 r23 => asDeep w2 a23 fun s6 l24 => asNil l24 <| dO wI wI r23 fun s7 r25 => dO w0 w0 r25 fun s8 r27 => dR .bool false r27 fun s9 r29 => asNil r29 <| l19r5v2 (fun z1 z2 z3 z4 z5 z6 z7 => K .ret [(6, .vec 6)] [.one w4 (.agg [.agg [I z1, .vec 1], I z2, .vec 2]), .row w0 z3 false, .deep .bool z4 [], .one (.sl (.sl w2)) (.vec 4), .deep w2 z5 [], .one wI (I z6), .row .bool z7 false]) s1 s2 s3 s4 s5 s6 s7 s8 s9
theorem l19r5v2v : LoopV E wF (E.info 19).keep 6 Try.f19.ntmps 20000005 (body Try.f19 5) ([2, 7, 8, 9], lsl19r5v2) := by
  intro vs σ K h0
  obtain ⟨a1, r1, rfl, h1⟩ := asCons_inv h0
  obtain ⟨l2, l3, rfl, h2⟩ := asFn_inv h1
  obtain ⟨rfl, h3⟩ := cN h2
  obtain ⟨r5, rfl, h7⟩ := cPP h3
  obtain ⟨rfl, h8⟩ := cN h7
  obtain ⟨s1, r8, rfl, h14⟩ := cPPD h8
  obtain ⟨rfl, h15⟩ := cN h14
  obtain ⟨a9, r9, rfl, h16⟩ := asCons_inv h15
  obtain ⟨a10, rfl, h17⟩ := asOne_inv h16
  obtain ⟨l11, rfl, h18⟩ := asAgL_inv h17
  obtain ⟨a12, r12, rfl, h19⟩ := asCons_inv h18
  obtain ⟨l13, rfl, h20⟩ := asAgL_inv h19
  obtain ⟨s2, r15, rfl, h24⟩ := cDP h20
  obtain ⟨rfl, h25⟩ := cN h24
  obtain ⟨s3, r17, rfl, h29⟩ := cDP h25
  obtain ⟨rfl, h30⟩ := cN h29
  obtain ⟨s4, r18, rfl, h32⟩ := cR h30
  obtain ⟨a19, r19, rfl, h33⟩ := asCons_inv h32
  obtain ⟨s5, l20, rfl, h34⟩ := asDeep_inv h33
  obtain ⟨rfl, h35⟩ := cN h34
  obtain ⟨r21, rfl, h38⟩ := oP h35
  obtain ⟨a23, r23, rfl, h39⟩ := asCons_inv h38
  obtain ⟨s6, l24, rfl, h40⟩ := asDeep_inv h39
  obtain ⟨rfl, h41⟩ := cN h40
  obtain ⟨s7, r25, rfl, h44⟩ := oD h41
  obtain ⟨s8, r27, rfl, h47⟩ := oD h44
  obtain ⟨s9, r29, rfl, h49⟩ := cR h47
  obtain ⟨rfl, h50⟩ := cN h49
  intro J hJ
  have hp : ∀ c' ∈ subsOf (E.info 19).keep (body Try.f19 5), SubOK E wF (E.info 19).keep 6 Try.f19.ntmps (lofL Ll19r5v2) c' := all_eq (by kernel_rfl : subsOf (E.info 19).keep (body Try.f19 5) = [.loop (body Try.f19 12)]) (all_cons (loopOK_of (mk := 20000012) (sl := [2, 7, 8, 9, 54, 55, 56]) (ss := [([2, 7, 8, 9, 54, 55, 56], lsl19r12v2)]) (by kernel_rfl) (by kernel_rfl) (all_cons l19r12v2v all_nil)) all_nil)
  exact h50.of (fun s1 s2 s3 s4 s5 s6 s7 s8 s9 => J [(20000005, .undef), (2, .fn 20 [] [.ptr 3 0 [], .ptr 5 0 []]), (7, .ptr 6 0 []), (8, .vec 7), (9, I s1)] [.one w4 (.agg [.agg [I s2, .vec 1], I s3, .vec 2]), .row w0 s4 false, .deep .bool s5 [], .one (.sl (.sl w2)) (.vec 4), .deep w2 s6 [], .one wI (I s7), .one w0 (.d w0 s8), .row .bool s9 false]) (fun s1 s2 s3 s4 s5 s6 s7 s8 s9 hb => loop_round2 hSl19r5v2 (inlOK _) hp hJ (by kernel_rfl) hb)
abbrev S19v2 : wS := [(34, none, sp34)]
theorem hS19v2 : SpecOK E (ofL S19v2) := specOK_cons h34 specOK_nil
abbrev L19v2 : wL := [(20000005, [2, 7, 8, 9], none, lsl19r5v2)]
def sp19v2 : Sp := fun args τ K => dP (.ptr 0 0 []) args fun r1 => dD wI r1 fun x1 r2 => asCons r2 fun a3 r3 => asFn 20 a3 fun l4 l5 => asNil l4 <| dP (.ptr 3 0 []) l5 fun r6 => dP (.ptr 5 0 []) r6 fun r7 => asNil r7 <| asNil r3 <| asCons τ fun a8 r8 => asOne w4 a8 fun a9 => asAgL a9 fun l10 => asCons l10 fun a11 r11 => asAgL a11 fun l12 => dD wI l12 fun x2 r13 => dP (.vec 1) r13 fun r14 => asNil r14 <| dD wI r11 fun x3 r15 => dP (.vec 2) r15 fun r16 => asNil r16 <| dR w0 false r8 fun x4 r17 => asCons r17 fun a18 r18 => asDeep .bool a18 fun x5 l19 => asNil l19 <| dQ (.sl (.sl w2)) (.vec 4) r18 fun r20 => asCons r20 fun a22 r22 => asDeep w2 a22 fun x6 l23 => asNil l23 <| dO wI wI r22 fun x7 r24 => asNil r24 <| c19v2 x1 x2 x3 x4 x5 x6 x7 (fun z1 z2 z3 z4 z5 z6 z7 => K (.vec 6) [.one w4 (.agg [.agg [I z1, .vec 1], I z2, .vec 2]), .row w0 z3 false, .deep .bool z4 [], .one (.sl (.sl w2)) (.vec 4), .deep w2 z5 [], .one wI (I z6), .row .bool z7 false])
theorem h19v2 : ∀ args τ K, sp19v2 args τ K → ACall E 19 args τ K := by
  intro args τ K h0
  obtain ⟨x1, r2, rfl, h4⟩ := cPD h0
  obtain ⟨a3, r3, rfl, h5⟩ := asCons_inv h4
  obtain ⟨l4, l5, rfl, h6⟩ := asFn_inv h5
  obtain ⟨rfl, h7⟩ := cN h6
  obtain ⟨r7, rfl, h11⟩ := cPP h7
  obtain ⟨rfl, rfl, h13⟩ := cM h11
  obtain ⟨a8, r8, rfl, h14⟩ := asCons_inv h13
  obtain ⟨a9, rfl, h15⟩ := asOne_inv h14
  obtain ⟨l10, rfl, h16⟩ := asAgL_inv h15
  obtain ⟨a11, r11, rfl, h17⟩ := asCons_inv h16
  obtain ⟨l12, rfl, h18⟩ := asAgL_inv h17
  obtain ⟨x2, r14, rfl, h22⟩ := cDP h18
  obtain ⟨rfl, h23⟩ := cN h22
  obtain ⟨x3, r16, rfl, h27⟩ := cDP h23
  obtain ⟨rfl, h28⟩ := cN h27
  obtain ⟨x4, r17, rfl, h30⟩ := cR h28
  obtain ⟨a18, r18, rfl, h31⟩ := asCons_inv h30
  obtain ⟨x5, l19, rfl, h32⟩ := asDeep_inv h31
  obtain ⟨rfl, h33⟩ := cN h32
  obtain ⟨r20, rfl, h36⟩ := oP h33
  obtain ⟨a22, r22, rfl, h37⟩ := asCons_inv h36
  obtain ⟨x6, l23, rfl, h38⟩ := asDeep_inv h37
  obtain ⟨rfl, h39⟩ := cN h38
  obtain ⟨x7, r24, rfl, h42⟩ := oD h39
  obtain ⟨rfl, h43⟩ := cN h42
  exact ACall.spec2 (fn := Try.f19) (c := codeOf Try.f19) (L := lofL L19v2) hS19v2 (by kernel_rfl) (by kernel_rfl) (inlOK _) (all_eq (by kernel_rfl : subsOf (E.info 19).keep (codeOf Try.f19) = [.loop (body Try.f19 5)]) (all_cons (loopOK_of (mk := 20000005) (sl := [2, 7, 8, 9]) (ss := [([2, 7, 8, 9], lsl19r5v2)]) (by kernel_rfl) (by kernel_rfl) (all_cons l19r5v2v all_nil)) all_nil)) (by kernel_rfl) h43.of
abbrev Sl8r6 : wS := [(19, none, sp19v2)]
theorem hSl8r6 : SpecOK E (ofL Sl8r6) := specOK_cons h19v2 specOK_nil
def lsl8r6 : LSp := fun vs σ K => dP (.ptr 1 0 []) vs fun r1 => dP (.ptr 3 0 []) r1 fun r2 => dD wI r2 fun s1 r3 => dD wI r3 fun s2 r4 => asNil r4 <| dR w0 false σ fun s3 r5 => asCons r5 fun a6 r6 => asOne w4 a6 fun a7 => asAgL a7 fun l8 => asCons l8 fun a9 r9 => asAgL a9 fun l10 => dD wI l10 fun s4 r11 => dP (.vec 0) r11 fun r12 => asNil r12 <| dD wI r9 fun s5 r13 => dP (.vec 2) r13 fun r14 => asNil r14 <| asCons r6 fun a15 r15 => asDeep .bool a15 fun s6 l16 => asNil l16 <| dQ (.sl (.sl w2)) (.vec 4) r15 fun r17 => asCons r17 fun a19 r19 => asDeep w2 a19 fun s7 l20 => asNil l20 <| asNil r19 <| l8r6 (fun z1 z2 => K (.exit 0) [(7, .ptr 1 0 [])] [.row w0 z1 false, .one (.sl (.sl w2)) (.vec 2), .deep w2 z2 []]) s1 s2 s3 s4 s5 s6 s7
theorem l8r6v : LoopV E wF (E.info 8).keep 1 Try.f8.ntmps 9000006 (body Try.f8 6) ([4, 7, 25, 26], lsl8r6) := by
  intro vs σ K h0
  obtain ⟨s1, s2, r4, rfl, h8⟩ := cPPDD h0
  obtain ⟨rfl, h9⟩ := cN h8
  obtain ⟨s3, r5, rfl, h11⟩ := cR h9
  obtain ⟨a6, r6, rfl, h12⟩ := asCons_inv h11
  obtain ⟨a7, rfl, h13⟩ := asOne_inv h12
  obtain ⟨l8, rfl, h14⟩ := asAgL_inv h13
  obtain ⟨a9, r9, rfl, h15⟩ := asCons_inv h14
  obtain ⟨l10, rfl, h16⟩ := asAgL_inv h15
  obtain ⟨s4, r12, rfl, h20⟩ := cDP h16
  obtain ⟨rfl, h21⟩ := cN h20
  obtain ⟨s5, r14, rfl, h25⟩ := cDP h21
  obtain ⟨rfl, h26⟩ := cN h25
  obtain ⟨a15, r15, rfl, h27⟩ := asCons_inv h26
  obtain ⟨s6, l16, rfl, h28⟩ := asDeep_inv h27
  obtain ⟨rfl, h29⟩ := cN h28
  obtain ⟨r17, rfl, h32⟩ := oP h29
  obtain ⟨a19, r19, rfl, h33⟩ := asCons_inv h32
  obtain ⟨s7, l20, rfl, h34⟩ := asDeep_inv h33
  obtain ⟨rfl, rfl, h36⟩ := cM h34
  intro J hJ
  have hp : ∀ c' ∈ subsOf (E.info 8).keep (body Try.f8 6), SubOK E wF (E.info 8).keep 1 Try.f8.ntmps (lofL nL) c' := all_eq (by kernel_rfl) all_nil
  exact h36.of (fun s1 s2 s3 s4 s5 s6 s7 => J [(9000006, .undef), (4, .ptr 1 0 []), (7, .ptr 3 0 []), (25, I s1), (26, I s2)] [.row w0 s3 false, .one w4 (.agg [.agg [I s4, .vec 0], I s5, .vec 2]), .deep .bool s6 [], .one (.sl (.sl w2)) (.vec 4), .deep w2 s7 []]) (fun s1 s2 s3 s4 s5 s6 s7 hb => loop_round2 hSl8r6 (inlOK _) hp hJ (by kernel_rfl) hb)
def lsl22r3 : LSp := fun vs σ K => dP (.vec 0) vs fun r1 => dD wI r1 fun s1 r2 => dP (.vec 0) r2 fun r3 => dD wI r3 fun s2 r4 => dD wI r4 fun s3 r5 => asNil r5 <| asCons σ fun a6 r6 => asDeep w2 a6 fun s4 l7 => asNil l7 <| asNil r6 <| l22r3 (fun z1 z2 => K (.exit 0) [(0, .vec 0), (3, I z1)] [.deep w2 z2 []]) s1 s2 s3 s4
theorem l22r3v : LoopV E wF (E.info 22).keep 1 Try.f22.ntmps 23000003 (body Try.f22 3) ([0, 3, 9, 10, 11], lsl22r3) := by
  intro vs σ K h0
  obtain ⟨s1, s2, r4, rfl, h8⟩ := cPDPD h0
  obtain ⟨s3, r5, rfl, h10⟩ := cD h8
  obtain ⟨rfl, h11⟩ := cN h10
  obtain ⟨a6, r6, rfl, h12⟩ := asCons_inv h11
  obtain ⟨s4, l7, rfl, h13⟩ := asDeep_inv h12
  obtain ⟨rfl, rfl, h15⟩ := cM h13
  intro J hJ
  have hp : ∀ c' ∈ subsOf (E.info 22).keep (body Try.f22 3), SubOK E wF (E.info 22).keep 1 Try.f22.ntmps (lofL nL) c' := all_eq (by kernel_rfl) all_nil
  exact h15.of (fun s1 s2 s3 s4 => J [(23000003, .undef), (0, .vec 0), (3, I s1), (9, .vec 0), (10, I s2), (11, I s3)] [.deep w2 s4 []]) (fun s1 s2 s3 s4 hb => loop_round2 nS (inlOK _) hp hJ (by kernel_rfl) hb)
def sp35 : Sp := fun args τ K => dP (.nils w2) args fun r1 => dD wI r1 fun x1 r2 => asNil r2 <| asNil τ <| c35 x1 (fun z1 z2 z3 z4 => K (.sl 0 z1 z2 z3 false) [.row w2 z4 false]) (fun z1 => K (.vec 0) [.row w2 z1 false])
theorem h35 : ∀ args τ K, sp35 args τ K → ACall E 35 args τ K := by
  intro args τ K h0
  obtain ⟨x1, r2, rfl, h4⟩ := cPD h0
  obtain ⟨rfl, rfl, h6⟩ := cM h4
  exact ACall.spec2 (fn := Try.f35) (c := codeOf Try.f35) (L := lofL nL) nS (by kernel_rfl) (by kernel_rfl) (inlOK _) (all_eq (by kernel_rfl) all_nil) (by kernel_rfl) h6.of
def lsl22r11 : LSp := fun vs σ K => asCons vs fun a1 r1 => asSl 1 false a1 fun s1 s2 s3 => dP (.vec 0) r1 fun r2 => dD wI r2 fun s4 r3 => dD wI r3 fun s5 r4 => asNil r4 <| asCons σ fun a5 r5 => asDeep w2 a5 fun s6 l6 => asNil l6 <| dR w2 false r5 fun s7 r7 => asNil r7 <| l22r11 (fun z1 z2 z3 z4 z5 => K (.exit 2) [(6, .sl 1 z1 z2 z3 false)] [.deep w2 z4 [], .row w2 z5 false]) (fun z1 z2 => K (.exit 2) [(6, .vec 1)] [.deep w2 z1 [], .row w2 z2 false]) s1 s2 s3 s4 s5 s6 s7
theorem l22r11v : LoopV E wF (E.info 22).keep 1 Try.f22.ntmps 23000011 (body Try.f22 11) ([6, 25, 26, 27], lsl22r11) := by
  intro vs σ K h0
  obtain ⟨a1, r1, rfl, h1⟩ := asCons_inv h0
  obtain ⟨s1, s2, s3, rfl, h2⟩ := asSl_inv h1
  obtain ⟨s4, s5, r4, rfl, h8⟩ := cPDD h2
  obtain ⟨rfl, h9⟩ := cN h8
  obtain ⟨a5, r5, rfl, h10⟩ := asCons_inv h9
  obtain ⟨s6, l6, rfl, h11⟩ := asDeep_inv h10
  obtain ⟨rfl, h12⟩ := cN h11
  obtain ⟨s7, r7, rfl, h14⟩ := cR h12
  obtain ⟨rfl, h15⟩ := cN h14
  intro J hJ
  have hp : ∀ c' ∈ subsOf (E.info 22).keep (body Try.f22 11), SubOK E wF (E.info 22).keep 1 Try.f22.ntmps (lofL nL) c' := all_eq (by kernel_rfl) all_nil
  exact h15.of (fun s1 s2 s3 s4 s5 s6 s7 => J [(23000011, .undef), (6, .sl 1 s1 s2 s3 false), (25, .vec 0), (26, I s4), (27, I s5)] [.deep w2 s6 [], .row w2 s7 false]) (fun s10 s11 s12 s13 => J [(23000011, .undef), (6, .vec 1), (25, .vec 0), (26, I s10), (27, I s11)] [.deep w2 s12 [], .row w2 s13 false]) (fun s1 s2 s3 s4 s5 s6 s7 hb => loop_round2 nS (inlOK _) hp hJ (by kernel_rfl) hb) (fun s10 s11 s12 s13 hb => loop_round2 nS (inlOK _) hp hJ (by kernel_rfl) hb)
def lsl22r11v2 : LSp := fun vs σ K => dP (.vec 1) vs fun r1 => dP (.vec 0) r1 fun r2 => dD wI r2 fun s1 r3 => dD wI r3 fun s2 r4 => asNil r4 <| asCons σ fun a5 r5 => asDeep w2 a5 fun s3 l6 => asNil l6 <| dR w2 false r5 fun s4 r7 => asNil r7 <| l22r11v2 (fun z1 z2 => K (.exit 2) [(6, .vec 1)] [.deep w2 z1 [], .row w2 z2 false]) s1 s2 s3 s4
theorem l22r11v2v : LoopV E wF (E.info 22).keep 1 Try.f22.ntmps 23000011 (body Try.f22 11) ([6, 25, 26, 27], lsl22r11v2) := by
  intro vs σ K h0
  obtain ⟨s1, s2, r4, rfl, h8⟩ := cPPDD h0
  obtain ⟨rfl, h9⟩ := cN h8
  obtain ⟨a5, r5, rfl, h10⟩ := asCons_inv h9
  obtain ⟨s3, l6, rfl, h11⟩ := asDeep_inv h10
  obtain ⟨rfl, h12⟩ := cN h11
  obtain ⟨s4, r7, rfl, h14⟩ := cR h12
  obtain ⟨rfl, h15⟩ := cN h14
  intro J hJ
  have hp : ∀ c' ∈ subsOf (E.info 22).keep (body Try.f22 11), SubOK E wF (E.info 22).keep 1 Try.f22.ntmps (lofL nL) c' := all_eq (by kernel_rfl) all_nil
  exact h15.of (fun s1 s2 s3 s4 => J [(23000011, .undef), (6, .vec 1), (25, .vec 0), (26, I s1), (27, I s2)] [.deep w2 s3 [], .row w2 s4 false]) (fun s1 s2 s3 s4 hb => loop_round2 nS (inlOK _) hp hJ (by kernel_rfl) hb)
abbrev S22 : wS := [(35, none, sp35)]
theorem hS22 : SpecOK E (ofL S22) := specOK_cons h35 specOK_nil
abbrev L22 : wL := [(23000003, [0, 3, 9, 10, 11], none, lsl22r3), (23000011, [6, 25, 26, 27], some ([.sl 1 false, .fix (.vec 0), .d wI, .d wI], [.deep w2 [], .row w2 false]), lsl22r11), (23000011, [6, 25, 26, 27], some ([.fix (.vec 1), .fix (.vec 0), .d wI, .d wI], [.deep w2 [], .row w2 false]), lsl22r11v2)]
def sp22 : Sp := fun args τ K => dP (.vec 0) args fun r1 => asNil r1 <| asCons τ fun a2 r2 => asDeep w2 a2 fun x1 l3 => asNil l3 <| asNil r2 <| c22 x1 (fun z1 z2 z3 z4 z5 => K (.sl 1 z1 z2 z3 false) [.deep w2 z4 [], .row w2 z5 false]) (fun z1 z2 => K (.vec 1) [.deep w2 z1 [], .row w2 z2 false])
theorem h22 : ∀ args τ K, sp22 args τ K → ACall E 22 args τ K := by
  intro args τ K h0
  obtain ⟨r1, rfl, h2⟩ := cP h0
  obtain ⟨rfl, h3⟩ := cN h2
  obtain ⟨a2, r2, rfl, h4⟩ := asCons_inv h3
  obtain ⟨x1, l3, rfl, h5⟩ := asDeep_inv h4
  obtain ⟨rfl, rfl, h7⟩ := cM h5
  exact ACall.spec2 (fn := Try.f22) (c := codeOf Try.f22) (L := lofL L22) hS22 (by kernel_rfl) (by kernel_rfl) (inlOK _) (all_eq (by kernel_rfl : subsOf (E.info 22).keep (codeOf Try.f22) = [.loop (body Try.f22 3), .loop (body Try.f22 11)]) (all_cons (loopOK_of (mk := 23000003) (sl := [0, 3, 9, 10, 11]) (ss := [([0, 3, 9, 10, 11], lsl22r3)]) (by kernel_rfl) (by kernel_rfl) (all_cons l22r3v all_nil)) (all_cons (loopOK_of (mk := 23000011) (sl := [6, 25, 26, 27]) (ss := [([6, 25, 26, 27], lsl22r11), ([6, 25, 26, 27], lsl22r11v2)]) (by kernel_rfl) (by kernel_rfl) (all_cons l22r11v (all_cons l22r11v2v all_nil))) all_nil))) (by kernel_rfl) h7.of
abbrev S8 : wS := [(18, none, sp18), (22, none, sp22)]
theorem hS8 : SpecOK E (ofL S8) := specOK_cons h18 (specOK_cons h22 specOK_nil)
abbrev L8 : wL := [(9000006, [4, 7, 25, 26], none, lsl8r6)]
def sp8 : Sp := fun args τ K => asCons args fun a1 r1 => asAgL a1 fun l2 => dD wI l2 fun x1 r3 => dP (.vec 0) r3 fun r4 => asNil r4 <| asNil r1 <| dR w0 false τ fun x2 r5 => asNil r5 <| c8 x1 x2 (fun z1 z2 z3 => K (.tup [.vec 1, I z1]) [.row w0 z2 false, .row w2 z3 false]) (fun z1 z2 z3 z4 z5 z6 => K (.tup [.sl 1 z1 z2 z3 false, I z4]) [.row w0 z5 false, .row w2 z6 false])
theorem h8 : ∀ args τ K, sp8 args τ K → ACall E 8 args τ K := by
  intro args τ K h0
  obtain ⟨a1, r1, rfl, h1⟩ := asCons_inv h0
  obtain ⟨l2, rfl, h2⟩ := asAgL_inv h1
  obtain ⟨x1, r4, rfl, h6⟩ := cDP h2
  obtain ⟨rfl, rfl, h8⟩ := cM h6
  obtain ⟨x2, r5, rfl, h10⟩ := cR h8
  obtain ⟨rfl, h11⟩ := cN h10
  exact ACall.spec2 (fn := Try.f8) (c := codeOf Try.f8) (L := lofL L8) hS8 (by kernel_rfl) (by kernel_rfl) (inlOK _) (all_eq (by kernel_rfl : subsOf (E.info 8).keep (codeOf Try.f8) = [.loop (body Try.f8 6)]) (all_cons (loopOK_of (mk := 9000006) (sl := [4, 7, 25, 26]) (ss := [([4, 7, 25, 26], lsl8r6)]) (by kernel_rfl) (by kernel_rfl) (all_cons l8r6v all_nil)) all_nil)) (by kernel_rfl) h11.of
def lsl25r4 : LSp := fun vs σ K => dD (.sl wI) vs fun s1 r1 => dD (.sl wI) r1 fun s2 r2 => dD wI r2 fun s3 r3 => dD wI r3 fun s4 r4 => asNil r4 <| asNil σ <| l25r4 (fun z1 => K .ret [(4, B z1)] []) (K (.exit 0) [(4, .undef)] []) s1 s2 s3 s4
theorem l25r4v : LoopV E wF (E.info 25).keep 0 Try.f25.ntmps 26000004 (body Try.f25 4) ([1, 12, 13, 14], lsl25r4) := by
  intro vs σ K h0
  obtain ⟨s1, s2, s3, s4, r4, rfl, h8⟩ := cDDDD h0
  obtain ⟨rfl, rfl, h10⟩ := cM h8
  intro J hJ
  have hp : wH 25 Try.f25 (body Try.f25 4) nL := all_eq (by kernel_rfl) all_nil
  exact h10.of (fun s1 s2 s3 s4 => J [(26000004, .undef), (1, .d (.sl wI) s1), (12, .d (.sl wI) s2), (13, I s3), (14, I s4)] []) (fun s1 s2 s3 s4 hb => loop_round2 nS (inlOK _) hp hJ (by kernel_rfl) hb)
abbrev L25 : wL := [(26000004, [1, 12, 13, 14], none, lsl25r4)]
def sp25 : Sp := fun args τ K => dD (.sl wI) args fun x1 r1 => dD (.sl wI) r1 fun x2 r2 => asNil r2 <| asNil τ <| c25 x1 x2 (fun z1 => K (B z1) [])
theorem h25 : ∀ args τ K, sp25 args τ K → ACall E 25 args τ K := by
  intro args τ K h0
  obtain ⟨x1, x2, r2, rfl, h4⟩ := cDD h0
  obtain ⟨rfl, rfl, h6⟩ := cM h4
  exact ACall.spec2 (fn := Try.f25) (c := codeOf Try.f25) (L := lofL L25) nS (by kernel_rfl) (by kernel_rfl) (inlOK _) (all_eq (by kernel_rfl : subsOf (E.info 25).keep (codeOf Try.f25) = [.loop (body Try.f25 4)]) (all_cons (loopOK_of (mk := 26000004) (sl := [1, 12, 13, 14]) (ss := [([1, 12, 13, 14], lsl25r4)]) (by kernel_rfl) (by kernel_rfl) (all_cons l25r4v all_nil)) all_nil)) (by kernel_rfl) h6.of
abbrev Sl12r4 : wS := [(25, none, sp25)]
theorem hSl12r4 : SpecOK E (ofL Sl12r4) := specOK_cons h25 specOK_nil
def lsl12r4 : LSp := fun vs σ K => dP (.vec 1) vs fun r1 => dP (.vec 0) r1 fun r2 => dD wI r2 fun s1 r3 => dD wI r3 fun s2 r4 => asNil r4 <| asCons σ fun a5 r5 => asDeep wI a5 fun s3 l6 => asNil l6 <| asCons r5 fun a7 r7 => asDeep wI a7 fun s4 l8 => asNil l8 <| asNil r7 <| l12r4 (fun z1 z2 z3 => K .ret [(4, B z1)] [.deep wI z2 [], .deep wI z3 []]) (fun z1 z2 => K (.exit 0) [(4, .undef)] [.deep wI z1 [], .deep wI z2 []]) s1 s2 s3 s4
theorem l12r4v : LoopV E wF (E.info 12).keep 2 Try.f12.ntmps 13000004 (body Try.f12 4) ([1, 12, 13, 14], lsl12r4) := by
  intro vs σ K h0
  obtain ⟨s1, s2, r4, rfl, h8⟩ := cPPDD h0
  obtain ⟨rfl, h9⟩ := cN h8
  obtain ⟨a5, r5, rfl, h10⟩ := asCons_inv h9
  obtain ⟨s3, l6, rfl, h11⟩ := asDeep_inv h10
  obtain ⟨rfl, h12⟩ := cN h11
  obtain ⟨a7, r7, rfl, h13⟩ := asCons_inv h12
  obtain ⟨s4, l8, rfl, h14⟩ := asDeep_inv h13
  obtain ⟨rfl, rfl, h16⟩ := cM h14
  intro J hJ
  have hp : ∀ c' ∈ subsOf (E.info 12).keep (body Try.f12 4), SubOK E wF (E.info 12).keep 2 Try.f12.ntmps (lofL nL) c' := all_eq (by kernel_rfl) all_nil
  exact h16.of (fun s1 s2 s3 s4 => J [(13000004, .undef), (1, .vec 1), (12, .vec 0), (13, I s1), (14, I s2)] [.deep wI s3 [], .deep wI s4 []]) (fun s1 s2 s3 s4 hb => loop_round2 hSl12r4 (inlOK _) hp hJ (by kernel_rfl) hb)
abbrev L12 : wL := [(13000004, [1, 12, 13, 14], none, lsl12r4)]
def sp12 : Sp := fun args τ K => dP (.vec 0) args fun r1 => dP (.vec 1) r1 fun r2 => asNil r2 <| asCons τ fun a3 r3 => asDeep wI a3 fun x1 l4 => asNil l4 <| asCons r3 fun a5 r5 => asDeep wI a5 fun x2 l6 => asNil l6 <| asNil r5 <| c12 x1 x2 (fun z1 z2 z3 => K (B z1) [.deep wI z2 [], .deep wI z3 []])
theorem h12 : ∀ args τ K, sp12 args τ K → ACall E 12 args τ K := by
  intro args τ K h0
  obtain ⟨r2, rfl, h4⟩ := cPP h0
  obtain ⟨rfl, h5⟩ := cN h4
  obtain ⟨a3, r3, rfl, h6⟩ := asCons_inv h5
  obtain ⟨x1, l4, rfl, h7⟩ := asDeep_inv h6
  obtain ⟨rfl, h8⟩ := cN h7
  obtain ⟨a5, r5, rfl, h9⟩ := asCons_inv h8
  obtain ⟨x2, l6, rfl, h10⟩ := asDeep_inv h9
  obtain ⟨rfl, rfl, h12⟩ := cM h10
  exact ACall.spec2 (fn := Try.f12) (c := codeOf Try.f12) (L := lofL L12) nS (by kernel_rfl) (by kernel_rfl) (inlOK _) (all_eq (by kernel_rfl : subsOf (E.info 12).keep (codeOf Try.f12) = [.loop (body Try.f12 4)]) (all_cons (loopOK_of (mk := 13000004) (sl := [1, 12, 13, 14]) (ss := [([1, 12, 13, 14], lsl12r4)]) (by kernel_rfl) (by kernel_rfl) (all_cons l12r4v all_nil)) all_nil)) (by kernel_rfl) h12.of
abbrev Sl12r4v2 : wS := [(25, none, sp25)]
theorem hSl12r4v2 : SpecOK E (ofL Sl12r4v2) := specOK_cons h25 specOK_nil
def lsl12r4v2 : LSp := fun vs σ K => dP (.vec 1) vs fun r1 => dP (.vec 0) r1 fun r2 => dD wI r2 fun s1 r3 => dD wI r3 fun s2 r4 => asNil r4 <| asCons σ fun a5 r5 => asDeep wI a5 fun s3 l6 => asNil l6 <| asCons r5 fun a7 r7 => asDeep wI a7 fun s4 l8 => asCons l8 fun a9 r9 => asHole 2 a9 fun s5 => asNil r9 <| dR wI false r7 fun s6 r10 => asNil r10 <| l12r4v2 (fun z1 z2 z3 z4 z5 => K .ret [(4, B z1)] [.deep wI z2 [], .deep wI z3 [(z4, 2)], .row wI z5 false]) (fun z1 z2 z3 z4 => K (.exit 0) [(4, .undef)] [.deep wI z1 [], .deep wI z2 [(z3, 2)], .row wI z4 false]) s1 s2 s3 s4 s5 s6
theorem l12r4v2v : LoopV E wF (E.info 12).keep 3 Try.f12.ntmps 13000004 (body Try.f12 4) ([1, 12, 13, 14], lsl12r4v2) := by
  intro vs σ K h0
  obtain ⟨s1, s2, r4, rfl, h8⟩ := cPPDD h0
  obtain ⟨rfl, h9⟩ := cN h8
  obtain ⟨a5, r5, rfl, h10⟩ := asCons_inv h9
  obtain ⟨s3, l6, rfl, h11⟩ := asDeep_inv h10
  obtain ⟨rfl, h12⟩ := cN h11
  obtain ⟨a7, r7, rfl, h13⟩ := asCons_inv h12
  obtain ⟨s4, l8, rfl, h14⟩ := asDeep_inv h13
  obtain ⟨a9, r9, rfl, h15⟩ := asCons_inv h14
  obtain ⟨s5, rfl, h16⟩ := asHole_inv h15
  obtain ⟨rfl, h17⟩ := cN h16
  obtain ⟨s6, r10, rfl, h19⟩ := cR h17
  obtain ⟨rfl, h20⟩ := cN h19
  intro J hJ
  have hp : ∀ c' ∈ subsOf (E.info 12).keep (body Try.f12 4), SubOK E wF (E.info 12).keep 3 Try.f12.ntmps (lofL nL) c' := all_eq (by kernel_rfl) all_nil
  exact h20.of (fun s1 s2 s3 s4 s5 s6 => J [(13000004, .undef), (1, .vec 1), (12, .vec 0), (13, I s1), (14, I s2)] [.deep wI s3 [], .deep wI s4 [(s5, 2)], .row wI s6 false]) (fun s1 s2 s3 s4 s5 s6 hb => loop_round2 hSl12r4v2 (inlOK _) hp hJ (by kernel_rfl) hb)
end Go.Proofs.Ytgbmfhchieahjaa
