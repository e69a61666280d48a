/- The functions compute that (printed by a program). -/
import Derived.Test.YtmnidkbkmakdbaaAD3
import Derived.Test.YtmnidkbkmakdbaaAEnvC
import Derived.KernelRfl
namespace Go.Proofs.Ytmnidkbkmakdbaa
open Go.Abs
set_option maxRecDepth 100000
set_option maxHeartbeats 4000000
set_option linter.unusedVariables false
abbrev wI : Ty := .int .i64
abbrev w0 : Ty := .pair (.sl (.pair wI (.pair wI (.pair wI (.pair wI (.pair wI (.pair (.sl wI) .unit))))))) (.pair (.pair wI (.pair wI (.pair wI (.pair wI (.pair wI (.pair (.sl wI) .unit)))))) .unit)
abbrev w1 : Ty := .pair wI (.pair (.sl wI) (.pair wI (.pair (.sl w0) .unit)))
abbrev w2 : Ty := .pair (.sl (.sl .bool)) (.pair (.sl .bool) (.pair (.sl .bool) (.pair (.sl (.arr 2 wI)) .unit)))
abbrev w3 : Ty := .pair wI (.pair wI (.pair wI (.pair wI (.pair wI (.pair (.sl wI) .unit)))))
abbrev w4 : Ty := .pair (.sl wI) (.pair (.sl wI) (.pair wI .unit))
theorem cD {t : Ty} {l : List AV} {F : t.T → List AV → Prop} (h : asCons l fun a r => asD t a fun s => F s r) : ∃ s r, l = .d t s :: r ∧ F s r := by
  obtain ⟨a, r, rfl, h1⟩ := asCons_inv h
  obtain ⟨s, rfl, h2⟩ := asD_inv h1
  exact ⟨s, r, rfl, h2⟩
theorem cP {p : AV} {l : List AV} {F : List AV → Prop} (h : asCons l fun a r => asP p a <| F r) : ∃ r, l = p :: r ∧ F r := by
  obtain ⟨a, r, rfl, h1⟩ := asCons_inv h
  obtain ⟨rfl, h2⟩ := asP_inv h1
  exact ⟨r, rfl, h2⟩
theorem cR {t : Ty} {ex : Bool} {l : List Ob} {F : List t.T → List Ob → Prop} (h : asCons l fun a r => asRw t ex a fun s => F s r) : ∃ s r, l = .row t s ex :: r ∧ F s r := by
  obtain ⟨a, r, rfl, h1⟩ := asCons_inv h
  obtain ⟨s, rfl, h2⟩ := asRw_inv h1
  exact ⟨s, r, rfl, h2⟩
theorem oD {u t : Ty} {l : List Ob} {F : t.T → List Ob → Prop} (h : asCons l fun a r => asOne u a fun v => asD t v fun s => F s r) : ∃ s r, l = .one u (.d t s) :: r ∧ F s r := by
  obtain ⟨a, r, rfl, h1⟩ := asCons_inv h
  obtain ⟨v, rfl, h2⟩ := asOne_inv h1
  obtain ⟨s, rfl, h3⟩ := asD_inv h2
  exact ⟨s, r, rfl, h3⟩
theorem oP {u : Ty} {p : AV} {l : List Ob} {F : List Ob → Prop} (h : asCons l fun a r => asOne u a fun v => asP p v <| F r) : ∃ r, l = .one u p :: r ∧ F r := by
  obtain ⟨a, r, rfl, h1⟩ := asCons_inv h
  obtain ⟨v, rfl, h2⟩ := asOne_inv h1
  obtain ⟨rfl, h3⟩ := asP_inv h2
  exact ⟨r, rfl, h3⟩
theorem cN {α : Type} {l : List α} {F} (h : asNil l F) : l = [] ∧ F := asNil_inv h
abbrev wF := inlF (PA (ACall E)) E 8
abbrev wL := List (Nat × List Nat × Pat × LSp)
abbrev wS := List (Nat × Pat × Sp)
abbrev dD (t : Ty) (l : List AV) (F : t.T → List AV → Prop) : Prop := asCons l fun a r => asD t a fun s => F s r
abbrev dP (p : AV) (l : List AV) (F : List AV → Prop) : Prop := asCons l fun a r => asP p a <| F r
abbrev dR (t : Ty) (ex : Bool) (l : List Ob) (F : List t.T → List Ob → Prop) : Prop := asCons l fun a r => asRw t ex a fun s => F s r
abbrev dO (u t : Ty) (l : List Ob) (F : t.T → List Ob → Prop) : Prop := asCons l fun a r => asOne u a fun v => asD t v fun s => F s r
abbrev dQ (u : Ty) (p : AV) (l : List Ob) (F : List Ob → Prop) : Prop := asCons l fun a r => asOne u a fun v => asP p v <| F r
theorem cM {α β : Type} {l : List α} {m : List β} {F} (h : asNil l (asNil m F)) : l = [] ∧ m = [] ∧ F := ⟨(asNil_inv h).1, (asNil_inv (asNil_inv h).2).1, (asNil_inv (asNil_inv h).2).2⟩
theorem nS : SpecOK E (ofL ([] : wS)) := specOK_nil
abbrev nL : wL := []
abbrev wH (n : Nat) (f : Func) (c : Code) (L : wL) : Prop := ∀ c' ∈ subsOf (E.info n).keep c, SubOK E wF (E.info n).keep 0 f.ntmps (lofL L) c'
theorem cDD {t0 : Ty} {t1 : Ty} {l : List AV} {F : t0.T → t1.T → List AV → Prop} (h : dD t0 l fun s0 r0 => dD t1 r0 fun s1 r1 => F s0 s1 r1) : ∃ s0 s1 r, l = .d t0 s0 :: .d t1 s1 :: r ∧ F s0 s1 r := by
  obtain ⟨s0, r0, rfl, h0⟩ := cD h
  obtain ⟨s1, r1, rfl, h1⟩ := cD h0
  exact ⟨s0, s1, r1, rfl, h1⟩
theorem cDP {t0 : Ty} {p1 : AV} {l : List AV} {F : t0.T → List AV → Prop} (h : dD t0 l fun s0 r0 => dP p1 r0 fun r1 => F s0 r1) : ∃ s0 r, l = .d t0 s0 :: p1 :: r ∧ F s0 r := by
  obtain ⟨s0, r0, rfl, h0⟩ := cD h
  obtain ⟨r1, rfl, h1⟩ := cP h0
  exact ⟨s0, r1, rfl, h1⟩
theorem cPD {p0 : AV} {t1 : Ty} {l : List AV} {F : t1.T → List AV → Prop} (h : dP p0 l fun r0 => dD t1 r0 fun s1 r1 => F s1 r1) : ∃ s1 r, l = p0 :: .d t1 s1 :: r ∧ F s1 r := by
  obtain ⟨r0, rfl, h0⟩ := cP h
  obtain ⟨s1, r1, rfl, h1⟩ := cD h0
  exact ⟨s1, r1, rfl, h1⟩
theorem cPP {p0 : AV} {p1 : AV} {l : List AV} {F : List AV → Prop} (h : dP p0 l fun r0 => dP p1 r0 fun r1 => F r1) : ∃ r, l = p0 :: p1 :: r ∧ F r := by
  obtain ⟨r0, rfl, h0⟩ := cP h
  obtain ⟨r1, rfl, h1⟩ := cP h0
  exact ⟨r1, rfl, h1⟩
theorem cDDD {t0 : Ty} {t1 : Ty} {t2 : Ty} {l : List AV} {F : t0.T → t1.T → t2.T → List AV → Prop} (h : dD t0 l fun s0 r0 => dD t1 r0 fun s1 r1 => dD t2 r1 fun s2 r2 => F s0 s1 s2 r2) : ∃ s0 s1 s2 r, l = .d t0 s0 :: .d t1 s1 :: .d t2 s2 :: r ∧ F s0 s1 s2 r := by
  obtain ⟨s0, r0, rfl, h0⟩ := cD h
  obtain ⟨s1, r1, rfl, h1⟩ := cD h0
  obtain ⟨s2, r2, rfl, h2⟩ := cD h1
  exact ⟨s0, s1, s2, r2, rfl, h2⟩
theorem cDDP {t0 : Ty} {t1 : Ty} {p2 : AV} {l : List AV} {F : t0.T → t1.T → List AV → Prop} (h : dD t0 l fun s0 r0 => dD t1 r0 fun s1 r1 => dP p2 r1 fun r2 => F s0 s1 r2) : ∃ s0 s1 r, l = .d t0 s0 :: .d t1 s1 :: p2 :: r ∧ F s0 s1 r := by
  obtain ⟨s0, r0, rfl, h0⟩ := cD h
  obtain ⟨s1, r1, rfl, h1⟩ := cD h0
  obtain ⟨r2, rfl, h2⟩ := cP h1
  exact ⟨s0, s1, r2, rfl, h2⟩
theorem cDPD {t0 : Ty} {p1 : AV} {t2 : Ty} {l : List AV} {F : t0.T → t2.T → List AV → Prop} (h : dD t0 l fun s0 r0 => dP p1 r0 fun r1 => dD t2 r1 fun s2 r2 => F s0 s2 r2) : ∃ s0 s2 r, l = .d t0 s0 :: p1 :: .d t2 s2 :: r ∧ F s0 s2 r := by
  obtain ⟨s0, r0, rfl, h0⟩ := cD h
  obtain ⟨r1, rfl, h1⟩ := cP h0
  obtain ⟨s2, r2, rfl, h2⟩ := cD h1
  exact ⟨s0, s2, r2, rfl, h2⟩
theorem cDPP {t0 : Ty} {p1 : AV} {p2 : AV} {l : List AV} {F : t0.T → List AV → Prop} (h : dD t0 l fun s0 r0 => dP p1 r0 fun r1 => dP p2 r1 fun r2 => F s0 r2) : ∃ s0 r, l = .d t0 s0 :: p1 :: p2 :: r ∧ F s0 r := by
  obtain ⟨s0, r0, rfl, h0⟩ := cD h
  obtain ⟨r1, rfl, h1⟩ := cP h0
  obtain ⟨r2, rfl, h2⟩ := cP h1
  exact ⟨s0, r2, rfl, h2⟩
theorem cPDD {p0 : AV} {t1 : Ty} {t2 : Ty} {l : List AV} {F : t1.T → t2.T → List AV → Prop} (h : dP p0 l fun r0 => dD t1 r0 fun s1 r1 => dD t2 r1 fun s2 r2 => F s1 s2 r2) : ∃ s1 s2 r, l = p0 :: .d t1 s1 :: .d t2 s2 :: r ∧ F s1 s2 r := by
  obtain ⟨r0, rfl, h0⟩ := cP h
  obtain ⟨s1, r1, rfl, h1⟩ := cD h0
  obtain ⟨s2, r2, rfl, h2⟩ := cD h1
  exact ⟨s1, s2, r2, rfl, h2⟩
theorem cPPD {p0 : AV} {p1 : AV} {t2 : Ty} {l : List AV} {F : t2.T → List AV → Prop} (h : dP p0 l fun r0 => dP p1 r0 fun r1 => dD t2 r1 fun s2 r2 => F s2 r2) : ∃ s2 r, l = p0 :: p1 :: .d t2 s2 :: r ∧ F s2 r := by
  obtain ⟨r0, rfl, h0⟩ := cP h
  obtain ⟨r1, rfl, h1⟩ := cP h0
  obtain ⟨s2, r2, rfl, h2⟩ := cD h1
  exact ⟨s2, r2, rfl, h2⟩
theorem cDDDD {t0 : Ty} {t1 : Ty} {t2 : Ty} {t3 : Ty} {l : List AV} {F : t0.T → t1.T → t2.T → t3.T → List AV → Prop} (h : dD t0 l fun s0 r0 => dD t1 r0 fun s1 r1 => dD t2 r1 fun s2 r2 => dD t3 r2 fun s3 r3 => F s0 s1 s2 s3 r3) : ∃ s0 s1 s2 s3 r, l = .d t0 s0 :: .d t1 s1 :: .d t2 s2 :: .d t3 s3 :: r ∧ F s0 s1 s2 s3 r := by
  obtain ⟨s0, r0, rfl, h0⟩ := cD h
  obtain ⟨s1, r1, rfl, h1⟩ := cD h0
  obtain ⟨s2, r2, rfl, h2⟩ := cD h1
  obtain ⟨s3, r3, rfl, h3⟩ := cD h2
  exact ⟨s0, s1, s2, s3, r3, rfl, h3⟩
theorem cDDPD {t0 : Ty} {t1 : Ty} {p2 : AV} {t3 : Ty} {l : List AV} {F : t0.T → t1.T → t3.T → List AV → Prop} (h : dD t0 l fun s0 r0 => dD t1 r0 fun s1 r1 => dP p2 r1 fun r2 => dD t3 r2 fun s3 r3 => F s0 s1 s3 r3) : ∃ s0 s1 s3 r, l = .d t0 s0 :: .d t1 s1 :: p2 :: .d t3 s3 :: r ∧ F s0 s1 s3 r := by
  obtain ⟨s0, r0, rfl, h0⟩ := cD h
  obtain ⟨s1, r1, rfl, h1⟩ := cD h0
  obtain ⟨r2, rfl, h2⟩ := cP h1
  obtain ⟨s3, r3, rfl, h3⟩ := cD h2
  exact ⟨s0, s1, s3, r3, rfl, h3⟩
theorem cDPDD {t0 : Ty} {p1 : AV} {t2 : Ty} {t3 : Ty} {l : List AV} {F : t0.T → t2.T → t3.T → List AV → Prop} (h : dD t0 l fun s0 r0 => dP p1 r0 fun r1 => dD t2 r1 fun s2 r2 => dD t3 r2 fun s3 r3 => F s0 s2 s3 r3) : ∃ s0 s2 s3 r, l = .d t0 s0 :: p1 :: .d t2 s2 :: .d t3 s3 :: r ∧ F s0 s2 s3 r := by
  obtain ⟨s0, r0, rfl, h0⟩ := cD h
  obtain ⟨r1, rfl, h1⟩ := cP h0
  obtain ⟨s2, r2, rfl, h2⟩ := cD h1
  obtain ⟨s3, r3, rfl, h3⟩ := cD h2
  exact ⟨s0, s2, s3, r3, rfl, h3⟩
theorem cDPDP {t0 : Ty} {p1 : AV} {t2 : Ty} {p3 : AV} {l : List AV} {F : t0.T → t2.T → List AV → Prop} (h : dD t0 l fun s0 r0 => dP p1 r0 fun r1 => dD t2 r1 fun s2 r2 => dP p3 r2 fun r3 => F s0 s2 r3) : ∃ s0 s2 r, l = .d t0 s0 :: p1 :: .d t2 s2 :: p3 :: r ∧ F s0 s2 r := by
  obtain ⟨s0, r0, rfl, h0⟩ := cD h
  obtain ⟨r1, rfl, h1⟩ := cP h0
  obtain ⟨s2, r2, rfl, h2⟩ := cD h1
  obtain ⟨r3, rfl, h3⟩ := cP h2
  exact ⟨s0, s2, r3, rfl, h3⟩
theorem cDPPD {t0 : Ty} {p1 : AV} {p2 : AV} {t3 : Ty} {l : List AV} {F : t0.T → t3.T → List AV → Prop} (h : dD t0 l fun s0 r0 => dP p1 r0 fun r1 => dP p2 r1 fun r2 => dD t3 r2 fun s3 r3 => F s0 s3 r3) : ∃ s0 s3 r, l = .d t0 s0 :: p1 :: p2 :: .d t3 s3 :: r ∧ F s0 s3 r := by
  obtain ⟨s0, r0, rfl, h0⟩ := cD h
  obtain ⟨r1, rfl, h1⟩ := cP h0
  obtain ⟨r2, rfl, h2⟩ := cP h1
  obtain ⟨s3, r3, rfl, h3⟩ := cD h2
  exact ⟨s0, s3, r3, rfl, h3⟩
theorem cDPPP {t0 : Ty} {p1 : AV} {p2 : AV} {p3 : AV} {l : List AV} {F : t0.T → List AV → Prop} (h : dD t0 l fun s0 r0 => dP p1 r0 fun r1 => dP p2 r1 fun r2 => dP p3 r2 fun r3 => F s0 r3) : ∃ s0 r, l = .d t0 s0 :: p1 :: p2 :: p3 :: r ∧ F s0 r := by
  obtain ⟨s0, r0, rfl, h0⟩ := cD h
  obtain ⟨r1, rfl, h1⟩ := cP h0
  obtain ⟨r2, rfl, h2⟩ := cP h1
  obtain ⟨r3, rfl, h3⟩ := cP h2
  exact ⟨s0, r3, rfl, h3⟩
theorem cPDDD {p0 : AV} {t1 : Ty} {t2 : Ty} {t3 : Ty} {l : List AV} {F : t1.T → t2.T → t3.T → List AV → Prop} (h : dP p0 l fun r0 => dD t1 r0 fun s1 r1 => dD t2 r1 fun s2 r2 => dD t3 r2 fun s3 r3 => F s1 s2 s3 r3) : ∃ s1 s2 s3 r, l = p0 :: .d t1 s1 :: .d t2 s2 :: .d t3 s3 :: r ∧ F s1 s2 s3 r := by
  obtain ⟨r0, rfl, h0⟩ := cP h
  obtain ⟨s1, r1, rfl, h1⟩ := cD h0
  obtain ⟨s2, r2, rfl, h2⟩ := cD h1
  obtain ⟨s3, r3, rfl, h3⟩ := cD h2
  exact ⟨s1, s2, s3, r3, rfl, h3⟩
theorem cPDDP {p0 : AV} {t1 : Ty} {t2 : Ty} {p3 : AV} {l : List AV} {F : t1.T → t2.T → List AV → Prop} (h : dP p0 l fun r0 => dD t1 r0 fun s1 r1 => dD t2 r1 fun s2 r2 => dP p3 r2 fun r3 => F s1 s2 r3) : ∃ s1 s2 r, l = p0 :: .d t1 s1 :: .d t2 s2 :: p3 :: r ∧ F s1 s2 r := by
  obtain ⟨r0, rfl, h0⟩ := cP h
  obtain ⟨s1, r1, rfl, h1⟩ := cD h0
  obtain ⟨s2, r2, rfl, h2⟩ := cD h1
  obtain ⟨r3, rfl, h3⟩ := cP h2
  exact ⟨s1, s2, r3, rfl, h3⟩
theorem cPDPD {p0 : AV} {t1 : Ty} {p2 : AV} {t3 : Ty} {l : List AV} {F : t1.T → t3.T → List AV → Prop} (h : dP p0 l fun r0 => dD t1 r0 fun s1 r1 => dP p2 r1 fun r2 => dD t3 r2 fun s3 r3 => F s1 s3 r3) : ∃ s1 s3 r, l = p0 :: .d t1 s1 :: p2 :: .d t3 s3 :: r ∧ F s1 s3 r := by
  obtain ⟨r0, rfl, h0⟩ := cP h
  obtain ⟨s1, r1, rfl, h1⟩ := cD h0
  obtain ⟨r2, rfl, h2⟩ := cP h1
  obtain ⟨s3, r3, rfl, h3⟩ := cD h2
  exact ⟨s1, s3, r3, rfl, h3⟩
theorem cPDPP {p0 : AV} {t1 : Ty} {p2 : AV} {p3 : AV} {l : List AV} {F : t1.T → List AV → Prop} (h : dP p0 l fun r0 => dD t1 r0 fun s1 r1 => dP p2 r1 fun r2 => dP p3 r2 fun r3 => F s1 r3) : ∃ s1 r, l = p0 :: .d t1 s1 :: p2 :: p3 :: r ∧ F s1 r := by
  obtain ⟨r0, rfl, h0⟩ := cP h
  obtain ⟨s1, r1, rfl, h1⟩ := cD h0
  obtain ⟨r2, rfl, h2⟩ := cP h1
  obtain ⟨r3, rfl, h3⟩ := cP h2
  exact ⟨s1, r3, rfl, h3⟩
theorem cPPDD {p0 : AV} {p1 : AV} {t2 : Ty} {t3 : Ty} {l : List AV} {F : t2.T → t3.T → List AV → Prop} (h : dP p0 l fun r0 => dP p1 r0 fun r1 => dD t2 r1 fun s2 r2 => dD t3 r2 fun s3 r3 => F s2 s3 r3) : ∃ s2 s3 r, l = p0 :: p1 :: .d t2 s2 :: .d t3 s3 :: r ∧ F s2 s3 r := by
  obtain ⟨r0, rfl, h0⟩ := cP h
  obtain ⟨r1, rfl, h1⟩ := cP h0
  obtain ⟨s2, r2, rfl, h2⟩ := cD h1
  obtain ⟨s3, r3, rfl, h3⟩ := cD h2
  exact ⟨s2, s3, r3, rfl, h3⟩
theorem cPPDP {p0 : AV} {p1 : AV} {t2 : Ty} {p3 : AV} {l : List AV} {F : t2.T → List AV → Prop} (h : dP p0 l fun r0 => dP p1 r0 fun r1 => dD t2 r1 fun s2 r2 => dP p3 r2 fun r3 => F s2 r3) : ∃ s2 r, l = p0 :: p1 :: .d t2 s2 :: p3 :: r ∧ F s2 r := by
  obtain ⟨r0, rfl, h0⟩ := cP h
  obtain ⟨r1, rfl, h1⟩ := cP h0
  obtain ⟨s2, r2, rfl, h2⟩ := cD h1
  obtain ⟨r3, rfl, h3⟩ := cP h2
  exact ⟨s2, r3, rfl, h3⟩
theorem cPPPD {p0 : AV} {p1 : AV} {p2 : AV} {t3 : Ty} {l : List AV} {F : t3.T → List AV → Prop} (h : dP p0 l fun r0 => dP p1 r0 fun r1 => dP p2 r1 fun r2 => dD t3 r2 fun s3 r3 => F s3 r3) : ∃ s3 r, l = p0 :: p1 :: p2 :: .d t3 s3 :: r ∧ F s3 r := by
  obtain ⟨r0, rfl, h0⟩ := cP h
  obtain ⟨r1, rfl, h1⟩ := cP h0
  obtain ⟨r2, rfl, h2⟩ := cP h1
  obtain ⟨s3, r3, rfl, h3⟩ := cD h2
  exact ⟨s3, r3, rfl, h3⟩
theorem cPPPP {p0 : AV} {p1 : AV} {p2 : AV} {p3 : AV} {l : List AV} {F : List AV → Prop} (h : dP p0 l fun r0 => dP p1 r0 fun r1 => dP p2 r1 fun r2 => dP p3 r2 fun r3 => F r3) : ∃ r, l = p0 :: p1 :: p2 :: p3 :: r ∧ F r := by
  obtain ⟨r0, rfl, h0⟩ := cP h
  obtain ⟨r1, rfl, h1⟩ := cP h0
  obtain ⟨r2, rfl, h2⟩ := cP h1
  obtain ⟨r3, rfl, h3⟩ := cP h2
  exact ⟨r3, rfl, h3⟩
def sp11 : Sp := fun args τ K => asNil args <| asNil τ <| c11  (fun z1 z2 z3 z4 => K (.agg [I z1, .vec 0, I z2, .vec 1]) [.row wI z3 false, .row w0 z4 false])
theorem h11 : ∀ args τ K, sp11 args τ K → ACall E 11 args τ K := by
  intro args τ K h0
  obtain ⟨rfl, rfl, h2⟩ := cM h0
  exact ACall.spec2 (fn := Try.f11) (c := codeOf Try.f11) (L := lofL nL) nS (by kernel_rfl) (by kernel_rfl) (inlOK _) (all_eq (by kernel_rfl) all_nil) (by kernel_rfl) h2.of
def sp26 : Sp := fun args τ K => dD wI args fun x1 r1 => dD wI r1 fun x2 r2 => dD wI r2 fun x3 r3 => asNil r3 <| asNil τ <| c26 x1 x2 x3 (fun z1 => K (B z1) [])
theorem h26 : ∀ args τ K, sp26 args τ K → ACall E 26 args τ K := by
  intro args τ K h0
  obtain ⟨x1, x2, x3, r3, rfl, h6⟩ := cDDD h0
  obtain ⟨rfl, rfl, h8⟩ := cM h6
  exact ACall.spec2 (fn := Try.f26) (c := codeOf Try.f26) (L := lofL nL) nS (by kernel_rfl) (by kernel_rfl) (inlOK _) (all_eq (by kernel_rfl) all_nil) (by kernel_rfl) h8.of
def lsl45r2 : LSp := fun vs σ K => dD (.sl wI) vs fun s1 r1 => dD wI r1 fun s2 r2 => dD wI r2 fun s3 r3 => dD wI r3 fun s4 r4 => asNil r4 <| asNil σ <| l45r2 (fun z1 => K .ret [(4, I z1)] []) (K (.exit 0) [(4, .undef)] []) s1 s2 s3 s4
theorem l45r2v : LoopV E wF (E.info 45).keep 0 Try.f45.ntmps 46000002 (body Try.f45 2) ([0, 1, 7, 8], lsl45r2) := by
  intro vs σ K h0
  obtain ⟨s1, s2, s3, s4, r4, rfl, h8⟩ := cDDDD h0
  obtain ⟨rfl, rfl, h10⟩ := cM h8
  intro J hJ
  have hp : wH 45 Try.f45 (body Try.f45 2) nL := all_eq (by kernel_rfl) all_nil
  exact h10.of (fun s1 s2 s3 s4 => J [(46000002, .undef), (0, .d (.sl wI) s1), (1, I s2), (7, I s3), (8, I s4)] []) (fun s1 s2 s3 s4 hb => loop_round2 nS (inlOK _) hp hJ (by kernel_rfl) hb)
abbrev L45 : wL := [(46000002, [0, 1, 7, 8], none, lsl45r2)]
def sp45 : Sp := fun args τ K => dD (.sl wI) args fun x1 r1 => dD wI r1 fun x2 r2 => asNil r2 <| asNil τ <| c45 x1 x2 (fun z1 => K (I z1) [])
theorem h45 : ∀ args τ K, sp45 args τ K → ACall E 45 args τ K := by
  intro args τ K h0
  obtain ⟨x1, x2, r2, rfl, h4⟩ := cDD h0
  obtain ⟨rfl, rfl, h6⟩ := cM h4
  exact ACall.spec2 (fn := Try.f45) (c := codeOf Try.f45) (L := lofL L45) nS (by kernel_rfl) (by kernel_rfl) (inlOK _) (all_eq (by kernel_rfl : subsOf (E.info 45).keep (codeOf Try.f45) = [.loop (body Try.f45 2)]) (all_cons (loopOK_of (mk := 46000002) (sl := [0, 1, 7, 8]) (ss := [([0, 1, 7, 8], lsl45r2)]) (by kernel_rfl) (by kernel_rfl) (all_cons l45r2v all_nil)) all_nil)) (by kernel_rfl) h6.of
abbrev S27 : wS := [(45, none, sp45)]
theorem hS27 : SpecOK E (ofL S27) := specOK_cons h45 specOK_nil
def sp27 : Sp := fun args τ K => dD (.sl wI) args fun x1 r1 => dD wI r1 fun x2 r2 => asNil r2 <| asNil τ <| c27 x1 x2 (fun z1 => K (B z1) [])
theorem h27 : ∀ args τ K, sp27 args τ K → ACall E 27 args τ K := by
  intro args τ K h0
  obtain ⟨x1, x2, r2, rfl, h4⟩ := cDD h0
  obtain ⟨rfl, rfl, h6⟩ := cM h4
  exact ACall.spec2 (fn := Try.f27) (c := codeOf Try.f27) (L := lofL nL) hS27 (by kernel_rfl) (by kernel_rfl) (inlOK _) (all_eq (by kernel_rfl) all_nil) (by kernel_rfl) h6.of
abbrev Sl12r6 : wS := [(26, none, sp26), (27, none, sp27)]
theorem hSl12r6 : SpecOK E (ofL Sl12r6) := specOK_cons h26 (specOK_cons h27 specOK_nil)
def lsl12r6 : LSp := fun vs σ K => dP (.ptr 0 0 []) vs fun r1 => dD (.sl wI) r1 fun s1 r2 => dD wI r2 fun s2 r3 => dD wI r3 fun s3 r4 => asNil r4 <| dO w1 w1 σ fun s4 r5 => asNil r5 <| l12r6 (fun z1 => K .ret [(1, .undef), (2, I z1)] []) (fun z1 => K (.exit 0) [(1, .ptr 0 0 []), (2, .undef)] [.one w1 (.d w1 z1)]) s1 s2 s3 s4
theorem l12r6v : LoopV E wF (E.info 12).keep 0 Try.f12.ntmps 13000006 (body Try.f12 6) ([1, 35, 36, 37], lsl12r6) := by
  intro vs σ K h0
  obtain ⟨s1, s2, s3, r4, rfl, h8⟩ := cPDDD h0
  obtain ⟨rfl, h9⟩ := cN h8
  obtain ⟨s4, r5, rfl, h12⟩ := oD h9
  obtain ⟨rfl, h13⟩ := cN h12
  intro J hJ
  have hp : wH 12 Try.f12 (body Try.f12 6) nL := all_eq (by kernel_rfl) all_nil
  exact h13.of (fun s1 s2 s3 s4 => J [(13000006, .undef), (1, .ptr 0 0 []), (35, .d (.sl wI) s1), (36, I s2), (37, I s3)] [.one w1 (.d w1 s4)]) (fun s1 s2 s3 s4 hb => loop_round2 hSl12r6 (inlOK _) hp hJ (by kernel_rfl) hb)
def sp46 : Sp := fun args τ K => dD wI args fun x1 r1 => asNil r1 <| asNil τ <| c46 x1 (fun z1 z2 => K (.tup [.d (.pair .bool (.pair .bool (.pair .bool (.pair .bool (.pair .bool .unit))))) z1, B z2]) [])
theorem h46 : ∀ args τ K, sp46 args τ K → ACall E 46 args τ K := by
  intro args τ K h0
  obtain ⟨x1, r1, rfl, h2⟩ := cD h0
  obtain ⟨rfl, rfl, h4⟩ := cM h2
  exact ACall.spec2 (fn := Try.f46) (c := codeOf Try.f46) (L := lofL nL) nS (by kernel_rfl) (by kernel_rfl) (inlOK _) (all_eq (by kernel_rfl) all_nil) (by kernel_rfl) h4.of
def lsj28s4 : LSp := fun vs σ K => dD wI vs fun s1 r1 => dP (.ptr 0 0 []) r1 fun r2 => dD .bool r2 fun s2 r3 => asNil r3 <| dO w3 w3 σ fun s3 r4 => asNil r4 <| j28s4 (fun z1 => K .ret [(1, .undef), (2, .undef), (4, I z1)] []) (fun z1 z2 => K .normal [(1, I z1), (2, .ptr 0 0 []), (4, .undef)] [.one w3 (.d w3 z2)]) s1 s2 s3
theorem j28s4v : JoinV E wF (E.info 28).keep 0 Try.f28.ntmps 29500004 5000004 (jbody Try.f28 5000004) ([1, 2, 65], lsj28s4) := by
  intro vs σ K h0
  obtain ⟨s1, s2, r3, rfl, h6⟩ := cDPD h0
  obtain ⟨rfl, h7⟩ := cN h6
  obtain ⟨s3, r4, rfl, h10⟩ := oD h7
  obtain ⟨rfl, h11⟩ := cN h10
  exact join_round2 (L := lofL nL) nS (inlOK _) (all_eq (by kernel_rfl) all_nil) (by kernel_rfl) h11.of
def lsj28s6 : LSp := fun vs σ K => dD wI vs fun s1 r1 => dP (.ptr 0 0 []) r1 fun r2 => dD .bool r2 fun s2 r3 => asNil r3 <| dO w3 w3 σ fun s3 r4 => asNil r4 <| j28s6 (fun z1 => K .ret [(1, .undef), (2, .undef), (4, I z1)] []) (fun z1 z2 => K .normal [(1, I z1), (2, .ptr 0 0 []), (4, .undef)] [.one w3 (.d w3 z2)]) s1 s2 s3
theorem j28s6v : JoinV E wF (E.info 28).keep 0 Try.f28.ntmps 29500006 5000006 (jbody Try.f28 5000006) ([1, 2, 118], lsj28s6) := by
  intro vs σ K h0
  obtain ⟨s1, s2, r3, rfl, h6⟩ := cDPD h0
  obtain ⟨rfl, h7⟩ := cN h6
  obtain ⟨s3, r4, rfl, h10⟩ := oD h7
  obtain ⟨rfl, h11⟩ := cN h10
  exact join_round2 (L := lofL nL) nS (inlOK _) (all_eq (by kernel_rfl) all_nil) (by kernel_rfl) h11.of
abbrev Sl28r9 : wS := [(26, none, sp26)]
theorem hSl28r9 : SpecOK E (ofL Sl28r9) := specOK_cons h26 specOK_nil
def lsl28r9 : LSp := fun vs σ K => dD wI vs fun s1 r1 => dP (.vec 0) r1 fun r2 => dD wI r2 fun s2 r3 => dD wI r3 fun s3 r4 => asNil r4 <| dR wI false σ fun s4 r5 => asNil r5 <| l28r9 (fun z1 => K .ret [(4, I z1)] []) (K (.exit 0) [(4, .undef)] []) s1 s2 s3 s4
theorem l28r9v : LoopV E wF (E.info 28).keep 0 Try.f28.ntmps 29000009 (body Try.f28 9) ([1, 128, 129, 130], lsl28r9) := by
  intro vs σ K h0
  obtain ⟨s1, s2, s3, r4, rfl, h8⟩ := cDPDD h0
  obtain ⟨rfl, h9⟩ := cN h8
  obtain ⟨s4, r5, rfl, h11⟩ := cR h9
  obtain ⟨rfl, h12⟩ := cN h11
  intro J hJ
  have hp : wH 28 Try.f28 (body Try.f28 9) nL := all_eq (by kernel_rfl) all_nil
  exact h12.of (fun s1 s2 s3 s4 => J [(29000009, .undef), (1, I s1), (128, .vec 0), (129, I s2), (130, I s3)] [.row wI s4 false]) (fun s1 s2 s3 s4 hb => loop_round2 hSl28r9 (inlOK _) hp hJ (by kernel_rfl) hb)
abbrev Lj28r8 : wL := [(29000009, [1, 128, 129, 130], none, lsl28r9)]
def lsj28r8 : LSp := fun vs σ K => dD wI vs fun s1 r1 => dP (.ptr 0 0 []) r1 fun r2 => asNil r2 <| dO w3 w3 σ fun s2 r3 => asNil r3 <| j28r8 (fun z1 => K .ret [(4, I z1)] []) s1 s2
theorem j28r8v : JoinV E wF (E.info 28).keep 0 Try.f28.ntmps 29400008 4000008 (jbody Try.f28 4000008) ([1, 2], lsj28r8) := by
  intro vs σ K h0
  obtain ⟨s1, r2, rfl, h4⟩ := cDP h0
  obtain ⟨rfl, h5⟩ := cN h4
  obtain ⟨s2, r3, rfl, h8⟩ := oD h5
  obtain ⟨rfl, h9⟩ := cN h8
  exact join_round2 (L := lofL Lj28r8) nS (inlOK _) (all_eq (by kernel_rfl : subsOf (E.info 28).keep (jbody Try.f28 4000008) = [.loop (body Try.f28 9)]) (all_cons (loopOK_of (mk := 29000009) (sl := [1, 128, 129, 130]) (ss := [([1, 128, 129, 130], lsl28r9)]) (by kernel_rfl) (by kernel_rfl) (all_cons l28r9v all_nil)) all_nil)) (by kernel_rfl) h9.of
abbrev Sj28r6 : wS := [(26, none, sp26)]
theorem hSj28r6 : SpecOK E (ofL Sj28r6) := specOK_cons h26 specOK_nil
abbrev Lj28r6 : wL := [(29500006, [1, 2, 118], none, lsj28s6), (29400008, [1, 2], none, lsj28r8)]
def lsj28r6 : LSp := fun vs σ K => dD wI vs fun s1 r1 => dP (.ptr 0 0 []) r1 fun r2 => asNil r2 <| dO w3 w3 σ fun s2 r3 => asNil r3 <| j28r6 (fun z1 => K .ret [(4, I z1)] []) s1 s2
theorem j28r6v : JoinV E wF (E.info 28).keep 0 Try.f28.ntmps 29400006 4000006 (jbody Try.f28 4000006) ([1, 2], lsj28r6) := by
  intro vs σ K h0
  obtain ⟨s1, r2, rfl, h4⟩ := cDP h0
  obtain ⟨rfl, h5⟩ := cN h4
  obtain ⟨s2, r3, rfl, h8⟩ := oD h5
  obtain ⟨rfl, h9⟩ := cN h8
  exact join_round2 (L := lofL Lj28r6) hSj28r6 (inlOK _) (all_eq (by kernel_rfl : subsOf (E.info 28).keep (jbody Try.f28 4000006) = [.join 4000008 (jbody Try.f28 4000008), .join 5000006 (jbody Try.f28 5000006)]) (all_cons (joinOK_of (mk := 29400008) (sl := [1, 2]) (ss := [([1, 2], lsj28r8)]) (by kernel_rfl) (by kernel_rfl) (all_cons j28r8v all_nil)) (all_cons (joinOK_of (mk := 29500006) (sl := [1, 2, 118]) (ss := [([1, 2, 118], lsj28s6)]) (by kernel_rfl) (by kernel_rfl) (all_cons j28s6v all_nil)) all_nil))) (by kernel_rfl) h9.of
abbrev S28 : wS := [(46, none, sp46)]
theorem hS28 : SpecOK E (ofL S28) := specOK_cons h46 specOK_nil
abbrev L28 : wL := [(29500004, [1, 2, 65], none, lsj28s4), (29400006, [1, 2], none, lsj28r6)]
def sp28 : Sp := fun args τ K => dD w3 args fun x1 r1 => dD wI r1 fun x2 r2 => asNil r2 <| asNil τ <| c28 x1 x2 (fun z1 => K (I z1) [])
theorem h28 : ∀ args τ K, sp28 args τ K → ACall E 28 args τ K := by
  intro args τ K h0
  obtain ⟨x1, x2, r2, rfl, h4⟩ := cDD h0
  obtain ⟨rfl, rfl, h6⟩ := cM h4
  exact ACall.spec2 (fn := Try.f28) (c := codeOf Try.f28) (L := lofL L28) hS28 (by kernel_rfl) (by kernel_rfl) (inlOK _) (all_eq (by kernel_rfl : subsOf (E.info 28).keep (codeOf Try.f28) = [.join 4000006 (jbody Try.f28 4000006), .join 5000004 (jbody Try.f28 5000004)]) (all_cons (joinOK_of (mk := 29400006) (sl := [1, 2]) (ss := [([1, 2], lsj28r6)]) (by kernel_rfl) (by kernel_rfl) (all_cons j28r6v all_nil)) (all_cons (joinOK_of (mk := 29500004) (sl := [1, 2, 65]) (ss := [([1, 2, 65], lsj28s4)]) (by kernel_rfl) (by kernel_rfl) (all_cons j28s4v all_nil)) all_nil))) (by kernel_rfl) h6.of
abbrev Sl12r21 : wS := [(28, none, sp28)]
theorem hSl12r21 : SpecOK E (ofL Sl12r21) := specOK_cons h28 specOK_nil
def lsl12r21 : LSp := fun vs σ K => dP (.ptr 0 0 []) vs fun r1 => dD wI r1 fun s1 r2 => dP (.ptr 1 0 []) r2 fun r3 => dD (.sl w0) r3 fun s2 r4 => dD wI r4 fun s3 r5 => dD wI r5 fun s4 r6 => dD (.sl w3) r6 fun s5 r7 => dD wI r7 fun s6 r8 => dD wI r8 fun s7 r9 => asNil r9 <| dO w1 w1 σ fun s8 r10 => dO w0 w0 r10 fun s9 r12 => asNil r12 <| l12r21 (fun z1 => K .ret [(1, .undef), (2, I z1), (5, .undef), (7, .undef), (56, .undef), (57, .undef), (58, .undef)] []) (fun z1 z2 z3 z4 z5 z6 => K (.exit 4) [(1, .ptr 0 0 []), (2, .undef), (5, I z1), (7, .ptr 1 0 []), (56, .d (.sl w0) z2), (57, I z3), (58, I z4)] [.one w1 (.d w1 z5), .one w0 (.d w0 z6)]) s1 s2 s3 s4 s5 s6 s7 s8 s9
theorem l12r21v : LoopV E wF (E.info 12).keep 0 Try.f12.ntmps 13000021 (body Try.f12 21) ([1, 5, 7, 56, 57, 58, 70, 71, 72], lsl12r21) := by
  intro vs σ K h0
  obtain ⟨s1, s2, r4, rfl, h8⟩ := cPDPD h0
  obtain ⟨s3, s4, s5, s6, r8, rfl, h16⟩ := cDDDD h8
  obtain ⟨s7, r9, rfl, h18⟩ := cD h16
  obtain ⟨rfl, h19⟩ := cN h18
  obtain ⟨s8, r10, rfl, h22⟩ := oD h19
  obtain ⟨s9, r12, rfl, h25⟩ := oD h22
  obtain ⟨rfl, h26⟩ := cN h25
  intro J hJ
  have hp : wH 12 Try.f12 (body Try.f12 21) nL := all_eq (by kernel_rfl) all_nil
  exact h26.of (fun s1 s2 s3 s4 s5 s6 s7 s8 s9 => J [(13000021, .undef), (1, .ptr 0 0 []), (5, I s1), (7, .ptr 1 0 []), (56, .d (.sl w0) s2), (57, I s3), (58, I s4), (70, .d (.sl w3) s5), (71, I s6), (72, I s7)] [.one w1 (.d w1 s8), .one w0 (.d w0 s9)]) (fun s1 s2 s3 s4 s5 s6 s7 s8 s9 hb => loop_round2 hSl12r21 (inlOK _) hp hJ (by kernel_rfl) hb)
abbrev Sl29r17 : wS := [(26, none, sp26)]
theorem hSl29r17 : SpecOK E (ofL Sl29r17) := specOK_cons h26 specOK_nil
def lsl29r17 : LSp := fun vs σ K => dD wI vs fun s1 r1 => dD (.sl wI) r1 fun s2 r2 => dD wI r2 fun s3 r3 => dD wI r3 fun s4 r4 => asNil r4 <| asNil σ <| l29r17 (fun z1 => K .ret [(6, I z1)] []) (K (.exit 1) [(6, .undef)] []) s1 s2 s3 s4
theorem l29r17v : LoopV E wF (E.info 29).keep 0 Try.f29.ntmps 30000017 (body Try.f29 17) ([2, 112, 113, 114], lsl29r17) := by
  intro vs σ K h0
  obtain ⟨s1, s2, s3, s4, r4, rfl, h8⟩ := cDDDD h0
  obtain ⟨rfl, rfl, h10⟩ := cM h8
  intro J hJ
  have hp : wH 29 Try.f29 (body Try.f29 17) nL := all_eq (by kernel_rfl) all_nil
  exact h10.of (fun s1 s2 s3 s4 => J [(30000017, .undef), (2, I s1), (112, .d (.sl wI) s2), (113, I s3), (114, I s4)] []) (fun s1 s2 s3 s4 hb => loop_round2 hSl29r17 (inlOK _) hp hJ (by kernel_rfl) hb)
abbrev Sj29r12 : wS := [(26, none, sp26)]
theorem hSj29r12 : SpecOK E (ofL Sj29r12) := specOK_cons h26 specOK_nil
abbrev Lj29r12 : wL := [(30000017, [2, 112, 113, 114], none, lsl29r17)]
def lsj29r12 : LSp := fun vs σ K => dD wI vs fun s1 r1 => dD wI r1 fun s2 r2 => dP (.ptr 0 0 []) r2 fun r3 => dD wI r3 fun s3 r4 => dD .bool r4 fun s4 r5 => asNil r5 <| dO w3 w3 σ fun s5 r6 => asNil r6 <| j29r12 (fun z1 => K .ret [(6, I z1)] []) s1 s2 s3 s4 s5
theorem j29r12v : JoinV E wF (E.info 29).keep 0 Try.f29.ntmps 30400012 4000012 (jbody Try.f29 4000012) ([1, 2, 3, 7, 8], lsj29r12) := by
  intro vs σ K h0
  obtain ⟨s1, s2, s3, r4, rfl, h8⟩ := cDDPD h0
  obtain ⟨s4, r5, rfl, h10⟩ := cD h8
  obtain ⟨rfl, h11⟩ := cN h10
  obtain ⟨s5, r6, rfl, h14⟩ := oD h11
  obtain ⟨rfl, h15⟩ := cN h14
  exact join_round2 (L := lofL Lj29r12) hSj29r12 (inlOK _) (all_eq (by kernel_rfl : subsOf (E.info 29).keep (jbody Try.f29 4000012) = [.loop (body Try.f29 17)]) (all_cons (loopOK_of (mk := 30000017) (sl := [2, 112, 113, 114]) (ss := [([2, 112, 113, 114], lsl29r17)]) (by kernel_rfl) (by kernel_rfl) (all_cons l29r17v all_nil)) all_nil)) (by kernel_rfl) h15.of
abbrev S29 : wS := [(26, none, sp26)]
theorem hS29 : SpecOK E (ofL S29) := specOK_cons h26 specOK_nil
abbrev L29 : wL := [(30400012, [1, 2, 3, 7, 8], none, lsj29r12)]
def sp29 : Sp := fun args τ K => dD w3 args fun x1 r1 => dD wI r1 fun x2 r2 => dD wI r2 fun x3 r3 => asNil r3 <| asNil τ <| c29 x1 x2 x3 (fun z1 => K (I z1) [])
theorem h29 : ∀ args τ K, sp29 args τ K → ACall E 29 args τ K := by
  intro args τ K h0
  obtain ⟨x1, x2, x3, r3, rfl, h6⟩ := cDDD h0
  obtain ⟨rfl, rfl, h8⟩ := cM h6
  exact ACall.spec2 (fn := Try.f29) (c := codeOf Try.f29) (L := lofL L29) hS29 (by kernel_rfl) (by kernel_rfl) (inlOK _) (all_eq (by kernel_rfl : subsOf (E.info 29).keep (codeOf Try.f29) = [.join 4000012 (jbody Try.f29 4000012)]) (all_cons (joinOK_of (mk := 30400012) (sl := [1, 2, 3, 7, 8]) (ss := [([1, 2, 3, 7, 8], lsj29r12)]) (by kernel_rfl) (by kernel_rfl) (all_cons j29r12v all_nil)) all_nil)) (by kernel_rfl) h8.of
abbrev Sl12r15 : wS := [(29, none, sp29)]
theorem hSl12r15 : SpecOK E (ofL Sl12r15) := specOK_cons h29 specOK_nil
abbrev Ll12r15 : wL := [(13000021, [1, 5, 7, 56, 57, 58, 70, 71, 72], none, lsl12r21)]
def lsl12r15 : LSp := fun vs σ K => dP (.ptr 0 0 []) vs fun r1 => dD wI r1 fun s1 r2 => dD (.sl w0) r2 fun s2 r3 => dD wI r3 fun s3 r4 => dD wI r4 fun s4 r5 => asNil r5 <| dO w1 w1 σ fun s5 r6 => asNil r6 <| l12r15 (fun z1 => K .ret [(1, .undef), (2, I z1)] []) (fun z1 => K (.exit 2) [(1, .ptr 0 0 []), (2, .undef)] [.one w1 (.d w1 z1)]) s1 s2 s3 s4 s5
theorem l12r15v : LoopV E wF (E.info 12).keep 0 Try.f12.ntmps 13000015 (body Try.f12 15) ([1, 5, 56, 57, 58], lsl12r15) := by
  intro vs σ K h0
  obtain ⟨s1, s2, s3, r4, rfl, h8⟩ := cPDDD h0
  obtain ⟨s4, r5, rfl, h10⟩ := cD h8
  obtain ⟨rfl, h11⟩ := cN h10
  obtain ⟨s5, r6, rfl, h14⟩ := oD h11
  obtain ⟨rfl, h15⟩ := cN h14
  intro J hJ
  have hp : wH 12 Try.f12 (body Try.f12 15) Ll12r15 := all_eq (by kernel_rfl : subsOf (E.info 12).keep (body Try.f12 15) = [.loop (body Try.f12 21)]) (all_cons (loopOK_of (mk := 13000021) (sl := [1, 5, 7, 56, 57, 58, 70, 71, 72]) (ss := [([1, 5, 7, 56, 57, 58, 70, 71, 72], lsl12r21)]) (by kernel_rfl) (by kernel_rfl) (all_cons l12r21v all_nil)) all_nil)
  exact h15.of (fun s1 s2 s3 s4 s5 => J [(13000015, .undef), (1, .ptr 0 0 []), (5, I s1), (56, .d (.sl w0) s2), (57, I s3), (58, I s4)] [.one w1 (.d w1 s5)]) (fun s1 s2 s3 s4 s5 hb => loop_round2 hSl12r15 (inlOK _) hp hJ (by kernel_rfl) hb)
def lsl30r3 : LSp := fun vs σ K => dP (.ptr 0 0 []) vs fun r1 => dP (.vec 1) r1 fun r2 => dD wI r2 fun s1 r3 => dD wI r3 fun s2 r4 => asNil r4 <| dO w1 w1 σ fun s3 r5 => asCons r5 fun a7 r7 => asDeep .bool a7 fun s4 l8 => asNil l8 <| asNil r7 <| l30r3 (fun z1 z2 => K (.exit 0) [(1, .ptr 0 0 []), (3, .vec 1)] [.one w1 (.d w1 z1), .deep .bool z2 []]) s1 s2 s3 s4
theorem l30r3v : LoopV E wF (E.info 30).keep 0 Try.f30.ntmps 31000003 (body Try.f30 3) ([1, 3, 13, 14], lsl30r3) := by
  intro vs σ K h0
  obtain ⟨s1, s2, r4, rfl, h8⟩ := cPPDD h0
  obtain ⟨rfl, h9⟩ := cN h8
  obtain ⟨s3, r5, rfl, h12⟩ := oD h9
  obtain ⟨a7, r7, rfl, h13⟩ := asCons_inv h12
  obtain ⟨s4, l8, rfl, h14⟩ := asDeep_inv h13
  obtain ⟨rfl, rfl, h16⟩ := cM h14
  intro J hJ
  have hp : wH 30 Try.f30 (body Try.f30 3) nL := all_eq (by kernel_rfl) all_nil
  exact h16.of (fun s1 s2 s3 s4 => J [(31000003, .undef), (1, .ptr 0 0 []), (3, .vec 1), (13, I s1), (14, I s2)] [.one w1 (.d w1 s3), .deep .bool s4 []]) (fun s1 s2 s3 s4 hb => loop_round2 nS (inlOK _) hp hJ (by kernel_rfl) hb)
def lsl47r6 : LSp := fun vs σ K => dP (.vec 0) vs fun r1 => dP (.vec 2) r1 fun r2 => dD (.sl wI) r2 fun s1 r3 => dD wI r3 fun s2 r4 => dD wI r4 fun s3 r5 => dP (.vec 1) r5 fun r6 => dD wI r6 fun s4 r7 => dD wI r7 fun s5 r8 => asNil r8 <| asCons σ fun a9 r9 => asDeep .bool a9 fun s6 l10 => asCons l10 fun a11 r11 => asHole 1 a11 fun s7 => asNil r11 <| dR .bool false r9 fun s8 r12 => dR .bool false r12 fun s9 r13 => asNil r13 <| l47r6 (fun z1 z2 z3 z4 z5 => K (.exit 2) [(1, .vec 0), (7, .vec 1), (21, .d (.sl wI) z1), (22, I z2), (23, I z3)] [.deep .bool z4 [], .row .bool z5 false]) s1 s2 s3 s4 s5 s6 s7 s8 s9
theorem l47r6v : LoopV E wF (E.info 47).keep 1 Try.f47.ntmps 48000006 (body Try.f47 6) ([1, 7, 21, 22, 23, 30, 31, 32], lsl47r6) := by
  intro vs σ K h0
  obtain ⟨s1, s2, r4, rfl, h8⟩ := cPPDD h0
  obtain ⟨s3, s4, s5, r8, rfl, h16⟩ := cDPDD h8
  obtain ⟨rfl, h17⟩ := cN h16
  obtain ⟨a9, r9, rfl, h18⟩ := asCons_inv h17
  obtain ⟨s6, l10, rfl, h19⟩ := asDeep_inv h18
  obtain ⟨a11, r11, rfl, h20⟩ := asCons_inv h19
  obtain ⟨s7, rfl, h21⟩ := asHole_inv h20
  obtain ⟨rfl, h22⟩ := cN h21
  obtain ⟨s8, r12, rfl, h24⟩ := cR h22
  obtain ⟨s9, r13, rfl, h26⟩ := cR h24
  obtain ⟨rfl, h27⟩ := cN h26
  intro J hJ
  have hp : ∀ c' ∈ subsOf (E.info 47).keep (body Try.f47 6), SubOK E wF (E.info 47).keep 1 Try.f47.ntmps (lofL nL) c' := all_eq (by kernel_rfl) all_nil
  exact h27.of (fun s1 s2 s3 s4 s5 s6 s7 s8 s9 => J [(48000006, .undef), (1, .vec 0), (7, .vec 2), (21, .d (.sl wI) s1), (22, I s2), (23, I s3), (30, .vec 1), (31, I s4), (32, I s5)] [.deep .bool s6 [(s7, 1)], .row .bool s8 false, .row .bool s9 false]) (fun s1 s2 s3 s4 s5 s6 s7 s8 s9 hb => loop_round2 nS (inlOK _) hp hJ (by kernel_rfl) hb)
abbrev Ll47r3 : wL := [(48000006, [1, 7, 21, 22, 23, 30, 31, 32], none, lsl47r6)]
def lsl47r3 : LSp := fun vs σ K => dP (.vec 0) vs fun r1 => dP (.vec 1) r1 fun r2 => dD (.sl wI) r2 fun s1 r3 => dD wI r3 fun s2 r4 => dD wI r4 fun s3 r5 => asNil r5 <| asCons σ fun a6 r6 => asDeep .bool a6 fun s4 l7 => asNil l7 <| dR .bool false r6 fun s5 r8 => asNil r8 <| l47r3 (fun z1 z2 => K (.exit 0) [(7, .vec 1)] [.deep .bool z1 [], .row .bool z2 false]) s1 s2 s3 s4 s5
theorem l47r3v : LoopV E wF (E.info 47).keep 1 Try.f47.ntmps 48000003 (body Try.f47 3) ([1, 7, 21, 22, 23], lsl47r3) := by
  intro vs σ K h0
  obtain ⟨s1, s2, r4, rfl, h8⟩ := cPPDD h0
  obtain ⟨s3, r5, rfl, h10⟩ := cD h8
  obtain ⟨rfl, h11⟩ := cN h10
  obtain ⟨a6, r6, rfl, h12⟩ := asCons_inv h11
  obtain ⟨s4, l7, rfl, h13⟩ := asDeep_inv h12
  obtain ⟨rfl, h14⟩ := cN h13
  obtain ⟨s5, r8, rfl, h16⟩ := cR h14
  obtain ⟨rfl, h17⟩ := cN h16
  intro J hJ
  have hp : ∀ c' ∈ subsOf (E.info 47).keep (body Try.f47 3), SubOK E wF (E.info 47).keep 1 Try.f47.ntmps (lofL Ll47r3) c' := all_eq (by kernel_rfl : subsOf (E.info 47).keep (body Try.f47 3) = [.loop (body Try.f47 6)]) (all_cons (loopOK_of (mk := 48000006) (sl := [1, 7, 21, 22, 23, 30, 31, 32]) (ss := [([1, 7, 21, 22, 23, 30, 31, 32], lsl47r6)]) (by kernel_rfl) (by kernel_rfl) (all_cons l47r6v all_nil)) all_nil)
  exact h17.of (fun s1 s2 s3 s4 s5 => J [(48000003, .undef), (1, .vec 0), (7, .vec 1), (21, .d (.sl wI) s1), (22, I s2), (23, I s3)] [.deep .bool s4 [], .row .bool s5 false]) (fun s1 s2 s3 s4 s5 hb => loop_round2 nS (inlOK _) hp hJ (by kernel_rfl) hb)
abbrev L47 : wL := [(48000003, [1, 7, 21, 22, 23], none, lsl47r3)]
def sp47 : Sp := fun args τ K => dD w1 args fun x1 r1 => dP (.vec 0) r1 fun r2 => dD wI r2 fun x2 r3 => asNil r3 <| asCons τ fun a4 r4 => asDeep .bool a4 fun x3 l5 => asNil l5 <| asNil r4 <| c47 x1 x2 x3 (fun z1 z2 => K (.vec 1) [.deep .bool z1 [], .row .bool z2 false])
theorem h47 : ∀ args τ K, sp47 args τ K → ACall E 47 args τ K := by
  intro args τ K h0
  obtain ⟨x1, x2, r3, rfl, h6⟩ := cDPD h0
  obtain ⟨rfl, h7⟩ := cN h6
  obtain ⟨a4, r4, rfl, h8⟩ := asCons_inv h7
  obtain ⟨x3, l5, rfl, h9⟩ := asDeep_inv h8
  obtain ⟨rfl, rfl, h11⟩ := cM h9
  exact ACall.spec2 (fn := Try.f47) (c := codeOf Try.f47) (L := lofL L47) nS (by kernel_rfl) (by kernel_rfl) (inlOK _) (all_eq (by kernel_rfl : subsOf (E.info 47).keep (codeOf Try.f47) = [.loop (body Try.f47 3)]) (all_cons (loopOK_of (mk := 48000003) (sl := [1, 7, 21, 22, 23]) (ss := [([1, 7, 21, 22, 23], lsl47r3)]) (by kernel_rfl) (by kernel_rfl) (all_cons l47r3v all_nil)) all_nil)) (by kernel_rfl) h11.of
def sp51 : Sp := fun args τ K => dD wI args fun x1 r1 => asNil r1 <| asNil τ <| c51 x1 (fun z1 => K (B z1) [])
theorem h51 : ∀ args τ K, sp51 args τ K → ACall E 51 args τ K := by
  intro args τ K h0
  obtain ⟨x1, r1, rfl, h2⟩ := cD h0
  obtain ⟨rfl, rfl, h4⟩ := cM h2
  exact ACall.spec2 (fn := Try.f51) (c := codeOf Try.f51) (L := lofL nL) nS (by kernel_rfl) (by kernel_rfl) (inlOK _) (all_eq (by kernel_rfl) all_nil) (by kernel_rfl) h4.of
abbrev Sl55r2 : wS := [(51, none, sp51)]
theorem hSl55r2 : SpecOK E (ofL Sl55r2) := specOK_cons h51 specOK_nil
def lsl55r2 : LSp := fun vs σ K => dD (.sl wI) vs fun s1 r1 => asCons r1 fun a2 r2 => asFn 51 a2 fun l3 l4 => asNil l3 <| asNil l4 <| dD wI r2 fun s2 r5 => dD wI r5 fun s3 r6 => asNil r6 <| asNil σ <| l55r2 (fun z1 => K .ret [(4, I z1)] []) (K (.exit 0) [(4, .undef)] []) s1 s2 s3
theorem l55r2v : LoopV E wF (E.info 55).keep 0 Try.f55.ntmps 56000002 (body Try.f55 2) ([0, 1, 7, 8], lsl55r2) := by
  intro vs σ K h0
  obtain ⟨s1, r1, rfl, h2⟩ := cD h0
  obtain ⟨a2, r2, rfl, h3⟩ := asCons_inv h2
  obtain ⟨l3, l4, rfl, h4⟩ := asFn_inv h3
  obtain ⟨rfl, rfl, h6⟩ := cM h4
  obtain ⟨s2, s3, r6, rfl, h10⟩ := cDD h6
  obtain ⟨rfl, rfl, h12⟩ := cM h10
  intro J hJ
  have hp : wH 55 Try.f55 (body Try.f55 2) nL := all_eq (by kernel_rfl) all_nil
  exact h12.of (fun s1 s2 s3 => J [(56000002, .undef), (0, .d (.sl wI) s1), (1, .fn 51 [] []), (7, I s2), (8, I s3)] []) (fun s1 s2 s3 hb => loop_round2 hSl55r2 (inlOK _) hp hJ (by kernel_rfl) hb)
abbrev L55 : wL := [(56000002, [0, 1, 7, 8], none, lsl55r2)]
def sp55 : Sp := fun args τ K => dD (.sl wI) args fun x1 r1 => asCons r1 fun a2 r2 => asFn 51 a2 fun l3 l4 => asNil l3 <| asNil l4 <| asNil r2 <| asNil τ <| c55 x1 (fun z1 => K (I z1) [])
theorem h55 : ∀ args τ K, sp55 args τ K → ACall E 55 args τ K := by
  intro args τ K h0
  obtain ⟨x1, r1, rfl, h2⟩ := cD h0
  obtain ⟨a2, r2, rfl, h3⟩ := asCons_inv h2
  obtain ⟨l3, l4, rfl, h4⟩ := asFn_inv h3
  obtain ⟨rfl, rfl, h6⟩ := cM h4
  obtain ⟨rfl, rfl, h8⟩ := cM h6
  exact ACall.spec2 (fn := Try.f55) (c := codeOf Try.f55) (L := lofL L55) nS (by kernel_rfl) (by kernel_rfl) (inlOK _) (all_eq (by kernel_rfl : subsOf (E.info 55).keep (codeOf Try.f55) = [.loop (body Try.f55 2)]) (all_cons (loopOK_of (mk := 56000002) (sl := [0, 1, 7, 8]) (ss := [([0, 1, 7, 8], lsl55r2)]) (by kernel_rfl) (by kernel_rfl) (all_cons l55r2v all_nil)) all_nil)) (by kernel_rfl) h8.of
abbrev Sl50r5 : wS := [(51, none, sp51)]
theorem hSl50r5 : SpecOK E (ofL Sl50r5) := specOK_cons h51 specOK_nil
def lsl50r5 : LSp := fun vs σ K => dP (.vec 0) vs fun r1 => asCons r1 fun a2 r2 => asFn 51 a2 fun l3 l4 => asNil l3 <| asNil l4 <| dD wI r2 fun s1 r5 => dD wI r5 fun s2 r6 => asNil r6 <| dR wI false σ fun s3 r7 => asNil r7 <| l50r5 (fun z1 z2 => K (.exit 0) [(0, .vec 0), (5, I z1)] [.row wI z2 false]) s1 s2 s3
theorem l50r5v : LoopV E wF (E.info 50).keep 1 Try.f50.ntmps 51000005 (body Try.f50 5) ([0, 1, 5, 6], lsl50r5) := by
  intro vs σ K h0
  obtain ⟨r1, rfl, h2⟩ := cP h0
  obtain ⟨a2, r2, rfl, h3⟩ := asCons_inv h2
  obtain ⟨l3, l4, rfl, h4⟩ := asFn_inv h3
  obtain ⟨rfl, rfl, h6⟩ := cM h4
  obtain ⟨s1, s2, r6, rfl, h10⟩ := cDD h6
  obtain ⟨rfl, h11⟩ := cN h10
  obtain ⟨s3, r7, rfl, h13⟩ := cR h11
  obtain ⟨rfl, h14⟩ := cN h13
  intro J hJ
  have hp : ∀ c' ∈ subsOf (E.info 50).keep (body Try.f50 5), SubOK E wF (E.info 50).keep 1 Try.f50.ntmps (lofL nL) c' := all_eq (by kernel_rfl) all_nil
  exact h14.of (fun s1 s2 s3 => J [(51000005, .undef), (0, .vec 0), (1, .fn 51 [] []), (5, I s1), (6, I s2)] [.row wI s3 false]) (fun s1 s2 s3 hb => loop_round2 hSl50r5 (inlOK _) hp hJ (by kernel_rfl) hb)
abbrev S50 : wS := [(55, none, sp55)]
theorem hS50 : SpecOK E (ofL S50) := specOK_cons h55 specOK_nil
abbrev L50 : wL := [(51000005, [0, 1, 5, 6], none, lsl50r5)]
def sp50 : Sp := fun args τ K => dP (.vec 0) args fun r1 => asCons r1 fun a2 r2 => asFn 51 a2 fun l3 l4 => asNil l3 <| asNil l4 <| asNil r2 <| dR wI true τ fun x1 r5 => asNil r5 <| c50 x1 (fun z1 => K (.vec 0) [.row wI z1 false]) (fun z1 z2 z3 z4 => K (.sl 0 z1 z2 z3 false) [.row wI z4 false])
theorem h50 : ∀ args τ K, sp50 args τ K → ACall E 50 args τ K := by
  intro args τ K h0
  obtain ⟨r1, rfl, h2⟩ := cP h0
  obtain ⟨a2, r2, rfl, h3⟩ := asCons_inv h2
  obtain ⟨l3, l4, rfl, h4⟩ := asFn_inv h3
  obtain ⟨rfl, rfl, h6⟩ := cM h4
  obtain ⟨rfl, h7⟩ := cN h6
  obtain ⟨x1, r5, rfl, h9⟩ := cR h7
  obtain ⟨rfl, h10⟩ := cN h9
  exact ACall.spec2 (fn := Try.f50) (c := codeOf Try.f50) (L := lofL L50) hS50 (by kernel_rfl) (by kernel_rfl) (inlOK _) (all_eq (by kernel_rfl : subsOf (E.info 50).keep (codeOf Try.f50) = [.loop (body Try.f50 5)]) (all_cons (loopOK_of (mk := 51000005) (sl := [0, 1, 5, 6]) (ss := [([0, 1, 5, 6], lsl50r5)]) (by kernel_rfl) (by kernel_rfl) (all_cons l50r5v all_nil)) all_nil)) (by kernel_rfl) h10.of
abbrev S33 : wS := [(50, none, sp50)]
theorem hS33 : SpecOK E (ofL S33) := specOK_cons h50 specOK_nil
def sp33 : Sp := fun args τ K => dD w3 args fun x1 r1 => asNil r1 <| asNil τ <| c33 x1 (fun z1 => K (.vec 0) [.row wI z1 false]) (fun z1 z2 z3 z4 => K (.sl 0 z1 z2 z3 false) [.row wI z4 false])
theorem h33 : ∀ args τ K, sp33 args τ K → ACall E 33 args τ K := by
  intro args τ K h0
  obtain ⟨x1, r1, rfl, h2⟩ := cD h0
  obtain ⟨rfl, rfl, h4⟩ := cM h2
  exact ACall.spec2 (fn := Try.f33) (c := codeOf Try.f33) (L := lofL nL) hS33 (by kernel_rfl) (by kernel_rfl) (inlOK _) (all_eq (by kernel_rfl) all_nil) (by kernel_rfl) h4.of
def lsl48r2 : LSp := fun vs σ K => dP (.vec 0) vs fun r1 => dP (.ptr 1 0 []) r1 fun r2 => dP (.vec 2) r2 fun r3 => dD wI r3 fun s1 r4 => dD wI r4 fun s2 r5 => asNil r5 <| dR .bool false σ fun s3 r6 => dO w0 w0 r6 fun s4 r7 => dR wI false r7 fun s5 r9 => asNil r9 <| l48r2 (fun z1 z2 => K (.exit 0) [(1, .vec 0), (2, .ptr 1 0 [])] [.row .bool z1 false, .one w0 (.d w0 z2)]) s1 s2 s3 s4 s5
theorem l48r2v : LoopV E wF (E.info 48).keep 1 Try.f48.ntmps 49000002 (body Try.f48 2) ([1, 2, 11, 12, 13], lsl48r2) := by
  intro vs σ K h0
  obtain ⟨s1, r4, rfl, h8⟩ := cPPPD h0
  obtain ⟨s2, r5, rfl, h10⟩ := cD h8
  obtain ⟨rfl, h11⟩ := cN h10
  obtain ⟨s3, r6, rfl, h13⟩ := cR h11
  obtain ⟨s4, r7, rfl, h16⟩ := oD h13
  obtain ⟨s5, r9, rfl, h18⟩ := cR h16
  obtain ⟨rfl, h19⟩ := cN h18
  intro J hJ
  have hp : ∀ c' ∈ subsOf (E.info 48).keep (body Try.f48 2), SubOK E wF (E.info 48).keep 1 Try.f48.ntmps (lofL nL) c' := all_eq (by kernel_rfl) all_nil
  exact h19.of (fun s1 s2 s3 s4 s5 => J [(49000002, .undef), (1, .vec 0), (2, .ptr 1 0 []), (11, .vec 2), (12, I s1), (13, I s2)] [.row .bool s3 false, .one w0 (.d w0 s4), .row wI s5 false]) (fun s1 s2 s3 s4 s5 hb => loop_round2 nS (inlOK _) hp hJ (by kernel_rfl) hb)
def sp34 : Sp := fun args τ K => dD w3 args fun x1 r1 => asNil r1 <| asNil τ <| c34 x1 (fun z1 => K (I z1) [])
theorem h34 : ∀ args τ K, sp34 args τ K → ACall E 34 args τ K := by
  intro args τ K h0
  obtain ⟨x1, r1, rfl, h2⟩ := cD h0
  obtain ⟨rfl, rfl, h4⟩ := cM h2
  exact ACall.spec2 (fn := Try.f34) (c := codeOf Try.f34) (L := lofL nL) nS (by kernel_rfl) (by kernel_rfl) (inlOK _) (all_eq (by kernel_rfl) all_nil) (by kernel_rfl) h4.of
def sp52 : Sp := fun args τ K => dD wI args fun x1 r1 => asNil r1 <| asNil τ <| c52 x1 (fun z1 => K (B z1) [])
theorem h52 : ∀ args τ K, sp52 args τ K → ACall E 52 args τ K := by
  intro args τ K h0
  obtain ⟨x1, r1, rfl, h2⟩ := cD h0
  obtain ⟨rfl, rfl, h4⟩ := cM h2
  exact ACall.spec2 (fn := Try.f52) (c := codeOf Try.f52) (L := lofL nL) nS (by kernel_rfl) (by kernel_rfl) (inlOK _) (all_eq (by kernel_rfl) all_nil) (by kernel_rfl) h4.of
abbrev Sl55r2v2 : wS := [(52, none, sp52)]
theorem hSl55r2v2 : SpecOK E (ofL Sl55r2v2) := specOK_cons h52 specOK_nil
def lsl55r2v2 : LSp := fun vs σ K => dD (.sl wI) vs fun s1 r1 => asCons r1 fun a2 r2 => asFn 52 a2 fun l3 l4 => asNil l3 <| asNil l4 <| dD wI r2 fun s2 r5 => dD wI r5 fun s3 r6 => asNil r6 <| asNil σ <| l55r2v2 (fun z1 => K .ret [(4, I z1)] []) (K (.exit 0) [(4, .undef)] []) s1 s2 s3
theorem l55r2v2v : LoopV E wF (E.info 55).keep 0 Try.f55.ntmps 56000002 (body Try.f55 2) ([0, 1, 7, 8], lsl55r2v2) := by
  intro vs σ K h0
  obtain ⟨s1, r1, rfl, h2⟩ := cD h0
  obtain ⟨a2, r2, rfl, h3⟩ := asCons_inv h2
  obtain ⟨l3, l4, rfl, h4⟩ := asFn_inv h3
  obtain ⟨rfl, rfl, h6⟩ := cM h4
  obtain ⟨s2, s3, r6, rfl, h10⟩ := cDD h6
  obtain ⟨rfl, rfl, h12⟩ := cM h10
  intro J hJ
  have hp : wH 55 Try.f55 (body Try.f55 2) nL := all_eq (by kernel_rfl) all_nil
  exact h12.of (fun s1 s2 s3 => J [(56000002, .undef), (0, .d (.sl wI) s1), (1, .fn 52 [] []), (7, I s2), (8, I s3)] []) (fun s1 s2 s3 hb => loop_round2 hSl55r2v2 (inlOK _) hp hJ (by kernel_rfl) hb)
abbrev L55v2 : wL := [(56000002, [0, 1, 7, 8], none, lsl55r2v2)]
def sp55v2 : Sp := fun args τ K => dD (.sl wI) args fun x1 r1 => asCons r1 fun a2 r2 => asFn 52 a2 fun l3 l4 => asNil l3 <| asNil l4 <| asNil r2 <| asNil τ <| c55v2 x1 (fun z1 => K (I z1) [])
theorem h55v2 : ∀ args τ K, sp55v2 args τ K → ACall E 55 args τ K := by
  intro args τ K h0
  obtain ⟨x1, r1, rfl, h2⟩ := cD h0
  obtain ⟨a2, r2, rfl, h3⟩ := asCons_inv h2
  obtain ⟨l3, l4, rfl, h4⟩ := asFn_inv h3
  obtain ⟨rfl, rfl, h6⟩ := cM h4
  obtain ⟨rfl, rfl, h8⟩ := cM h6
  exact ACall.spec2 (fn := Try.f55) (c := codeOf Try.f55) (L := lofL L55v2) nS (by kernel_rfl) (by kernel_rfl) (inlOK _) (all_eq (by kernel_rfl : subsOf (E.info 55).keep (codeOf Try.f55) = [.loop (body Try.f55 2)]) (all_cons (loopOK_of (mk := 56000002) (sl := [0, 1, 7, 8]) (ss := [([0, 1, 7, 8], lsl55r2v2)]) (by kernel_rfl) (by kernel_rfl) (all_cons l55r2v2v all_nil)) all_nil)) (by kernel_rfl) h8.of
abbrev Sl50r5v2 : wS := [(52, none, sp52)]
theorem hSl50r5v2 : SpecOK E (ofL Sl50r5v2) := specOK_cons h52 specOK_nil
def lsl50r5v2 : LSp := fun vs σ K => dP (.vec 0) vs fun r1 => asCons r1 fun a2 r2 => asFn 52 a2 fun l3 l4 => asNil l3 <| asNil l4 <| dD wI r2 fun s1 r5 => dD wI r5 fun s2 r6 => asNil r6 <| dR wI false σ fun s3 r7 => asNil r7 <| l50r5v2 (fun z1 z2 => K (.exit 0) [(0, .vec 0), (5, I z1)] [.row wI z2 false]) s1 s2 s3
theorem l50r5v2v : LoopV E wF (E.info 50).keep 1 Try.f50.ntmps 51000005 (body Try.f50 5) ([0, 1, 5, 6], lsl50r5v2) := by
  intro vs σ K h0
  obtain ⟨r1, rfl, h2⟩ := cP h0
  obtain ⟨a2, r2, rfl, h3⟩ := asCons_inv h2
  obtain ⟨l3, l4, rfl, h4⟩ := asFn_inv h3
  obtain ⟨rfl, rfl, h6⟩ := cM h4
  obtain ⟨s1, s2, r6, rfl, h10⟩ := cDD h6
  obtain ⟨rfl, h11⟩ := cN h10
  obtain ⟨s3, r7, rfl, h13⟩ := cR h11
  obtain ⟨rfl, h14⟩ := cN h13
  intro J hJ
  have hp : ∀ c' ∈ subsOf (E.info 50).keep (body Try.f50 5), SubOK E wF (E.info 50).keep 1 Try.f50.ntmps (lofL nL) c' := all_eq (by kernel_rfl) all_nil
  exact h14.of (fun s1 s2 s3 => J [(51000005, .undef), (0, .vec 0), (1, .fn 52 [] []), (5, I s1), (6, I s2)] [.row wI s3 false]) (fun s1 s2 s3 hb => loop_round2 hSl50r5v2 (inlOK _) hp hJ (by kernel_rfl) hb)
abbrev S50v2 : wS := [(55, none, sp55v2)]
theorem hS50v2 : SpecOK E (ofL S50v2) := specOK_cons h55v2 specOK_nil
abbrev L50v2 : wL := [(51000005, [0, 1, 5, 6], none, lsl50r5v2)]
def sp50v2 : Sp := fun args τ K => dP (.vec 0) args fun r1 => asCons r1 fun a2 r2 => asFn 52 a2 fun l3 l4 => asNil l3 <| asNil l4 <| asNil r2 <| dR wI true τ fun x1 r5 => asNil r5 <| c50v2 x1 (fun z1 => K (.vec 0) [.row wI z1 false]) (fun z1 z2 z3 z4 => K (.sl 0 z1 z2 z3 false) [.row wI z4 false])
theorem h50v2 : ∀ args τ K, sp50v2 args τ K → ACall E 50 args τ K := by
  intro args τ K h0
  obtain ⟨r1, rfl, h2⟩ := cP h0
  obtain ⟨a2, r2, rfl, h3⟩ := asCons_inv h2
  obtain ⟨l3, l4, rfl, h4⟩ := asFn_inv h3
  obtain ⟨rfl, rfl, h6⟩ := cM h4
  obtain ⟨rfl, h7⟩ := cN h6
  obtain ⟨x1, r5, rfl, h9⟩ := cR h7
  obtain ⟨rfl, h10⟩ := cN h9
  exact ACall.spec2 (fn := Try.f50) (c := codeOf Try.f50) (L := lofL L50v2) hS50v2 (by kernel_rfl) (by kernel_rfl) (inlOK _) (all_eq (by kernel_rfl : subsOf (E.info 50).keep (codeOf Try.f50) = [.loop (body Try.f50 5)]) (all_cons (loopOK_of (mk := 51000005) (sl := [0, 1, 5, 6]) (ss := [([0, 1, 5, 6], lsl50r5v2)]) (by kernel_rfl) (by kernel_rfl) (all_cons l50r5v2v all_nil)) all_nil)) (by kernel_rfl) h10.of
abbrev S50v3 : wS := [(55, none, sp55v2)]
theorem hS50v3 : SpecOK E (ofL S50v3) := specOK_cons h55v2 specOK_nil
abbrev L50v3 : wL := [(51000005, [0, 1, 5, 6], none, lsl50r5v2)]
def sp50v3 : Sp := fun args τ K => dP (.vec 0) args fun r1 => asCons r1 fun a2 r2 => asFn 52 a2 fun l3 l4 => asNil l3 <| asNil l4 <| asNil r2 <| dR wI false τ fun x1 r5 => asNil r5 <| c50v3 x1 (fun z1 => K (.vec 0) [.row wI z1 false]) (fun z1 z2 z3 z4 => K (.sl 0 z1 z2 z3 false) [.row wI z4 false])
theorem h50v3 : ∀ args τ K, sp50v3 args τ K → ACall E 50 args τ K := by
  intro args τ K h0
  obtain ⟨r1, rfl, h2⟩ := cP h0
  obtain ⟨a2, r2, rfl, h3⟩ := asCons_inv h2
  obtain ⟨l3, l4, rfl, h4⟩ := asFn_inv h3
  obtain ⟨rfl, rfl, h6⟩ := cM h4
  obtain ⟨rfl, h7⟩ := cN h6
  obtain ⟨x1, r5, rfl, h9⟩ := cR h7
  obtain ⟨rfl, h10⟩ := cN h9
  exact ACall.spec2 (fn := Try.f50) (c := codeOf Try.f50) (L := lofL L50v3) hS50v3 (by kernel_rfl) (by kernel_rfl) (inlOK _) (all_eq (by kernel_rfl : subsOf (E.info 50).keep (codeOf Try.f50) = [.loop (body Try.f50 5)]) (all_cons (loopOK_of (mk := 51000005) (sl := [0, 1, 5, 6]) (ss := [([0, 1, 5, 6], lsl50r5v2)]) (by kernel_rfl) (by kernel_rfl) (all_cons l50r5v2v all_nil)) all_nil)) (by kernel_rfl) h10.of
abbrev S37 : wS := [(50, some ([.fix (.vec 0), .fn 52 [] []], [.row wI true]), sp50v2), (50, some ([.fix (.vec 0), .fn 52 [] []], [.row wI false]), sp50v3)]
theorem hS37 : SpecOK E (ofL S37) := specOK_cons h50v2 (specOK_cons h50v3 specOK_nil)
def sp37 : Sp := fun args τ K => dD w3 args fun x1 r1 => asNil r1 <| asNil τ <| c37 x1 (fun z1 => K (.vec 0) [.row wI z1 false]) (fun z1 z2 z3 z4 => K (.sl 0 z1 z2 z3 false) [.row wI z4 false])
theorem h37 : ∀ args τ K, sp37 args τ K → ACall E 37 args τ K := by
  intro args τ K h0
  obtain ⟨x1, r1, rfl, h2⟩ := cD h0
  obtain ⟨rfl, rfl, h4⟩ := cM h2
  exact ACall.spec2 (fn := Try.f37) (c := codeOf Try.f37) (L := lofL nL) hS37 (by kernel_rfl) (by kernel_rfl) (inlOK _) (all_eq (by kernel_rfl) all_nil) (by kernel_rfl) h4.of
def lsl48r11 : LSp := fun vs σ K => dP (.vec 0) vs fun r1 => dP (.ptr 1 0 []) r1 fun r2 => dD wI r2 fun s1 r3 => dP (.vec 2) r3 fun r4 => dD wI r4 fun s2 r5 => dD wI r5 fun s3 r6 => asNil r6 <| dR .bool false σ fun s4 r7 => dO w0 w0 r7 fun s5 r8 => dR wI false r8 fun s6 r10 => asNil r10 <| l48r11 (fun z1 z2 z3 => K (.exit 4) [(1, .vec 0), (2, .ptr 1 0 []), (6, I z1)] [.row .bool z2 false, .one w0 (.d w0 z3)]) s1 s2 s3 s4 s5 s6
theorem l48r11v : LoopV E wF (E.info 48).keep 1 Try.f48.ntmps 49000011 (body Try.f48 11) ([1, 2, 6, 42, 43, 44], lsl48r11) := by
  intro vs σ K h0
  obtain ⟨s1, r4, rfl, h8⟩ := cPPDP h0
  obtain ⟨s2, s3, r6, rfl, h12⟩ := cDD h8
  obtain ⟨rfl, h13⟩ := cN h12
  obtain ⟨s4, r7, rfl, h15⟩ := cR h13
  obtain ⟨s5, r8, rfl, h18⟩ := oD h15
  obtain ⟨s6, r10, rfl, h20⟩ := cR h18
  obtain ⟨rfl, h21⟩ := cN h20
  intro J hJ
  have hp : ∀ c' ∈ subsOf (E.info 48).keep (body Try.f48 11), SubOK E wF (E.info 48).keep 1 Try.f48.ntmps (lofL nL) c' := all_eq (by kernel_rfl) all_nil
  exact h21.of (fun s1 s2 s3 s4 s5 s6 => J [(49000011, .undef), (1, .vec 0), (2, .ptr 1 0 []), (6, I s1), (42, .vec 2), (43, I s2), (44, I s3)] [.row .bool s4 false, .one w0 (.d w0 s5), .row wI s6 false]) (fun s1 s2 s3 s4 s5 s6 hb => loop_round2 nS (inlOK _) hp hJ (by kernel_rfl) hb)
def lsl48r11v2 : LSp := fun vs σ K => dP (.vec 0) vs fun r1 => dP (.ptr 1 0 []) r1 fun r2 => dD wI r2 fun s1 r3 => asCons r3 fun a4 r4 => asSl 2 false a4 fun s2 s3 s4 => dD wI r4 fun s5 r5 => dD wI r5 fun s6 r6 => asNil r6 <| dR .bool false σ fun s7 r7 => dO w0 w0 r7 fun s8 r8 => dR wI false r8 fun s9 r10 => asNil r10 <| l48r11v2 (fun z1 z2 z3 => K (.exit 4) [(1, .vec 0), (2, .ptr 1 0 []), (6, I z1)] [.row .bool z2 false, .one w0 (.d w0 z3)]) s1 s2 s3 s4 s5 s6 s7 s8 s9
theorem l48r11v2v : LoopV E wF (E.info 48).keep 1 Try.f48.ntmps 49000011 (body Try.f48 11) ([1, 2, 6, 42, 43, 44], lsl48r11v2) := by
  intro vs σ K h0
  obtain ⟨s1, r3, rfl, h6⟩ := cPPD h0
  obtain ⟨a4, r4, rfl, h7⟩ := asCons_inv h6
  obtain ⟨s2, s3, s4, rfl, h8⟩ := asSl_inv h7
  obtain ⟨s5, s6, r6, rfl, h12⟩ := cDD h8
  obtain ⟨rfl, h13⟩ := cN h12
  obtain ⟨s7, r7, rfl, h15⟩ := cR h13
  obtain ⟨s8, r8, rfl, h18⟩ := oD h15
  obtain ⟨s9, r10, rfl, h20⟩ := cR h18
  obtain ⟨rfl, h21⟩ := cN h20
  intro J hJ
  have hp : ∀ c' ∈ subsOf (E.info 48).keep (body Try.f48 11), SubOK E wF (E.info 48).keep 1 Try.f48.ntmps (lofL nL) c' := all_eq (by kernel_rfl) all_nil
  exact h21.of (fun s1 s2 s3 s4 s5 s6 s7 s8 s9 => J [(49000011, .undef), (1, .vec 0), (2, .ptr 1 0 []), (6, I s1), (42, .sl 2 s2 s3 s4 false), (43, I s5), (44, I s6)] [.row .bool s7 false, .one w0 (.d w0 s8), .row wI s9 false]) (fun s1 s2 s3 s4 s5 s6 s7 s8 s9 hb => loop_round2 nS (inlOK _) hp hJ (by kernel_rfl) hb)
abbrev Sl48r7 : wS := [(34, none, sp34), (37, none, sp37)]
theorem hSl48r7 : SpecOK E (ofL Sl48r7) := specOK_cons h34 (specOK_cons h37 specOK_nil)
abbrev Ll48r7 : wL := [(49000011, [1, 2, 6, 42, 43, 44], some ([.fix (.vec 0), .fix (.ptr 1 0 []), .d wI, .fix (.vec 2), .d wI, .d wI], [.row .bool false, .one w0 (.d w0), .row wI false]), lsl48r11), (49000011, [1, 2, 6, 42, 43, 44], some ([.fix (.vec 0), .fix (.ptr 1 0 []), .d wI, .sl 2 false, .d wI, .d wI], [.row .bool false, .one w0 (.d w0), .row wI false]), lsl48r11v2)]
def lsl48r7 : LSp := fun vs σ K => dP (.vec 0) vs fun r1 => dP (.ptr 1 0 []) r1 fun r2 => dD wI r2 fun s1 r3 => asNil r3 <| dR .bool false σ fun s2 r4 => dO w0 w0 r4 fun s3 r5 => asNil r5 <| l48r7 (fun z1 => K (.exit 2) [(1, .vec 0)] [.row .bool z1 false]) s1 s2 s3
theorem l48r7v : LoopV E wF (E.info 48).keep 1 Try.f48.ntmps 49000007 (body Try.f48 7) ([1, 2, 6], lsl48r7) := by
  intro vs σ K h0
  obtain ⟨s1, r3, rfl, h6⟩ := cPPD h0
  obtain ⟨rfl, h7⟩ := cN h6
  obtain ⟨s2, r4, rfl, h9⟩ := cR h7
  obtain ⟨s3, r5, rfl, h12⟩ := oD h9
  obtain ⟨rfl, h13⟩ := cN h12
  intro J hJ
  have hp : ∀ c' ∈ subsOf (E.info 48).keep (body Try.f48 7), SubOK E wF (E.info 48).keep 1 Try.f48.ntmps (lofL Ll48r7) c' := all_eq (by kernel_rfl : subsOf (E.info 48).keep (body Try.f48 7) = [.loop (body Try.f48 11)]) (all_cons (loopOK_of (mk := 49000011) (sl := [1, 2, 6, 42, 43, 44]) (ss := [([1, 2, 6, 42, 43, 44], lsl48r11), ([1, 2, 6, 42, 43, 44], lsl48r11v2)]) (by kernel_rfl) (by kernel_rfl) (all_cons l48r11v (all_cons l48r11v2v all_nil))) all_nil)
  exact h13.of (fun s1 s2 s3 => J [(49000007, .undef), (1, .vec 0), (2, .ptr 1 0 []), (6, I s1)] [.row .bool s2 false, .one w0 (.d w0 s3)]) (fun s1 s2 s3 hb => loop_round2 hSl48r7 (inlOK _) hp hJ (by kernel_rfl) hb)
def lsl48r2v2 : LSp := fun vs σ K => dP (.vec 0) vs fun r1 => dP (.ptr 1 0 []) r1 fun r2 => asCons r2 fun a3 r3 => asSl 2 false a3 fun s1 s2 s3 => dD wI r3 fun s4 r4 => dD wI r4 fun s5 r5 => asNil r5 <| dR .bool false σ fun s6 r6 => dO w0 w0 r6 fun s7 r7 => dR wI false r7 fun s8 r9 => asNil r9 <| l48r2v2 (fun z1 z2 => K (.exit 0) [(1, .vec 0), (2, .ptr 1 0 [])] [.row .bool z1 false, .one w0 (.d w0 z2)]) s1 s2 s3 s4 s5 s6 s7 s8
theorem l48r2v2v : LoopV E wF (E.info 48).keep 1 Try.f48.ntmps 49000002 (body Try.f48 2) ([1, 2, 11, 12, 13], lsl48r2v2) := by
  intro vs σ K h0
  obtain ⟨r2, rfl, h4⟩ := cPP h0
  obtain ⟨a3, r3, rfl, h5⟩ := asCons_inv h4
  obtain ⟨s1, s2, s3, rfl, h6⟩ := asSl_inv h5
  obtain ⟨s4, s5, r5, rfl, h10⟩ := cDD h6
  obtain ⟨rfl, h11⟩ := cN h10
  obtain ⟨s6, r6, rfl, h13⟩ := cR h11
  obtain ⟨s7, r7, rfl, h16⟩ := oD h13
  obtain ⟨s8, r9, rfl, h18⟩ := cR h16
  obtain ⟨rfl, h19⟩ := cN h18
  intro J hJ
  have hp : ∀ c' ∈ subsOf (E.info 48).keep (body Try.f48 2), SubOK E wF (E.info 48).keep 1 Try.f48.ntmps (lofL nL) c' := all_eq (by kernel_rfl) all_nil
  exact h19.of (fun s1 s2 s3 s4 s5 s6 s7 s8 => J [(49000002, .undef), (1, .vec 0), (2, .ptr 1 0 []), (11, .sl 2 s1 s2 s3 false), (12, I s4), (13, I s5)] [.row .bool s6 false, .one w0 (.d w0 s7), .row wI s8 false]) (fun s1 s2 s3 s4 s5 s6 s7 s8 hb => loop_round2 nS (inlOK _) hp hJ (by kernel_rfl) hb)
abbrev S48 : wS := [(33, none, sp33)]
theorem hS48 : SpecOK E (ofL S48) := specOK_cons h33 specOK_nil
abbrev L48 : wL := [(49000002, [1, 2, 11, 12, 13], some ([.fix (.vec 0), .fix (.ptr 1 0 []), .fix (.vec 2), .d wI, .d wI], [.row .bool false, .one w0 (.d w0), .row wI false]), lsl48r2), (49000007, [1, 2, 6], none, lsl48r7), (49000002, [1, 2, 11, 12, 13], some ([.fix (.vec 0), .fix (.ptr 1 0 []), .sl 2 false, .d wI, .d wI], [.row .bool false, .one w0 (.d w0), .row wI false]), lsl48r2v2)]
def sp48 : Sp := fun args τ K => dD w0 args fun x1 r1 => dP (.vec 0) r1 fun r2 => asNil r2 <| dR .bool false τ fun x2 r3 => asNil r3 <| c48 x1 x2 (fun z1 => K (.tup []) [.row .bool z1 false])
theorem h48 : ∀ args τ K, sp48 args τ K → ACall E 48 args τ K := by
  intro args τ K h0
  obtain ⟨x1, r2, rfl, h4⟩ := cDP h0
  obtain ⟨rfl, h5⟩ := cN h4
  obtain ⟨x2, r3, rfl, h7⟩ := cR h5
  obtain ⟨rfl, h8⟩ := cN h7
  exact ACall.spec2 (fn := Try.f48) (c := codeOf Try.f48) (L := lofL L48) hS48 (by kernel_rfl) (by kernel_rfl) (inlOK _) (all_eq (by kernel_rfl : subsOf (E.info 48).keep (codeOf Try.f48) = [.loop (body Try.f48 2), .loop (body Try.f48 7)]) (all_cons (loopOK_of (mk := 49000002) (sl := [1, 2, 11, 12, 13]) (ss := [([1, 2, 11, 12, 13], lsl48r2), ([1, 2, 11, 12, 13], lsl48r2v2)]) (by kernel_rfl) (by kernel_rfl) (all_cons l48r2v (all_cons l48r2v2v all_nil))) (all_cons (loopOK_of (mk := 49000007) (sl := [1, 2, 6]) (ss := [([1, 2, 6], lsl48r7)]) (by kernel_rfl) (by kernel_rfl) (all_cons l48r7v all_nil)) all_nil))) (by kernel_rfl) h8.of
def lsl49r4 : LSp := fun vs σ K => dD (.sl .bool) vs fun s1 r1 => dD (.sl .bool) r1 fun s2 r2 => dD wI r2 fun s3 r3 => dD wI r3 fun s4 r4 => asNil r4 <| asNil σ <| l49r4 (fun z1 => K .ret [(4, B z1)] []) (K (.exit 0) [(4, .undef)] []) s1 s2 s3 s4
theorem l49r4v : LoopV E wF (E.info 49).keep 0 Try.f49.ntmps 50000004 (body Try.f49 4) ([0, 1, 12, 13], lsl49r4) := by
  intro vs σ K h0
  obtain ⟨s1, s2, s3, s4, r4, rfl, h8⟩ := cDDDD h0
  obtain ⟨rfl, rfl, h10⟩ := cM h8
  intro J hJ
  have hp : wH 49 Try.f49 (body Try.f49 4) nL := all_eq (by kernel_rfl) all_nil
  exact h10.of (fun s1 s2 s3 s4 => J [(50000004, .undef), (0, .d (.sl .bool) s1), (1, .d (.sl .bool) s2), (12, I s3), (13, I s4)] []) (fun s1 s2 s3 s4 hb => loop_round2 nS (inlOK _) hp hJ (by kernel_rfl) hb)
abbrev L49 : wL := [(50000004, [0, 1, 12, 13], none, lsl49r4)]
def sp49 : Sp := fun args τ K => dD (.sl .bool) args fun x1 r1 => dD (.sl .bool) r1 fun x2 r2 => asNil r2 <| asNil τ <| c49 x1 x2 (fun z1 => K (B z1) [])
theorem h49 : ∀ args τ K, sp49 args τ K → ACall E 49 args τ K := by
  intro args τ K h0
  obtain ⟨x1, x2, r2, rfl, h4⟩ := cDD h0
  obtain ⟨rfl, rfl, h6⟩ := cM h4
  exact ACall.spec2 (fn := Try.f49) (c := codeOf Try.f49) (L := lofL L49) nS (by kernel_rfl) (by kernel_rfl) (inlOK _) (all_eq (by kernel_rfl : subsOf (E.info 49).keep (codeOf Try.f49) = [.loop (body Try.f49 4)]) (all_cons (loopOK_of (mk := 50000004) (sl := [0, 1, 12, 13]) (ss := [([0, 1, 12, 13], lsl49r4)]) (by kernel_rfl) (by kernel_rfl) (all_cons l49r4v all_nil)) all_nil)) (by kernel_rfl) h6.of
abbrev Sl30r11 : wS := [(47, none, sp47), (48, none, sp48), (49, none, sp49)]
theorem hSl30r11 : SpecOK E (ofL Sl30r11) := specOK_cons h47 (specOK_cons h48 (specOK_cons h49 specOK_nil))
def lsl30r11 : LSp := fun vs σ K => dP (.ptr 0 0 []) vs fun r1 => dP (.vec 1) r1 fun r2 => dD .bool r2 fun s1 r3 => dD wI r3 fun s2 r4 => asNil r4 <| dO w1 w1 σ fun s3 r5 => asCons r5 fun a7 r7 => asDeep .bool a7 fun s4 l8 => asNil l8 <| asNil r7 <| l30r11 (fun z1 z2 z3 => K (.exit 4) [(1, .ptr 0 0 []), (3, .vec 1), (5, B z1)] [.one w1 (.d w1 z2), .deep .bool z3 []]) s1 s2 s3 s4
theorem l30r11v : LoopV E wF (E.info 30).keep 0 Try.f30.ntmps 31000011 (body Try.f30 11) ([1, 3, 5, 6], lsl30r11) := by
  intro vs σ K h0
  obtain ⟨s1, s2, r4, rfl, h8⟩ := cPPDD h0
  obtain ⟨rfl, h9⟩ := cN h8
  obtain ⟨s3, r5, rfl, h12⟩ := oD h9
  obtain ⟨a7, r7, rfl, h13⟩ := asCons_inv h12
  obtain ⟨s4, l8, rfl, h14⟩ := asDeep_inv h13
  obtain ⟨rfl, rfl, h16⟩ := cM h14
  intro J hJ
  have hp : wH 30 Try.f30 (body Try.f30 11) nL := all_eq (by kernel_rfl) all_nil
  exact h16.of (fun s1 s2 s3 s4 => J [(31000011, .undef), (1, .ptr 0 0 []), (3, .vec 1), (5, B s1), (6, I s2)] [.one w1 (.d w1 s3), .deep .bool s4 []]) (fun s1 s2 s3 s4 hb => loop_round2 hSl30r11 (inlOK _) hp hJ (by kernel_rfl) hb)
abbrev Ll30r8 : wL := [(31000011, [1, 3, 5, 6], none, lsl30r11)]
def lsl30r8 : LSp := fun vs σ K => dP (.ptr 0 0 []) vs fun r1 => dP (.vec 1) r1 fun r2 => dD .bool r2 fun s1 r3 => asNil r3 <| dO w1 w1 σ fun s2 r4 => asCons r4 fun a6 r6 => asDeep .bool a6 fun s3 l7 => asNil l7 <| asNil r6 <| l30r8 (fun z1 => K (.exit 2) [(3, .vec 0)] [.deep .bool z1 []]) s1 s2 s3
theorem l30r8v : LoopV E wF (E.info 30).keep 0 Try.f30.ntmps 31000008 (body Try.f30 8) ([1, 3, 5], lsl30r8) := by
  intro vs σ K h0
  obtain ⟨s1, r3, rfl, h6⟩ := cPPD h0
  obtain ⟨rfl, h7⟩ := cN h6
  obtain ⟨s2, r4, rfl, h10⟩ := oD h7
  obtain ⟨a6, r6, rfl, h11⟩ := asCons_inv h10
  obtain ⟨s3, l7, rfl, h12⟩ := asDeep_inv h11
  obtain ⟨rfl, rfl, h14⟩ := cM h12
  intro J hJ
  have hp : wH 30 Try.f30 (body Try.f30 8) Ll30r8 := all_eq (by kernel_rfl : subsOf (E.info 30).keep (body Try.f30 8) = [.loop (body Try.f30 11)]) (all_cons (loopOK_of (mk := 31000011) (sl := [1, 3, 5, 6]) (ss := [([1, 3, 5, 6], lsl30r11)]) (by kernel_rfl) (by kernel_rfl) (all_cons l30r11v all_nil)) all_nil)
  exact h14.of (fun s1 s2 s3 => J [(31000008, .undef), (1, .ptr 0 0 []), (3, .vec 1), (5, B s1)] [.one w1 (.d w1 s2), .deep .bool s3 []]) (fun s1 s2 s3 hb => loop_round2 nS (inlOK _) hp hJ (by kernel_rfl) hb)
abbrev L30 : wL := [(31000003, [1, 3, 13, 14], none, lsl30r3), (31000008, [1, 3, 5], none, lsl30r8)]
def sp30 : Sp := fun args τ K => dD w1 args fun x1 r1 => asNil r1 <| asNil τ <| c30 x1 (fun z1 => K (.vec 0) [.deep .bool z1 []])
theorem h30 : ∀ args τ K, sp30 args τ K → ACall E 30 args τ K := by
  intro args τ K h0
  obtain ⟨x1, r1, rfl, h2⟩ := cD h0
  obtain ⟨rfl, rfl, h4⟩ := cM h2
  exact ACall.spec2 (fn := Try.f30) (c := codeOf Try.f30) (L := lofL L30) nS (by kernel_rfl) (by kernel_rfl) (inlOK _) (all_eq (by kernel_rfl : subsOf (E.info 30).keep (codeOf Try.f30) = [.loop (body Try.f30 3), .loop (body Try.f30 8)]) (all_cons (loopOK_of (mk := 31000003) (sl := [1, 3, 13, 14]) (ss := [([1, 3, 13, 14], lsl30r3)]) (by kernel_rfl) (by kernel_rfl) (all_cons l30r3v all_nil)) (all_cons (loopOK_of (mk := 31000008) (sl := [1, 3, 5]) (ss := [([1, 3, 5], lsl30r8)]) (by kernel_rfl) (by kernel_rfl) (all_cons l30r8v all_nil)) all_nil))) (by kernel_rfl) h4.of
abbrev Sl12r33 : wS := [(27, none, sp27)]
theorem hSl12r33 : SpecOK E (ofL Sl12r33) := specOK_cons h27 specOK_nil
def lsl12r33 : LSp := fun vs σ K => dP (.ptr 0 0 []) vs fun r1 => dP (.vec 1) r1 fun r2 => dD wI r2 fun s1 r3 => asNil r3 <| dO w1 w1 σ fun s2 r4 => asCons r4 fun a6 r6 => asDeep .bool a6 fun s3 l7 => asNil l7 <| asNil r6 <| l12r33 (fun z1 => K .ret [(2, I z1)] []) (K (.exit 6) [(2, .undef)] []) s1 s2 s3
theorem l12r33v : LoopV E wF (E.info 12).keep 0 Try.f12.ntmps 13000033 (body Try.f12 33) ([1, 12, 13], lsl12r33) := by
  intro vs σ K h0
  obtain ⟨s1, r3, rfl, h6⟩ := cPPD h0
  obtain ⟨rfl, h7⟩ := cN h6
  obtain ⟨s2, r4, rfl, h10⟩ := oD h7
  obtain ⟨a6, r6, rfl, h11⟩ := asCons_inv h10
  obtain ⟨s3, l7, rfl, h12⟩ := asDeep_inv h11
  obtain ⟨rfl, rfl, h14⟩ := cM h12
  intro J hJ
  have hp : wH 12 Try.f12 (body Try.f12 33) nL := all_eq (by kernel_rfl) all_nil
  exact h14.of (fun s1 s2 s3 => J [(13000033, .undef), (1, .ptr 0 0 []), (12, .vec 1), (13, I s1)] [.one w1 (.d w1 s2), .deep .bool s3 []]) (fun s1 s2 s3 hb => loop_round2 hSl12r33 (inlOK _) hp hJ (by kernel_rfl) hb)
abbrev S12 : wS := [(26, none, sp26), (30, none, sp30)]
theorem hS12 : SpecOK E (ofL S12) := specOK_cons h26 (specOK_cons h30 specOK_nil)
abbrev L12 : wL := [(13000006, [1, 35, 36, 37], none, lsl12r6), (13000015, [1, 5, 56, 57, 58], none, lsl12r15), (13000033, [1, 12, 13], none, lsl12r33)]
def sp12 : Sp := fun args τ K => dD w1 args fun x1 r1 => asNil r1 <| asNil τ <| c12 x1 (fun z1 => K (I z1) [])
theorem h12 : ∀ args τ K, sp12 args τ K → ACall E 12 args τ K := by
  intro args τ K h0
  obtain ⟨x1, r1, rfl, h2⟩ := cD h0
  obtain ⟨rfl, rfl, h4⟩ := cM h2
  exact ACall.spec2 (fn := Try.f12) (c := codeOf Try.f12) (L := lofL L12) hS12 (by kernel_rfl) (by kernel_rfl) (inlOK _) (all_eq (by kernel_rfl : subsOf (E.info 12).keep (codeOf Try.f12) = [.loop (body Try.f12 6), .loop (body Try.f12 15), .loop (body Try.f12 33)]) (all_cons (loopOK_of (mk := 13000006) (sl := [1, 35, 36, 37]) (ss := [([1, 35, 36, 37], lsl12r6)]) (by kernel_rfl) (by kernel_rfl) (all_cons l12r6v all_nil)) (all_cons (loopOK_of (mk := 13000015) (sl := [1, 5, 56, 57, 58]) (ss := [([1, 5, 56, 57, 58], lsl12r15)]) (by kernel_rfl) (by kernel_rfl) (all_cons l12r15v all_nil)) (all_cons (loopOK_of (mk := 13000033) (sl := [1, 12, 13]) (ss := [([1, 12, 13], lsl12r33)]) (by kernel_rfl) (by kernel_rfl) (all_cons l12r33v all_nil)) all_nil)))) (by kernel_rfl) h4.of
def lsl13r3 : LSp := fun vs σ K => dP (.ptr 0 0 []) vs fun r1 => dP (.ptr 1 0 []) r1 fun r2 => dD wI r2 fun s1 r3 => dD wI r3 fun s2 r4 => asNil r4 <| dO w1 w1 σ fun s3 r5 => dQ (.opq .ptr) (.ptr 2 0 []) r5 fun r7 => asCons r7 fun a9 r9 => asOne w2 a9 fun a10 => asAgL a10 fun l11 => dP (.vec 3) l11 fun r12 => dP (.vec 4) r12 fun r13 => dP (.vec 5) r13 fun r14 => dP (.vec 6) r14 fun r15 => asNil r15 <| asCons r9 fun a16 r16 => asDeep .bool a16 fun s4 l17 => asNil l17 <| dR .bool false r16 fun s5 r18 => dR .bool false r18 fun s6 r19 => dR (.arr 2 wI) false r19 fun s7 r20 => asNil r20 <| l13r3 (fun z1 z2 z3 z4 z5 => K (.exit 0) [(1, .ptr 0 0 []), (3, .ptr 1 0 [])] [.one w1 (.d w1 z1), .one (.opq .ptr) (.ptr 2 0 []), .one w2 (.agg [.vec 3, .vec 4, .vec 5, .vec 6]), .deep .bool z2 [], .row .bool z3 false, .row .bool z4 false, .row (.arr 2 wI) z5 false]) s1 s2 s3 s4 s5 s6 s7
theorem l13r3v : LoopV E wF (E.info 13).keep 0 Try.f13.ntmps 14000003 (body Try.f13 3) ([1, 3, 30, 31], lsl13r3) := by
  intro vs σ K h0
  obtain ⟨s1, s2, r4, rfl, h8⟩ := cPPDD h0
  obtain ⟨rfl, h9⟩ := cN h8
  obtain ⟨s3, r5, rfl, h12⟩ := oD h9
  obtain ⟨r7, rfl, h15⟩ := oP h12
  obtain ⟨a9, r9, rfl, h16⟩ := asCons_inv h15
  obtain ⟨a10, rfl, h17⟩ := asOne_inv h16
  obtain ⟨l11, rfl, h18⟩ := asAgL_inv h17
  obtain ⟨r15, rfl, h26⟩ := cPPPP h18
  obtain ⟨rfl, h27⟩ := cN h26
  obtain ⟨a16, r16, rfl, h28⟩ := asCons_inv h27
  obtain ⟨s4, l17, rfl, h29⟩ := asDeep_inv h28
  obtain ⟨rfl, h30⟩ := cN h29
  obtain ⟨s5, r18, rfl, h32⟩ := cR h30
  obtain ⟨s6, r19, rfl, h34⟩ := cR h32
  obtain ⟨s7, r20, rfl, h36⟩ := cR h34
  obtain ⟨rfl, h37⟩ := cN h36
  intro J hJ
  have hp : wH 13 Try.f13 (body Try.f13 3) nL := all_eq (by kernel_rfl) all_nil
  exact h37.of (fun s1 s2 s3 s4 s5 s6 s7 => J [(14000003, .undef), (1, .ptr 0 0 []), (3, .ptr 1 0 []), (30, I s1), (31, I s2)] [.one w1 (.d w1 s3), .one (.opq .ptr) (.ptr 2 0 []), .one w2 (.agg [.vec 3, .vec 4, .vec 5, .vec 6]), .deep .bool s4 [], .row .bool s5 false, .row .bool s6 false, .row (.arr 2 wI) s7 false]) (fun s1 s2 s3 s4 s5 s6 s7 hb => loop_round2 nS (inlOK _) hp hJ (by kernel_rfl) hb)
abbrev Sl31r6 : wS := [(47, none, sp47)]
theorem hSl31r6 : SpecOK E (ofL Sl31r6) := specOK_cons h47 specOK_nil
def lsl31r6 : LSp := fun vs σ K => dP (.ptr 0 0 []) vs fun r1 => dP (.vec 1) r1 fun r2 => dP (.vec 2) r2 fun r3 => dD wI r3 fun s1 r4 => dD wI r4 fun s2 r5 => asNil r5 <| dO w1 w1 σ fun s3 r6 => asCons r6 fun a8 r8 => asDeep .bool a8 fun s4 l9 => asNil l9 <| asCons r8 fun a10 r10 => asDeep .bool a10 fun s5 l11 => asNil l11 <| asNil r10 <| l31r6 (fun z1 z2 => K (.exit 0) [(2, .vec 0), (3, .vec 1)] [.deep .bool z1 [], .deep .bool z2 []]) s1 s2 s3 s4 s5
theorem l31r6v : LoopV E wF (E.info 31).keep 0 Try.f31.ntmps 32000006 (body Try.f31 6) ([1, 2, 3, 16, 17], lsl31r6) := by
  intro vs σ K h0
  obtain ⟨s1, r4, rfl, h8⟩ := cPPPD h0
  obtain ⟨s2, r5, rfl, h10⟩ := cD h8
  obtain ⟨rfl, h11⟩ := cN h10
  obtain ⟨s3, r6, rfl, h14⟩ := oD h11
  obtain ⟨a8, r8, rfl, h15⟩ := asCons_inv h14
  obtain ⟨s4, l9, rfl, h16⟩ := asDeep_inv h15
  obtain ⟨rfl, h17⟩ := cN h16
  obtain ⟨a10, r10, rfl, h18⟩ := asCons_inv h17
  obtain ⟨s5, l11, rfl, h19⟩ := asDeep_inv h18
  obtain ⟨rfl, rfl, h21⟩ := cM h19
  intro J hJ
  have hp : wH 31 Try.f31 (body Try.f31 6) nL := all_eq (by kernel_rfl) all_nil
  exact h21.of (fun s1 s2 s3 s4 s5 => J [(32000006, .undef), (1, .ptr 0 0 []), (2, .vec 1), (3, .vec 2), (16, I s1), (17, I s2)] [.one w1 (.d w1 s3), .deep .bool s4 [], .deep .bool s5 []]) (fun s1 s2 s3 s4 s5 hb => loop_round2 hSl31r6 (inlOK _) hp hJ (by kernel_rfl) hb)
abbrev S31 : wS := [(12, none, sp12), (30, none, sp30)]
theorem hS31 : SpecOK E (ofL S31) := specOK_cons h12 (specOK_cons h30 specOK_nil)
abbrev L31 : wL := [(32000006, [1, 2, 3, 16, 17], none, lsl31r6)]
def sp31 : Sp := fun args τ K => dD w1 args fun x1 r1 => asNil r1 <| asNil τ <| c31 x1 (fun z1 z2 z3 => K (.tup [.vec 0, .vec 1, I z1]) [.deep .bool z2 [], .deep .bool z3 []])
theorem h31 : ∀ args τ K, sp31 args τ K → ACall E 31 args τ K := by
  intro args τ K h0
  obtain ⟨x1, r1, rfl, h2⟩ := cD h0
  obtain ⟨rfl, rfl, h4⟩ := cM h2
  exact ACall.spec2 (fn := Try.f31) (c := codeOf Try.f31) (L := lofL L31) hS31 (by kernel_rfl) (by kernel_rfl) (inlOK _) (all_eq (by kernel_rfl : subsOf (E.info 31).keep (codeOf Try.f31) = [.loop (body Try.f31 6)]) (all_cons (loopOK_of (mk := 32000006) (sl := [1, 2, 3, 16, 17]) (ss := [([1, 2, 3, 16, 17], lsl31r6)]) (by kernel_rfl) (by kernel_rfl) (all_cons l31r6v all_nil)) all_nil)) (by kernel_rfl) h4.of
def lsl32r1 : LSp := fun vs σ K => dP (.ptr 0 0 []) vs fun r1 => dP (.ptr 2 0 []) r1 fun r2 => dD (.sl wI) r2 fun s1 r3 => dD wI r3 fun s2 r4 => dD wI r4 fun s3 r5 => asNil r5 <| dQ (.sl .bool) (.vec 1) σ fun r6 => dR .bool false r6 fun s4 r8 => dQ (.opq .ptr) (.ptr 3 0 []) r8 fun r9 => asCons r9 fun a11 r11 => asOne w2 a11 fun a12 => asAgL a12 fun l13 => dP (.vec 4) l13 fun r14 => dP (.vec 5) r14 fun r15 => dP (.vec 6) r15 fun r16 => dP (.vec 7) r16 fun r17 => asNil r17 <| asCons r11 fun a18 r18 => asDeep .bool a18 fun s5 l19 => asNil l19 <| dR .bool false r18 fun s6 r20 => dR .bool false r20 fun s7 r21 => dR (.arr 2 wI) false r21 fun s8 r22 => asNil r22 <| l32r1 (fun z1 z2 z3 z4 z5 => K (.exit 0) [] [.one (.sl .bool) (.vec 1), .row .bool z1 false, .one (.opq .ptr) (.ptr 3 0 []), .one w2 (.agg [.vec 4, .vec 5, .vec 6, .vec 7]), .deep .bool z2 [], .row .bool z3 false, .row .bool z4 false, .row (.arr 2 wI) z5 false]) s1 s2 s3 s4 s5 s6 s7 s8
theorem l32r1v : LoopV E wF (E.info 32).keep 8 Try.f32.ntmps 33000001 (body Try.f32 1) ([1, 2, 6, 7, 8], lsl32r1) := by
  intro vs σ K h0
  obtain ⟨s1, s2, r4, rfl, h8⟩ := cPPDD h0
  obtain ⟨s3, r5, rfl, h10⟩ := cD h8
  obtain ⟨rfl, h11⟩ := cN h10
  obtain ⟨r6, rfl, h14⟩ := oP h11
  obtain ⟨s4, r8, rfl, h16⟩ := cR h14
  obtain ⟨r9, rfl, h19⟩ := oP h16
  obtain ⟨a11, r11, rfl, h20⟩ := asCons_inv h19
  obtain ⟨a12, rfl, h21⟩ := asOne_inv h20
  obtain ⟨l13, rfl, h22⟩ := asAgL_inv h21
  obtain ⟨r17, rfl, h30⟩ := cPPPP h22
  obtain ⟨rfl, h31⟩ := cN h30
  obtain ⟨a18, r18, rfl, h32⟩ := asCons_inv h31
  obtain ⟨s5, l19, rfl, h33⟩ := asDeep_inv h32
  obtain ⟨rfl, h34⟩ := cN h33
  obtain ⟨s6, r20, rfl, h36⟩ := cR h34
  obtain ⟨s7, r21, rfl, h38⟩ := cR h36
  obtain ⟨s8, r22, rfl, h40⟩ := cR h38
  obtain ⟨rfl, h41⟩ := cN h40
  intro J hJ
  have hp : ∀ c' ∈ subsOf (E.info 32).keep (body Try.f32 1), SubOK E wF (E.info 32).keep 8 Try.f32.ntmps (lofL nL) c' := all_eq (by kernel_rfl) all_nil
  exact h41.of (fun s1 s2 s3 s4 s5 s6 s7 s8 => J [(33000001, .undef), (1, .ptr 0 0 []), (2, .ptr 2 0 []), (6, .d (.sl wI) s1), (7, I s2), (8, I s3)] [.one (.sl .bool) (.vec 1), .row .bool s4 false, .one (.opq .ptr) (.ptr 3 0 []), .one w2 (.agg [.vec 4, .vec 5, .vec 6, .vec 7]), .deep .bool s5 [], .row .bool s6 false, .row .bool s7 false, .row (.arr 2 wI) s8 false]) (fun s1 s2 s3 s4 s5 s6 s7 s8 hb => loop_round2 nS (inlOK _) hp hJ (by kernel_rfl) hb)
abbrev L32 : wL := [(33000001, [1, 2, 6, 7, 8], none, lsl32r1)]
def sp32 : Sp := fun args τ K => dD (.sl wI) args fun x1 r1 => dP (.ptr 0 0 []) r1 fun r2 => dP (.ptr 2 0 []) r2 fun r3 => asNil r3 <| dQ (.sl .bool) (.vec 1) τ fun r4 => dR .bool false r4 fun x2 r6 => dQ (.opq .ptr) (.ptr 3 0 []) r6 fun r7 => asCons r7 fun a9 r9 => asOne w2 a9 fun a10 => asAgL a10 fun l11 => dP (.vec 4) l11 fun r12 => dP (.vec 5) r12 fun r13 => dP (.vec 6) r13 fun r14 => dP (.vec 7) r14 fun r15 => asNil r15 <| asCons r9 fun a16 r16 => asDeep .bool a16 fun x3 l17 => asNil l17 <| dR .bool false r16 fun x4 r18 => dR .bool false r18 fun x5 r19 => dR (.arr 2 wI) false r19 fun x6 r20 => asNil r20 <| c32 x1 x2 x3 x4 x5 x6 (fun z1 z2 z3 z4 z5 => K (.tup []) [.one (.sl .bool) (.vec 1), .row .bool z1 false, .one (.opq .ptr) (.ptr 3 0 []), .one w2 (.agg [.vec 4, .vec 5, .vec 6, .vec 7]), .deep .bool z2 [], .row .bool z3 false, .row .bool z4 false, .row (.arr 2 wI) z5 false])
theorem h32 : ∀ args τ K, sp32 args τ K → ACall E 32 args τ K := by
  intro args τ K h0
  obtain ⟨x1, r3, rfl, h6⟩ := cDPP h0
  obtain ⟨rfl, h7⟩ := cN h6
  obtain ⟨r4, rfl, h10⟩ := oP h7
  obtain ⟨x2, r6, rfl, h12⟩ := cR h10
  obtain ⟨r7, rfl, h15⟩ := oP h12
  obtain ⟨a9, r9, rfl, h16⟩ := asCons_inv h15
  obtain ⟨a10, rfl, h17⟩ := asOne_inv h16
  obtain ⟨l11, rfl, h18⟩ := asAgL_inv h17
  obtain ⟨r15, rfl, h26⟩ := cPPPP h18
  obtain ⟨rfl, h27⟩ := cN h26
  obtain ⟨a16, r16, rfl, h28⟩ := asCons_inv h27
  obtain ⟨x3, l17, rfl, h29⟩ := asDeep_inv h28
  obtain ⟨rfl, h30⟩ := cN h29
  obtain ⟨x4, r18, rfl, h32⟩ := cR h30
  obtain ⟨x5, r19, rfl, h34⟩ := cR h32
  obtain ⟨x6, r20, rfl, h36⟩ := cR h34
  obtain ⟨rfl, h37⟩ := cN h36
  exact ACall.spec2 (fn := Try.f32) (c := codeOf Try.f32) (L := lofL L32) nS (by kernel_rfl) (by kernel_rfl) (inlOK _) (all_eq (by kernel_rfl : subsOf (E.info 32).keep (codeOf Try.f32) = [.loop (body Try.f32 1)]) (all_cons (loopOK_of (mk := 33000001) (sl := [1, 2, 6, 7, 8]) (ss := [([1, 2, 6, 7, 8], lsl32r1)]) (by kernel_rfl) (by kernel_rfl) (all_cons l32r1v all_nil)) all_nil)) (by kernel_rfl) h37.of
def sp38 : Sp := fun args τ K => dP (.ptr 0 0 []) args fun r1 => dD wI r1 fun x1 r2 => dD wI r2 fun x2 r3 => asNil r3 <| asCons τ fun a4 r4 => asOne w2 a4 fun a5 => asAgL a5 fun l6 => dP (.vec 1) l6 fun r7 => dP (.vec 2) r7 fun r8 => dP (.vec 3) r8 fun r9 => dP (.vec 4) r9 fun r10 => asNil r10 <| asCons r4 fun a11 r11 => asDeep .bool a11 fun x3 l12 => asNil l12 <| dR .bool false r11 fun x4 r13 => dR .bool false r13 fun x5 r14 => dR (.arr 2 wI) false r14 fun x6 r15 => asNil r15 <| c38 x1 x2 x3 x4 x5 x6 (fun z1 z2 z3 z4 => K (.tup []) [.one w2 (.agg [.vec 1, .vec 2, .vec 3, .vec 4]), .deep .bool z1 [], .row .bool z2 false, .row .bool z3 false, .row (.arr 2 wI) z4 false])
theorem h38 : ∀ args τ K, sp38 args τ K → ACall E 38 args τ K := by
  intro args τ K h0
  obtain ⟨x1, x2, r3, rfl, h6⟩ := cPDD h0
  obtain ⟨rfl, h7⟩ := cN h6
  obtain ⟨a4, r4, rfl, h8⟩ := asCons_inv h7
  obtain ⟨a5, rfl, h9⟩ := asOne_inv h8
  obtain ⟨l6, rfl, h10⟩ := asAgL_inv h9
  obtain ⟨r10, rfl, h18⟩ := cPPPP h10
  obtain ⟨rfl, h19⟩ := cN h18
  obtain ⟨a11, r11, rfl, h20⟩ := asCons_inv h19
  obtain ⟨x3, l12, rfl, h21⟩ := asDeep_inv h20
  obtain ⟨rfl, h22⟩ := cN h21
  obtain ⟨x4, r13, rfl, h24⟩ := cR h22
  obtain ⟨x5, r14, rfl, h26⟩ := cR h24
  obtain ⟨x6, r15, rfl, h28⟩ := cR h26
  obtain ⟨rfl, h29⟩ := cN h28
  exact ACall.spec2 (fn := Try.f38) (c := codeOf Try.f38) (L := lofL nL) nS (by kernel_rfl) (by kernel_rfl) (inlOK _) (all_eq (by kernel_rfl) all_nil) (by kernel_rfl) h29.of
abbrev Sl35r1 : wS := [(38, none, sp38)]
theorem hSl35r1 : SpecOK E (ofL Sl35r1) := specOK_cons h38 specOK_nil
def lsl35r1 : LSp := fun vs σ K => dP (.ptr 0 0 []) vs fun r1 => dD wI r1 fun s1 r2 => dD wI r2 fun s2 r3 => dD (.sl .bool) r3 fun s3 r4 => dD wI r4 fun s4 r5 => dD wI r5 fun s5 r6 => asNil r6 <| asCons σ fun a7 r7 => asOne w2 a7 fun a8 => asAgL a8 fun l9 => dP (.vec 1) l9 fun r10 => dP (.vec 2) r10 fun r11 => dP (.vec 3) r11 fun r12 => dP (.vec 4) r12 fun r13 => asNil r13 <| asCons r7 fun a14 r14 => asDeep .bool a14 fun s6 l15 => asNil l15 <| dR .bool false r14 fun s7 r16 => dR .bool false r16 fun s8 r17 => dR (.arr 2 wI) false r17 fun s9 r18 => asNil r18 <| l35r1 (fun z1 z2 z3 z4 => K (.exit 0) [] [.one w2 (.agg [.vec 1, .vec 2, .vec 3, .vec 4]), .deep .bool z1 [], .row .bool z2 false, .row .bool z3 false, .row (.arr 2 wI) z4 false]) s1 s2 s3 s4 s5 s6 s7 s8 s9
theorem l35r1v : LoopV E wF (E.info 35).keep 5 Try.f35.ntmps 36000001 (body Try.f35 1) ([0, 1, 2, 10, 11, 12], lsl35r1) := by
  intro vs σ K h0
  obtain ⟨s1, s2, s3, r4, rfl, h8⟩ := cPDDD h0
  obtain ⟨s4, s5, r6, rfl, h12⟩ := cDD h8
  obtain ⟨rfl, h13⟩ := cN h12
  obtain ⟨a7, r7, rfl, h14⟩ := asCons_inv h13
  obtain ⟨a8, rfl, h15⟩ := asOne_inv h14
  obtain ⟨l9, rfl, h16⟩ := asAgL_inv h15
  obtain ⟨r13, rfl, h24⟩ := cPPPP h16
  obtain ⟨rfl, h25⟩ := cN h24
  obtain ⟨a14, r14, rfl, h26⟩ := asCons_inv h25
  obtain ⟨s6, l15, rfl, h27⟩ := asDeep_inv h26
  obtain ⟨rfl, h28⟩ := cN h27
  obtain ⟨s7, r16, rfl, h30⟩ := cR h28
  obtain ⟨s8, r17, rfl, h32⟩ := cR h30
  obtain ⟨s9, r18, rfl, h34⟩ := cR h32
  obtain ⟨rfl, h35⟩ := cN h34
  intro J hJ
  have hp : ∀ c' ∈ subsOf (E.info 35).keep (body Try.f35 1), SubOK E wF (E.info 35).keep 5 Try.f35.ntmps (lofL nL) c' := all_eq (by kernel_rfl) all_nil
  exact h35.of (fun s1 s2 s3 s4 s5 s6 s7 s8 s9 => J [(36000001, .undef), (0, .ptr 0 0 []), (1, I s1), (2, I s2), (10, .d (.sl .bool) s3), (11, I s4), (12, I s5)] [.one w2 (.agg [.vec 1, .vec 2, .vec 3, .vec 4]), .deep .bool s6 [], .row .bool s7 false, .row .bool s8 false, .row (.arr 2 wI) s9 false]) (fun s1 s2 s3 s4 s5 s6 s7 s8 s9 hb => loop_round2 hSl35r1 (inlOK _) hp hJ (by kernel_rfl) hb)
abbrev L35 : wL := [(36000001, [0, 1, 2, 10, 11, 12], none, lsl35r1)]
def sp35 : Sp := fun args τ K => dP (.ptr 0 0 []) args fun r1 => dD wI r1 fun x1 r2 => dD wI r2 fun x2 r3 => dD (.sl .bool) r3 fun x3 r4 => asNil r4 <| asCons τ fun a5 r5 => asOne w2 a5 fun a6 => asAgL a6 fun l7 => dP (.vec 1) l7 fun r8 => dP (.vec 2) r8 fun r9 => dP (.vec 3) r9 fun r10 => dP (.vec 4) r10 fun r11 => asNil r11 <| asCons r5 fun a12 r12 => asDeep .bool a12 fun x4 l13 => asNil l13 <| dR .bool false r12 fun x5 r14 => dR .bool false r14 fun x6 r15 => dR (.arr 2 wI) false r15 fun x7 r16 => asNil r16 <| c35 x1 x2 x3 x4 x5 x6 x7 (fun z1 z2 z3 z4 => K (.tup []) [.one w2 (.agg [.vec 1, .vec 2, .vec 3, .vec 4]), .deep .bool z1 [], .row .bool z2 false, .row .bool z3 false, .row (.arr 2 wI) z4 false])
theorem h35 : ∀ args τ K, sp35 args τ K → ACall E 35 args τ K := by
  intro args τ K h0
  obtain ⟨x1, x2, x3, r4, rfl, h8⟩ := cPDDD h0
  obtain ⟨rfl, h9⟩ := cN h8
  obtain ⟨a5, r5, rfl, h10⟩ := asCons_inv h9
  obtain ⟨a6, rfl, h11⟩ := asOne_inv h10
  obtain ⟨l7, rfl, h12⟩ := asAgL_inv h11
  obtain ⟨r11, rfl, h20⟩ := cPPPP h12
  obtain ⟨rfl, h21⟩ := cN h20
  obtain ⟨a12, r12, rfl, h22⟩ := asCons_inv h21
  obtain ⟨x4, l13, rfl, h23⟩ := asDeep_inv h22
  obtain ⟨rfl, h24⟩ := cN h23
  obtain ⟨x5, r14, rfl, h26⟩ := cR h24
  obtain ⟨x6, r15, rfl, h28⟩ := cR h26
  obtain ⟨x7, r16, rfl, h30⟩ := cR h28
  obtain ⟨rfl, h31⟩ := cN h30
  exact ACall.spec2 (fn := Try.f35) (c := codeOf Try.f35) (L := lofL L35) nS (by kernel_rfl) (by kernel_rfl) (inlOK _) (all_eq (by kernel_rfl : subsOf (E.info 35).keep (codeOf Try.f35) = [.loop (body Try.f35 1)]) (all_cons (loopOK_of (mk := 36000001) (sl := [0, 1, 2, 10, 11, 12]) (ss := [([0, 1, 2, 10, 11, 12], lsl35r1)]) (by kernel_rfl) (by kernel_rfl) (all_cons l35r1v all_nil)) all_nil)) (by kernel_rfl) h31.of
def sp36 : Sp := fun args τ K => dD wI args fun x1 r1 => asNil r1 <| asNil τ <| c36 x1 (fun z1 => K (B z1) [])
theorem h36 : ∀ args τ K, sp36 args τ K → ACall E 36 args τ K := by
  intro args τ K h0
  obtain ⟨x1, r1, rfl, h2⟩ := cD h0
  obtain ⟨rfl, rfl, h4⟩ := cM h2
  exact ACall.spec2 (fn := Try.f36) (c := codeOf Try.f36) (L := lofL nL) nS (by kernel_rfl) (by kernel_rfl) (inlOK _) (all_eq (by kernel_rfl) all_nil) (by kernel_rfl) h4.of
def lsl13r26 : LSp := fun vs σ K => dP (.ptr 0 0 []) vs fun r1 => dP (.ptr 1 0 []) r1 fun r2 => dP (.vec 7) r2 fun r3 => dP (.vec 8) r3 fun r4 => dP (.ptr 10 0 []) r4 fun r5 => dP (.ptr 11 0 []) r5 fun r6 => asCons r6 fun a7 r7 => asFn 32 a7 fun l8 l9 => asNil l8 <| dP (.ptr 11 0 []) l9 fun r10 => dP (.ptr 1 0 []) r10 fun r11 => asNil r11 <| dD wI r7 fun s1 r12 => dP (.ptr 12 0 []) r12 fun r13 => dD (.sl w0) r13 fun s2 r14 => dD wI r14 fun s3 r15 => dD wI r15 fun s4 r16 => dP (.vec 9) r16 fun r17 => dD wI r17 fun s5 r18 => dD wI r18 fun s6 r19 => asNil r19 <| dO w1 w1 σ fun s7 r20 => dQ (.opq .ptr) (.ptr 2 0 []) r20 fun r22 => asCons r22 fun a24 r24 => asOne w2 a24 fun a25 => asAgL a25 fun l26 => dP (.vec 3) l26 fun r27 => dP (.vec 4) r27 fun r28 => dP (.vec 5) r28 fun r29 => dP (.vec 6) r29 fun r30 => asNil r30 <| asCons r24 fun a31 r31 => asDeep .bool a31 fun s8 l32 => asNil l32 <| dR .bool false r31 fun s9 r33 => dR .bool false r33 fun s10 r34 => dR (.arr 2 wI) false r34 fun s11 r35 => asCons r35 fun a36 r36 => asDeep .bool a36 fun s12 l37 => asNil l37 <| asCons r36 fun a38 r38 => asDeep .bool a38 fun s13 l39 => asCons l39 fun a40 r40 => asHole 9 a40 fun s14 => asNil r40 <| dR .bool false r38 fun s15 r41 => dO w0 w0 r41 fun s16 r42 => dQ (.sl .bool) (.vec 9) r42 fun r44 => dO w3 w3 r44 fun s17 r46 => asNil r46 <| l13r26 (fun z1 z2 z3 z4 z5 z6 z7 z8 z9 z10 z11 z12 z13 z14 z15 => K (.exit 6) [(1, .ptr 0 0 []), (3, .ptr 1 0 []), (4, .vec 7), (5, .vec 8), (8, .ptr 10 0 []), (9, .ptr 11 0 []), (10, .fn 32 [] [.ptr 11 0 [], .ptr 1 0 []]), (11, I z1), (12, .ptr 12 0 []), (53, .d (.sl w0) z2), (54, I z3), (55, I z4)] [.one w1 (.d w1 z5), .one (.opq .ptr) (.ptr 2 0 []), .one w2 (.agg [.vec 3, .vec 4, .vec 5, .vec 6]), .deep .bool z6 [], .row .bool z7 false, .row .bool z8 false, .row (.arr 2 wI) z9 false, .deep .bool z10 [], .deep .bool z11 [(z12, 9)], .row .bool z13 false, .one w0 (.d w0 z14), .one (.sl .bool) (.vec 9), .one w3 (.d w3 z15)]) s1 s2 s3 s4 s5 s6 s7 s8 s9 s10 s11 s12 s13 s14 s15 s16 s17
theorem l13r26v : LoopV E wF (E.info 13).keep 0 Try.f13.ntmps 14000026 (body Try.f13 26) ([1, 3, 4, 5, 8, 9, 10, 11, 12, 53, 54, 55, 133, 134, 135], lsl13r26) := by
  intro vs σ K h0
  obtain ⟨r4, rfl, h8⟩ := cPPPP h0
  obtain ⟨r6, rfl, h12⟩ := cPP h8
  obtain ⟨a7, r7, rfl, h13⟩ := asCons_inv h12
  obtain ⟨l8, l9, rfl, h14⟩ := asFn_inv h13
  obtain ⟨rfl, h15⟩ := cN h14
  obtain ⟨r11, rfl, h19⟩ := cPP h15
  obtain ⟨rfl, h20⟩ := cN h19
  obtain ⟨s1, s2, s3, r15, rfl, h28⟩ := cDPDD h20
  obtain ⟨s4, s5, s6, r19, rfl, h36⟩ := cDPDD h28
  obtain ⟨rfl, h37⟩ := cN h36
  obtain ⟨s7, r20, rfl, h40⟩ := oD h37
  obtain ⟨r22, rfl, h43⟩ := oP h40
  obtain ⟨a24, r24, rfl, h44⟩ := asCons_inv h43
  obtain ⟨a25, rfl, h45⟩ := asOne_inv h44
  obtain ⟨l26, rfl, h46⟩ := asAgL_inv h45
  obtain ⟨r30, rfl, h54⟩ := cPPPP h46
  obtain ⟨rfl, h55⟩ := cN h54
  obtain ⟨a31, r31, rfl, h56⟩ := asCons_inv h55
  obtain ⟨s8, l32, rfl, h57⟩ := asDeep_inv h56
  obtain ⟨rfl, h58⟩ := cN h57
  obtain ⟨s9, r33, rfl, h60⟩ := cR h58
  obtain ⟨s10, r34, rfl, h62⟩ := cR h60
  obtain ⟨s11, r35, rfl, h64⟩ := cR h62
  obtain ⟨a36, r36, rfl, h65⟩ := asCons_inv h64
  obtain ⟨s12, l37, rfl, h66⟩ := asDeep_inv h65
  obtain ⟨rfl, h67⟩ := cN h66
  obtain ⟨a38, r38, rfl, h68⟩ := asCons_inv h67
  obtain ⟨s13, l39, rfl, h69⟩ := asDeep_inv h68
  obtain ⟨a40, r40, rfl, h70⟩ := asCons_inv h69
  obtain ⟨s14, rfl, h71⟩ := asHole_inv h70
  obtain ⟨rfl, h72⟩ := cN h71
  obtain ⟨s15, r41, rfl, h74⟩ := cR h72
  obtain ⟨s16, r42, rfl, h77⟩ := oD h74
  obtain ⟨r44, rfl, h80⟩ := oP h77
  obtain ⟨s17, r46, rfl, h83⟩ := oD h80
  obtain ⟨rfl, h84⟩ := cN h83
  intro J hJ
  have hp : wH 13 Try.f13 (body Try.f13 26) nL := all_eq (by kernel_rfl) all_nil
  exact h84.of (fun s1 s2 s3 s4 s5 s6 s7 s8 s9 s10 s11 s12 s13 s14 s15 s16 s17 => J [(14000026, .undef), (1, .ptr 0 0 []), (3, .ptr 1 0 []), (4, .vec 7), (5, .vec 8), (8, .ptr 10 0 []), (9, .ptr 11 0 []), (10, .fn 32 [] [.ptr 11 0 [], .ptr 1 0 []]), (11, I s1), (12, .ptr 12 0 []), (53, .d (.sl w0) s2), (54, I s3), (55, I s4), (133, .vec 9), (134, I s5), (135, I s6)] [.one w1 (.d w1 s7), .one (.opq .ptr) (.ptr 2 0 []), .one w2 (.agg [.vec 3, .vec 4, .vec 5, .vec 6]), .deep .bool s8 [], .row .bool s9 false, .row .bool s10 false, .row (.arr 2 wI) s11 false, .deep .bool s12 [], .deep .bool s13 [(s14, 9)], .row .bool s15 false, .one w0 (.d w0 s16), .one (.sl .bool) (.vec 9), .one w3 (.d w3 s17)]) (fun s1 s2 s3 s4 s5 s6 s7 s8 s9 s10 s11 s12 s13 s14 s15 s16 s17 hb => loop_round2 nS (inlOK _) hp hJ (by kernel_rfl) hb)
abbrev Sj13r24 : wS := [(36, none, sp36), (37, none, sp37), (32, none, sp32)]
theorem hSj13r24 : SpecOK E (ofL Sj13r24) := specOK_cons h36 (specOK_cons h37 (specOK_cons h32 specOK_nil))
abbrev Lj13r24 : wL := [(14000026, [1, 3, 4, 5, 8, 9, 10, 11, 12, 53, 54, 55, 133, 134, 135], none, lsl13r26)]
def lsj13r24 : LSp := fun vs σ K => dP (.ptr 0 0 []) vs fun r1 => dP (.ptr 1 0 []) r1 fun r2 => dP (.vec 7) r2 fun r3 => dP (.vec 8) r3 fun r4 => dP (.ptr 10 0 []) r4 fun r5 => dP (.ptr 11 0 []) r5 fun r6 => asCons r6 fun a7 r7 => asFn 32 a7 fun l8 l9 => asNil l8 <| dP (.ptr 11 0 []) l9 fun r10 => dP (.ptr 1 0 []) r10 fun r11 => asNil r11 <| dD wI r7 fun s1 r12 => dP (.ptr 12 0 []) r12 fun r13 => dD (.sl w0) r13 fun s2 r14 => dD wI r14 fun s3 r15 => dD wI r15 fun s4 r16 => asNil r16 <| dO w1 w1 σ fun s5 r17 => dQ (.opq .ptr) (.ptr 2 0 []) r17 fun r19 => asCons r19 fun a21 r21 => asOne w2 a21 fun a22 => asAgL a22 fun l23 => dP (.vec 3) l23 fun r24 => dP (.vec 4) r24 fun r25 => dP (.vec 5) r25 fun r26 => dP (.vec 6) r26 fun r27 => asNil r27 <| asCons r21 fun a28 r28 => asDeep .bool a28 fun s6 l29 => asNil l29 <| dR .bool false r28 fun s7 r30 => dR .bool false r30 fun s8 r31 => dR (.arr 2 wI) false r31 fun s9 r32 => asCons r32 fun a33 r33 => asDeep .bool a33 fun s10 l34 => asNil l34 <| asCons r33 fun a35 r35 => asDeep .bool a35 fun s11 l36 => asCons l36 fun a37 r37 => asHole 9 a37 fun s12 => asNil r37 <| dR .bool false r35 fun s13 r38 => dO w0 w0 r38 fun s14 r39 => dQ (.sl .bool) (.vec 9) r39 fun r41 => dO w3 w3 r41 fun s15 r43 => asNil r43 <| j13r24 (fun z1 z2 z3 z4 z5 z6 z7 z8 z9 z10 z11 z12 z13 z14 => K .normal [(1, .ptr 0 0 []), (3, .ptr 1 0 []), (4, .vec 7), (5, .vec 8), (8, .ptr 10 0 []), (9, .ptr 11 0 []), (10, .fn 32 [] [.ptr 11 0 [], .ptr 1 0 []]), (11, I z1), (53, .d (.sl w0) z2), (54, I z3), (55, I z4)] [.one w1 (.d w1 z5), .one (.opq .ptr) (.ptr 2 0 []), .one w2 (.agg [.vec 3, .vec 4, .vec 5, .vec 6]), .deep .bool z6 [], .row .bool z7 false, .row .bool z8 false, .row (.arr 2 wI) z9 false, .deep .bool z10 [], .deep .bool z11 [(z12, 9)], .row .bool z13 false, .one w0 (.d w0 z14), .one (.sl .bool) (.vec 9)]) s1 s2 s3 s4 s5 s6 s7 s8 s9 s10 s11 s12 s13 s14 s15
theorem j13r24v : JoinV E wF (E.info 13).keep 0 Try.f13.ntmps 14400024 4000024 (jbody Try.f13 4000024) ([1, 3, 4, 5, 8, 9, 10, 11, 12, 53, 54, 55], lsj13r24) := by
  intro vs σ K h0
  obtain ⟨r4, rfl, h8⟩ := cPPPP h0
  obtain ⟨r6, rfl, h12⟩ := cPP h8
  obtain ⟨a7, r7, rfl, h13⟩ := asCons_inv h12
  obtain ⟨l8, l9, rfl, h14⟩ := asFn_inv h13
  obtain ⟨rfl, h15⟩ := cN h14
  obtain ⟨r11, rfl, h19⟩ := cPP h15
  obtain ⟨rfl, h20⟩ := cN h19
  obtain ⟨s1, s2, s3, r15, rfl, h28⟩ := cDPDD h20
  obtain ⟨s4, r16, rfl, h30⟩ := cD h28
  obtain ⟨rfl, h31⟩ := cN h30
  obtain ⟨s5, r17, rfl, h34⟩ := oD h31
  obtain ⟨r19, rfl, h37⟩ := oP h34
  obtain ⟨a21, r21, rfl, h38⟩ := asCons_inv h37
  obtain ⟨a22, rfl, h39⟩ := asOne_inv h38
  obtain ⟨l23, rfl, h40⟩ := asAgL_inv h39
  obtain ⟨r27, rfl, h48⟩ := cPPPP h40
  obtain ⟨rfl, h49⟩ := cN h48
  obtain ⟨a28, r28, rfl, h50⟩ := asCons_inv h49
  obtain ⟨s6, l29, rfl, h51⟩ := asDeep_inv h50
  obtain ⟨rfl, h52⟩ := cN h51
  obtain ⟨s7, r30, rfl, h54⟩ := cR h52
  obtain ⟨s8, r31, rfl, h56⟩ := cR h54
  obtain ⟨s9, r32, rfl, h58⟩ := cR h56
  obtain ⟨a33, r33, rfl, h59⟩ := asCons_inv h58
  obtain ⟨s10, l34, rfl, h60⟩ := asDeep_inv h59
  obtain ⟨rfl, h61⟩ := cN h60
  obtain ⟨a35, r35, rfl, h62⟩ := asCons_inv h61
  obtain ⟨s11, l36, rfl, h63⟩ := asDeep_inv h62
  obtain ⟨a37, r37, rfl, h64⟩ := asCons_inv h63
  obtain ⟨s12, rfl, h65⟩ := asHole_inv h64
  obtain ⟨rfl, h66⟩ := cN h65
  obtain ⟨s13, r38, rfl, h68⟩ := cR h66
  obtain ⟨s14, r39, rfl, h71⟩ := oD h68
  obtain ⟨r41, rfl, h74⟩ := oP h71
  obtain ⟨s15, r43, rfl, h77⟩ := oD h74
  obtain ⟨rfl, h78⟩ := cN h77
  exact join_round2 (L := lofL Lj13r24) hSj13r24 (inlOK _) (all_eq (by kernel_rfl : subsOf (E.info 13).keep (jbody Try.f13 4000024) = [.loop (body Try.f13 26)]) (all_cons (loopOK_of (mk := 14000026) (sl := [1, 3, 4, 5, 8, 9, 10, 11, 12, 53, 54, 55, 133, 134, 135]) (ss := [([1, 3, 4, 5, 8, 9, 10, 11, 12, 53, 54, 55, 133, 134, 135], lsl13r26)]) (by kernel_rfl) (by kernel_rfl) (all_cons l13r26v all_nil)) all_nil)) (by kernel_rfl) h78.of
abbrev Sj13r22 : wS := [(35, none, sp35)]
theorem hSj13r22 : SpecOK E (ofL Sj13r22) := specOK_cons h35 specOK_nil
abbrev Lj13r22 : wL := [(14400024, [1, 3, 4, 5, 8, 9, 10, 11, 12, 53, 54, 55], none, lsj13r24)]
def lsj13r22 : LSp := fun vs σ K => dP (.ptr 0 0 []) vs fun r1 => dP (.ptr 1 0 []) r1 fun r2 => dP (.vec 7) r2 fun r3 => dP (.vec 8) r3 fun r4 => dP (.ptr 10 0 []) r4 fun r5 => dP (.ptr 11 0 []) r5 fun r6 => asCons r6 fun a7 r7 => asFn 32 a7 fun l8 l9 => asNil l8 <| dP (.ptr 11 0 []) l9 fun r10 => dP (.ptr 1 0 []) r10 fun r11 => asNil r11 <| dD wI r7 fun s1 r12 => dP (.ptr 12 0 []) r12 fun r13 => dD wI r13 fun s2 r14 => dD wI r14 fun s3 r15 => dD (.sl w0) r15 fun s4 r16 => dD wI r16 fun s5 r17 => dD wI r17 fun s6 r18 => asNil r18 <| dO w1 w1 σ fun s7 r19 => dQ (.opq .ptr) (.ptr 2 0 []) r19 fun r21 => asCons r21 fun a23 r23 => asOne w2 a23 fun a24 => asAgL a24 fun l25 => dP (.vec 3) l25 fun r26 => dP (.vec 4) r26 fun r27 => dP (.vec 5) r27 fun r28 => dP (.vec 6) r28 fun r29 => asNil r29 <| asCons r23 fun a30 r30 => asDeep .bool a30 fun s8 l31 => asNil l31 <| dR .bool false r30 fun s9 r32 => dR .bool false r32 fun s10 r33 => dR (.arr 2 wI) false r33 fun s11 r34 => asCons r34 fun a35 r35 => asDeep .bool a35 fun s12 l36 => asNil l36 <| asCons r35 fun a37 r37 => asDeep .bool a37 fun s13 l38 => asCons l38 fun a39 r39 => asHole 9 a39 fun s14 => asNil r39 <| dR .bool false r37 fun s15 r40 => dO w0 w0 r40 fun s16 r41 => dQ (.sl .bool) (.vec 9) r41 fun r43 => dO w3 w3 r43 fun s17 r45 => asNil r45 <| j13r22 (fun z1 z2 z3 z4 z5 z6 z7 z8 z9 z10 z11 z12 z13 z14 => K .normal [(1, .ptr 0 0 []), (3, .ptr 1 0 []), (4, .vec 7), (5, .vec 8), (8, .ptr 10 0 []), (9, .ptr 11 0 []), (10, .fn 32 [] [.ptr 11 0 [], .ptr 1 0 []]), (11, I z1), (53, .d (.sl w0) z2), (54, I z3), (55, I z4)] [.one w1 (.d w1 z5), .one (.opq .ptr) (.ptr 2 0 []), .one w2 (.agg [.vec 3, .vec 4, .vec 5, .vec 6]), .deep .bool z6 [], .row .bool z7 false, .row .bool z8 false, .row (.arr 2 wI) z9 false, .deep .bool z10 [], .deep .bool z11 [(z12, 9)], .row .bool z13 false, .one w0 (.d w0 z14), .one (.sl .bool) (.vec 9)]) s1 s2 s3 s4 s5 s6 s7 s8 s9 s10 s11 s12 s13 s14 s15 s16 s17
theorem j13r22v : JoinV E wF (E.info 13).keep 0 Try.f13.ntmps 14400022 4000022 (jbody Try.f13 4000022) ([1, 3, 4, 5, 8, 9, 10, 11, 12, 13, 14, 53, 54, 55], lsj13r22) := by
  intro vs σ K h0
  obtain ⟨r4, rfl, h8⟩ := cPPPP h0
  obtain ⟨r6, rfl, h12⟩ := cPP h8
  obtain ⟨a7, r7, rfl, h13⟩ := asCons_inv h12
  obtain ⟨l8, l9, rfl, h14⟩ := asFn_inv h13
  obtain ⟨rfl, h15⟩ := cN h14
  obtain ⟨r11, rfl, h19⟩ := cPP h15
  obtain ⟨rfl, h20⟩ := cN h19
  obtain ⟨s1, s2, s3, r15, rfl, h28⟩ := cDPDD h20
  obtain ⟨s4, s5, s6, r18, rfl, h34⟩ := cDDD h28
  obtain ⟨rfl, h35⟩ := cN h34
  obtain ⟨s7, r19, rfl, h38⟩ := oD h35
  obtain ⟨r21, rfl, h41⟩ := oP h38
  obtain ⟨a23, r23, rfl, h42⟩ := asCons_inv h41
  obtain ⟨a24, rfl, h43⟩ := asOne_inv h42
  obtain ⟨l25, rfl, h44⟩ := asAgL_inv h43
  obtain ⟨r29, rfl, h52⟩ := cPPPP h44
  obtain ⟨rfl, h53⟩ := cN h52
  obtain ⟨a30, r30, rfl, h54⟩ := asCons_inv h53
  obtain ⟨s8, l31, rfl, h55⟩ := asDeep_inv h54
  obtain ⟨rfl, h56⟩ := cN h55
  obtain ⟨s9, r32, rfl, h58⟩ := cR h56
  obtain ⟨s10, r33, rfl, h60⟩ := cR h58
  obtain ⟨s11, r34, rfl, h62⟩ := cR h60
  obtain ⟨a35, r35, rfl, h63⟩ := asCons_inv h62
  obtain ⟨s12, l36, rfl, h64⟩ := asDeep_inv h63
  obtain ⟨rfl, h65⟩ := cN h64
  obtain ⟨a37, r37, rfl, h66⟩ := asCons_inv h65
  obtain ⟨s13, l38, rfl, h67⟩ := asDeep_inv h66
  obtain ⟨a39, r39, rfl, h68⟩ := asCons_inv h67
  obtain ⟨s14, rfl, h69⟩ := asHole_inv h68
  obtain ⟨rfl, h70⟩ := cN h69
  obtain ⟨s15, r40, rfl, h72⟩ := cR h70
  obtain ⟨s16, r41, rfl, h75⟩ := oD h72
  obtain ⟨r43, rfl, h78⟩ := oP h75
  obtain ⟨s17, r45, rfl, h81⟩ := oD h78
  obtain ⟨rfl, h82⟩ := cN h81
  exact join_round2 (L := lofL Lj13r22) hSj13r22 (inlOK _) (all_eq (by kernel_rfl : subsOf (E.info 13).keep (jbody Try.f13 4000022) = [.join 4000024 (jbody Try.f13 4000024)]) (all_cons (joinOK_of (mk := 14400024) (sl := [1, 3, 4, 5, 8, 9, 10, 11, 12, 53, 54, 55]) (ss := [([1, 3, 4, 5, 8, 9, 10, 11, 12, 53, 54, 55], lsj13r24)]) (by kernel_rfl) (by kernel_rfl) (all_cons j13r24v all_nil)) all_nil)) (by kernel_rfl) h82.of
abbrev Sl13r14 : wS := [(34, none, sp34)]
theorem hSl13r14 : SpecOK E (ofL Sl13r14) := specOK_cons h34 specOK_nil
abbrev Ll13r14 : wL := [(14400022, [1, 3, 4, 5, 8, 9, 10, 11, 12, 13, 14, 53, 54, 55], none, lsj13r22)]
def lsl13r14 : LSp := fun vs σ K => dP (.ptr 0 0 []) vs fun r1 => dP (.ptr 1 0 []) r1 fun r2 => dP (.vec 7) r2 fun r3 => dP (.vec 8) r3 fun r4 => dP (.ptr 10 0 []) r4 fun r5 => dP (.ptr 11 0 []) r5 fun r6 => asCons r6 fun a7 r7 => asFn 32 a7 fun l8 l9 => asNil l8 <| dP (.ptr 11 0 []) l9 fun r10 => dP (.ptr 1 0 []) r10 fun r11 => asNil r11 <| dD wI r7 fun s1 r12 => dD (.sl w0) r12 fun s2 r13 => dD wI r13 fun s3 r14 => dD wI r14 fun s4 r15 => asNil r15 <| dO w1 w1 σ fun s5 r16 => dQ (.opq .ptr) (.ptr 2 0 []) r16 fun r18 => asCons r18 fun a20 r20 => asOne w2 a20 fun a21 => asAgL a21 fun l22 => dP (.vec 3) l22 fun r23 => dP (.vec 4) r23 fun r24 => dP (.vec 5) r24 fun r25 => dP (.vec 6) r25 fun r26 => asNil r26 <| asCons r20 fun a27 r27 => asDeep .bool a27 fun s6 l28 => asNil l28 <| dR .bool false r27 fun s7 r29 => dR .bool false r29 fun s8 r30 => dR (.arr 2 wI) false r30 fun s9 r31 => asCons r31 fun a32 r32 => asDeep .bool a32 fun s10 l33 => asNil l33 <| asCons r32 fun a34 r34 => asDeep .bool a34 fun s11 l35 => asCons l35 fun a36 r36 => asHole 9 a36 fun s12 => asNil r36 <| dR .bool false r34 fun s13 r37 => dO w0 w0 r37 fun s14 r38 => dQ (.sl .bool) (.vec 9) r38 fun r40 => asNil r40 <| l13r14 (fun z1 z2 z3 z4 z5 z6 z7 z8 z9 z10 => K (.exit 4) [(1, .ptr 0 0 []), (3, .ptr 1 0 []), (4, .vec 7), (5, .vec 8), (53, .d (.sl w0) z1), (54, I z2), (55, I z3)] [.one w1 (.d w1 z4), .one (.opq .ptr) (.ptr 2 0 []), .one w2 (.agg [.vec 3, .vec 4, .vec 5, .vec 6]), .deep .bool z5 [], .row .bool z6 false, .row .bool z7 false, .row (.arr 2 wI) z8 false, .deep .bool z9 [], .deep .bool z10 []]) s1 s2 s3 s4 s5 s6 s7 s8 s9 s10 s11 s12 s13 s14
theorem l13r14v : LoopV E wF (E.info 13).keep 0 Try.f13.ntmps 14000014 (body Try.f13 14) ([1, 3, 4, 5, 8, 9, 10, 11, 53, 54, 55], lsl13r14) := by
  intro vs σ K h0
  obtain ⟨r4, rfl, h8⟩ := cPPPP h0
  obtain ⟨r6, rfl, h12⟩ := cPP h8
  obtain ⟨a7, r7, rfl, h13⟩ := asCons_inv h12
  obtain ⟨l8, l9, rfl, h14⟩ := asFn_inv h13
  obtain ⟨rfl, h15⟩ := cN h14
  obtain ⟨r11, rfl, h19⟩ := cPP h15
  obtain ⟨rfl, h20⟩ := cN h19
  obtain ⟨s1, s2, s3, s4, r15, rfl, h28⟩ := cDDDD h20
  obtain ⟨rfl, h29⟩ := cN h28
  obtain ⟨s5, r16, rfl, h32⟩ := oD h29
  obtain ⟨r18, rfl, h35⟩ := oP h32
  obtain ⟨a20, r20, rfl, h36⟩ := asCons_inv h35
  obtain ⟨a21, rfl, h37⟩ := asOne_inv h36
  obtain ⟨l22, rfl, h38⟩ := asAgL_inv h37
  obtain ⟨r26, rfl, h46⟩ := cPPPP h38
  obtain ⟨rfl, h47⟩ := cN h46
  obtain ⟨a27, r27, rfl, h48⟩ := asCons_inv h47
  obtain ⟨s6, l28, rfl, h49⟩ := asDeep_inv h48
  obtain ⟨rfl, h50⟩ := cN h49
  obtain ⟨s7, r29, rfl, h52⟩ := cR h50
  obtain ⟨s8, r30, rfl, h54⟩ := cR h52
  obtain ⟨s9, r31, rfl, h56⟩ := cR h54
  obtain ⟨a32, r32, rfl, h57⟩ := asCons_inv h56
  obtain ⟨s10, l33, rfl, h58⟩ := asDeep_inv h57
  obtain ⟨rfl, h59⟩ := cN h58
  obtain ⟨a34, r34, rfl, h60⟩ := asCons_inv h59
  obtain ⟨s11, l35, rfl, h61⟩ := asDeep_inv h60
  obtain ⟨a36, r36, rfl, h62⟩ := asCons_inv h61
  obtain ⟨s12, rfl, h63⟩ := asHole_inv h62
  obtain ⟨rfl, h64⟩ := cN h63
  obtain ⟨s13, r37, rfl, h66⟩ := cR h64
  obtain ⟨s14, r38, rfl, h69⟩ := oD h66
  obtain ⟨r40, rfl, h72⟩ := oP h69
  obtain ⟨rfl, h73⟩ := cN h72
  intro J hJ
  have hp : wH 13 Try.f13 (body Try.f13 14) Ll13r14 := all_eq (by kernel_rfl : subsOf (E.info 13).keep (body Try.f13 14) = [.join 4000022 (jbody Try.f13 4000022)]) (all_cons (joinOK_of (mk := 14400022) (sl := [1, 3, 4, 5, 8, 9, 10, 11, 12, 13, 14, 53, 54, 55]) (ss := [([1, 3, 4, 5, 8, 9, 10, 11, 12, 13, 14, 53, 54, 55], lsj13r22)]) (by kernel_rfl) (by kernel_rfl) (all_cons j13r22v all_nil)) all_nil)
  exact h73.of (fun s1 s2 s3 s4 s5 s6 s7 s8 s9 s10 s11 s12 s13 s14 => J [(14000014, .undef), (1, .ptr 0 0 []), (3, .ptr 1 0 []), (4, .vec 7), (5, .vec 8), (8, .ptr 10 0 []), (9, .ptr 11 0 []), (10, .fn 32 [] [.ptr 11 0 [], .ptr 1 0 []]), (11, I s1), (53, .d (.sl w0) s2), (54, I s3), (55, I s4)] [.one w1 (.d w1 s5), .one (.opq .ptr) (.ptr 2 0 []), .one w2 (.agg [.vec 3, .vec 4, .vec 5, .vec 6]), .deep .bool s6 [], .row .bool s7 false, .row .bool s8 false, .row (.arr 2 wI) s9 false, .deep .bool s10 [], .deep .bool s11 [(s12, 9)], .row .bool s13 false, .one w0 (.d w0 s14), .one (.sl .bool) (.vec 9)]) (fun s1 s2 s3 s4 s5 s6 s7 s8 s9 s10 s11 s12 s13 s14 hb => loop_round2 hSl13r14 (inlOK _) hp hJ (by kernel_rfl) hb)
abbrev Sl13r8 : wS := [(33, none, sp33), (32, none, sp32)]
theorem hSl13r8 : SpecOK E (ofL Sl13r8) := specOK_cons h33 (specOK_cons h32 specOK_nil)
abbrev Ll13r8 : wL := [(14000014, [1, 3, 4, 5, 8, 9, 10, 11, 53, 54, 55], none, lsl13r14)]
def lsl13r8 : LSp := fun vs σ K => dP (.ptr 0 0 []) vs fun r1 => dP (.ptr 1 0 []) r1 fun r2 => dP (.vec 7) r2 fun r3 => dP (.vec 8) r3 fun r4 => dD (.sl w0) r4 fun s1 r5 => dD wI r5 fun s2 r6 => dD wI r6 fun s3 r7 => asNil r7 <| dO w1 w1 σ fun s4 r8 => dQ (.opq .ptr) (.ptr 2 0 []) r8 fun r10 => asCons r10 fun a12 r12 => asOne w2 a12 fun a13 => asAgL a13 fun l14 => dP (.vec 3) l14 fun r15 => dP (.vec 4) r15 fun r16 => dP (.vec 5) r16 fun r17 => dP (.vec 6) r17 fun r18 => asNil r18 <| asCons r12 fun a19 r19 => asDeep .bool a19 fun s5 l20 => asNil l20 <| dR .bool false r19 fun s6 r21 => dR .bool false r21 fun s7 r22 => dR (.arr 2 wI) false r22 fun s8 r23 => asCons r23 fun a24 r24 => asDeep .bool a24 fun s9 l25 => asNil l25 <| asCons r24 fun a26 r26 => asDeep .bool a26 fun s10 l27 => asNil l27 <| asNil r26 <| l13r8 (fun z1 z2 z3 z4 z5 z6 => K (.exit 2) [(1, .ptr 0 0 []), (3, .ptr 1 0 []), (4, .vec 7)] [.one w1 (.d w1 z1), .one (.opq .ptr) (.ptr 2 0 []), .one w2 (.agg [.vec 3, .vec 4, .vec 5, .vec 6]), .deep .bool z2 [], .row .bool z3 false, .row .bool z4 false, .row (.arr 2 wI) z5 false, .deep .bool z6 []]) s1 s2 s3 s4 s5 s6 s7 s8 s9 s10
theorem l13r8v : LoopV E wF (E.info 13).keep 0 Try.f13.ntmps 14000008 (body Try.f13 8) ([1, 3, 4, 5, 53, 54, 55], lsl13r8) := by
  intro vs σ K h0
  obtain ⟨r4, rfl, h8⟩ := cPPPP h0
  obtain ⟨s1, s2, s3, r7, rfl, h14⟩ := cDDD h8
  obtain ⟨rfl, h15⟩ := cN h14
  obtain ⟨s4, r8, rfl, h18⟩ := oD h15
  obtain ⟨r10, rfl, h21⟩ := oP h18
  obtain ⟨a12, r12, rfl, h22⟩ := asCons_inv h21
  obtain ⟨a13, rfl, h23⟩ := asOne_inv h22
  obtain ⟨l14, rfl, h24⟩ := asAgL_inv h23
  obtain ⟨r18, rfl, h32⟩ := cPPPP h24
  obtain ⟨rfl, h33⟩ := cN h32
  obtain ⟨a19, r19, rfl, h34⟩ := asCons_inv h33
  obtain ⟨s5, l20, rfl, h35⟩ := asDeep_inv h34
  obtain ⟨rfl, h36⟩ := cN h35
  obtain ⟨s6, r21, rfl, h38⟩ := cR h36
  obtain ⟨s7, r22, rfl, h40⟩ := cR h38
  obtain ⟨s8, r23, rfl, h42⟩ := cR h40
  obtain ⟨a24, r24, rfl, h43⟩ := asCons_inv h42
  obtain ⟨s9, l25, rfl, h44⟩ := asDeep_inv h43
  obtain ⟨rfl, h45⟩ := cN h44
  obtain ⟨a26, r26, rfl, h46⟩ := asCons_inv h45
  obtain ⟨s10, l27, rfl, h47⟩ := asDeep_inv h46
  obtain ⟨rfl, rfl, h49⟩ := cM h47
  intro J hJ
  have hp : wH 13 Try.f13 (body Try.f13 8) Ll13r8 := all_eq (by kernel_rfl : subsOf (E.info 13).keep (body Try.f13 8) = [.loop (body Try.f13 14)]) (all_cons (loopOK_of (mk := 14000014) (sl := [1, 3, 4, 5, 8, 9, 10, 11, 53, 54, 55]) (ss := [([1, 3, 4, 5, 8, 9, 10, 11, 53, 54, 55], lsl13r14)]) (by kernel_rfl) (by kernel_rfl) (all_cons l13r14v all_nil)) all_nil)
  exact h49.of (fun s1 s2 s3 s4 s5 s6 s7 s8 s9 s10 => J [(14000008, .undef), (1, .ptr 0 0 []), (3, .ptr 1 0 []), (4, .vec 7), (5, .vec 8), (53, .d (.sl w0) s1), (54, I s2), (55, I s3)] [.one w1 (.d w1 s4), .one (.opq .ptr) (.ptr 2 0 []), .one w2 (.agg [.vec 3, .vec 4, .vec 5, .vec 6]), .deep .bool s5 [], .row .bool s6 false, .row .bool s7 false, .row (.arr 2 wI) s8 false, .deep .bool s9 [], .deep .bool s10 []]) (fun s1 s2 s3 s4 s5 s6 s7 s8 s9 s10 hb => loop_round2 hSl13r8 (inlOK _) hp hJ (by kernel_rfl) hb)
abbrev Sl13r37 : wS := [(38, none, sp38)]
theorem hSl13r37 : SpecOK E (ofL Sl13r37) := specOK_cons h38 specOK_nil
def lsl13r37 : LSp := fun vs σ K => dP (.ptr 0 0 []) vs fun r1 => dP (.ptr 1 0 []) r1 fun r2 => dP (.vec 7) r2 fun r3 => dD wI r3 fun s1 r4 => dD (.sl wI) r4 fun s2 r5 => dD wI r5 fun s3 r6 => dD wI r6 fun s4 r7 => dD (.sl wI) r7 fun s5 r8 => dD wI r8 fun s6 r9 => dD wI r9 fun s7 r10 => asNil r10 <| dO w1 w1 σ fun s8 r11 => dQ (.opq .ptr) (.ptr 2 0 []) r11 fun r13 => asCons r13 fun a15 r15 => asOne w2 a15 fun a16 => asAgL a16 fun l17 => dP (.vec 3) l17 fun r18 => dP (.vec 4) r18 fun r19 => dP (.vec 5) r19 fun r20 => dP (.vec 6) r20 fun r21 => asNil r21 <| asCons r15 fun a22 r22 => asDeep .bool a22 fun s9 l23 => asNil l23 <| dR .bool false r22 fun s10 r24 => dR .bool false r24 fun s11 r25 => dR (.arr 2 wI) false r25 fun s12 r26 => asCons r26 fun a27 r27 => asDeep .bool a27 fun s13 l28 => asNil l28 <| asNil r27 <| l13r37 (fun z1 z2 z3 z4 z5 z6 z7 z8 z9 z10 => K (.exit 10) [(1, .ptr 0 0 []), (3, .ptr 1 0 []), (4, .vec 7), (18, I z1), (163, .d (.sl wI) z2), (164, I z3), (165, I z4)] [.one w1 (.d w1 z5), .one (.opq .ptr) (.ptr 2 0 []), .one w2 (.agg [.vec 3, .vec 4, .vec 5, .vec 6]), .deep .bool z6 [], .row .bool z7 false, .row .bool z8 false, .row (.arr 2 wI) z9 false, .deep .bool z10 []]) s1 s2 s3 s4 s5 s6 s7 s8 s9 s10 s11 s12 s13
theorem l13r37v : LoopV E wF (E.info 13).keep 0 Try.f13.ntmps 14000037 (body Try.f13 37) ([1, 3, 4, 18, 163, 164, 165, 179, 180, 181], lsl13r37) := by
  intro vs σ K h0
  obtain ⟨s1, r4, rfl, h8⟩ := cPPPD h0
  obtain ⟨s2, s3, s4, s5, r8, rfl, h16⟩ := cDDDD h8
  obtain ⟨s6, s7, r10, rfl, h20⟩ := cDD h16
  obtain ⟨rfl, h21⟩ := cN h20
  obtain ⟨s8, r11, rfl, h24⟩ := oD h21
  obtain ⟨r13, rfl, h27⟩ := oP h24
  obtain ⟨a15, r15, rfl, h28⟩ := asCons_inv h27
  obtain ⟨a16, rfl, h29⟩ := asOne_inv h28
  obtain ⟨l17, rfl, h30⟩ := asAgL_inv h29
  obtain ⟨r21, rfl, h38⟩ := cPPPP h30
  obtain ⟨rfl, h39⟩ := cN h38
  obtain ⟨a22, r22, rfl, h40⟩ := asCons_inv h39
  obtain ⟨s9, l23, rfl, h41⟩ := asDeep_inv h40
  obtain ⟨rfl, h42⟩ := cN h41
  obtain ⟨s10, r24, rfl, h44⟩ := cR h42
  obtain ⟨s11, r25, rfl, h46⟩ := cR h44
  obtain ⟨s12, r26, rfl, h48⟩ := cR h46
  obtain ⟨a27, r27, rfl, h49⟩ := asCons_inv h48
  obtain ⟨s13, l28, rfl, h50⟩ := asDeep_inv h49
  obtain ⟨rfl, rfl, h52⟩ := cM h50
  intro J hJ
  have hp : wH 13 Try.f13 (body Try.f13 37) nL := all_eq (by kernel_rfl) all_nil
  exact h52.of (fun s1 s2 s3 s4 s5 s6 s7 s8 s9 s10 s11 s12 s13 => J [(14000037, .undef), (1, .ptr 0 0 []), (3, .ptr 1 0 []), (4, .vec 7), (18, I s1), (163, .d (.sl wI) s2), (164, I s3), (165, I s4), (179, .d (.sl wI) s5), (180, I s6), (181, I s7)] [.one w1 (.d w1 s8), .one (.opq .ptr) (.ptr 2 0 []), .one w2 (.agg [.vec 3, .vec 4, .vec 5, .vec 6]), .deep .bool s9 [], .row .bool s10 false, .row .bool s11 false, .row (.arr 2 wI) s12 false, .deep .bool s13 []]) (fun s1 s2 s3 s4 s5 s6 s7 s8 s9 s10 s11 s12 s13 hb => loop_round2 hSl13r37 (inlOK _) hp hJ (by kernel_rfl) hb)
abbrev Sl13r33 : wS := [(35, none, sp35)]
theorem hSl13r33 : SpecOK E (ofL Sl13r33) := specOK_cons h35 specOK_nil
abbrev Ll13r33 : wL := [(14000037, [1, 3, 4, 18, 163, 164, 165, 179, 180, 181], none, lsl13r37)]
def lsl13r33 : LSp := fun vs σ K => dP (.ptr 0 0 []) vs fun r1 => dP (.ptr 1 0 []) r1 fun r2 => dP (.vec 7) r2 fun r3 => dD (.sl wI) r3 fun s1 r4 => dD wI r4 fun s2 r5 => dD wI r5 fun s3 r6 => asNil r6 <| dO w1 w1 σ fun s4 r7 => dQ (.opq .ptr) (.ptr 2 0 []) r7 fun r9 => asCons r9 fun a11 r11 => asOne w2 a11 fun a12 => asAgL a12 fun l13 => dP (.vec 3) l13 fun r14 => dP (.vec 4) r14 fun r15 => dP (.vec 5) r15 fun r16 => dP (.vec 6) r16 fun r17 => asNil r17 <| asCons r11 fun a18 r18 => asDeep .bool a18 fun s5 l19 => asNil l19 <| dR .bool false r18 fun s6 r20 => dR .bool false r20 fun s7 r21 => dR (.arr 2 wI) false r21 fun s8 r22 => asCons r22 fun a23 r23 => asDeep .bool a23 fun s9 l24 => asNil l24 <| asNil r23 <| l13r33 (fun z1 z2 z3 z4 => K (.exit 8) [(3, .ptr 0 0 [])] [.one (.opq .ptr) (.ptr 1 0 []), .one w2 (.agg [.vec 2, .vec 3, .vec 4, .vec 5]), .deep .bool z1 [], .row .bool z2 false, .row .bool z3 false, .row (.arr 2 wI) z4 false]) s1 s2 s3 s4 s5 s6 s7 s8 s9
theorem l13r33v : LoopV E wF (E.info 13).keep 0 Try.f13.ntmps 14000033 (body Try.f13 33) ([1, 3, 4, 163, 164, 165], lsl13r33) := by
  intro vs σ K h0
  obtain ⟨s1, r4, rfl, h8⟩ := cPPPD h0
  obtain ⟨s2, s3, r6, rfl, h12⟩ := cDD h8
  obtain ⟨rfl, h13⟩ := cN h12
  obtain ⟨s4, r7, rfl, h16⟩ := oD h13
  obtain ⟨r9, rfl, h19⟩ := oP h16
  obtain ⟨a11, r11, rfl, h20⟩ := asCons_inv h19
  obtain ⟨a12, rfl, h21⟩ := asOne_inv h20
  obtain ⟨l13, rfl, h22⟩ := asAgL_inv h21
  obtain ⟨r17, rfl, h30⟩ := cPPPP h22
  obtain ⟨rfl, h31⟩ := cN h30
  obtain ⟨a18, r18, rfl, h32⟩ := asCons_inv h31
  obtain ⟨s5, l19, rfl, h33⟩ := asDeep_inv h32
  obtain ⟨rfl, h34⟩ := cN h33
  obtain ⟨s6, r20, rfl, h36⟩ := cR h34
  obtain ⟨s7, r21, rfl, h38⟩ := cR h36
  obtain ⟨s8, r22, rfl, h40⟩ := cR h38
  obtain ⟨a23, r23, rfl, h41⟩ := asCons_inv h40
  obtain ⟨s9, l24, rfl, h42⟩ := asDeep_inv h41
  obtain ⟨rfl, rfl, h44⟩ := cM h42
  intro J hJ
  have hp : wH 13 Try.f13 (body Try.f13 33) Ll13r33 := all_eq (by kernel_rfl : subsOf (E.info 13).keep (body Try.f13 33) = [.loop (body Try.f13 37)]) (all_cons (loopOK_of (mk := 14000037) (sl := [1, 3, 4, 18, 163, 164, 165, 179, 180, 181]) (ss := [([1, 3, 4, 18, 163, 164, 165, 179, 180, 181], lsl13r37)]) (by kernel_rfl) (by kernel_rfl) (all_cons l13r37v all_nil)) all_nil)
  exact h44.of (fun s1 s2 s3 s4 s5 s6 s7 s8 s9 => J [(14000033, .undef), (1, .ptr 0 0 []), (3, .ptr 1 0 []), (4, .vec 7), (163, .d (.sl wI) s1), (164, I s2), (165, I s3)] [.one w1 (.d w1 s4), .one (.opq .ptr) (.ptr 2 0 []), .one w2 (.agg [.vec 3, .vec 4, .vec 5, .vec 6]), .deep .bool s5 [], .row .bool s6 false, .row .bool s7 false, .row (.arr 2 wI) s8 false, .deep .bool s9 []]) (fun s1 s2 s3 s4 s5 s6 s7 s8 s9 hb => loop_round2 hSl13r33 (inlOK _) hp hJ (by kernel_rfl) hb)
abbrev Sj13r2 : wS := [(31, none, sp31)]
theorem hSj13r2 : SpecOK E (ofL Sj13r2) := specOK_cons h31 specOK_nil
abbrev Lj13r2 : wL := [(14000003, [1, 3, 30, 31], none, lsl13r3), (14000008, [1, 3, 4, 5, 53, 54, 55], none, lsl13r8), (14000033, [1, 3, 4, 163, 164, 165], none, lsl13r33)]
def lsj13r2 : LSp := fun vs σ K => dP (.ptr 0 0 []) vs fun r1 => dP (.ptr 1 0 []) r1 fun r2 => asNil r2 <| dO w1 w1 σ fun s1 r3 => dQ (.opq .ptr) (.ptr 2 0 []) r3 fun r5 => asCons r5 fun a7 r7 => asOne w2 a7 fun a8 => asAgL a8 fun l9 => dP (.vec 3) l9 fun r10 => dP (.vec 4) r10 fun r11 => dP (.vec 5) r11 fun r12 => dP (.vec 6) r12 fun r13 => asNil r13 <| asCons r7 fun a14 r14 => asDeep .bool a14 fun s2 l15 => asNil l15 <| dR .bool false r14 fun s3 r16 => dR .bool false r16 fun s4 r17 => dR (.arr 2 wI) false r17 fun s5 r18 => asNil r18 <| j13r2 (fun z1 z2 z3 z4 => K .ret [(2, .ptr 0 0 [])] [.one w2 (.agg [.vec 1, .vec 2, .vec 3, .vec 4]), .deep .bool z1 [], .row .bool z2 false, .row .bool z3 false, .row (.arr 2 wI) z4 false]) s1 s2 s3 s4 s5
theorem j13r2v : JoinV E wF (E.info 13).keep 0 Try.f13.ntmps 14400002 4000002 (jbody Try.f13 4000002) ([1, 3], lsj13r2) := by
  intro vs σ K h0
  obtain ⟨r2, rfl, h4⟩ := cPP h0
  obtain ⟨rfl, h5⟩ := cN h4
  obtain ⟨s1, r3, rfl, h8⟩ := oD h5
  obtain ⟨r5, rfl, h11⟩ := oP h8
  obtain ⟨a7, r7, rfl, h12⟩ := asCons_inv h11
  obtain ⟨a8, rfl, h13⟩ := asOne_inv h12
  obtain ⟨l9, rfl, h14⟩ := asAgL_inv h13
  obtain ⟨r13, rfl, h22⟩ := cPPPP h14
  obtain ⟨rfl, h23⟩ := cN h22
  obtain ⟨a14, r14, rfl, h24⟩ := asCons_inv h23
  obtain ⟨s2, l15, rfl, h25⟩ := asDeep_inv h24
  obtain ⟨rfl, h26⟩ := cN h25
  obtain ⟨s3, r16, rfl, h28⟩ := cR h26
  obtain ⟨s4, r17, rfl, h30⟩ := cR h28
  obtain ⟨s5, r18, rfl, h32⟩ := cR h30
  obtain ⟨rfl, h33⟩ := cN h32
  exact join_round2 (L := lofL Lj13r2) hSj13r2 (inlOK _) (all_eq (by kernel_rfl : subsOf (E.info 13).keep (jbody Try.f13 4000002) = [.loop (body Try.f13 3), .loop (body Try.f13 8), .loop (body Try.f13 33)]) (all_cons (loopOK_of (mk := 14000003) (sl := [1, 3, 30, 31]) (ss := [([1, 3, 30, 31], lsl13r3)]) (by kernel_rfl) (by kernel_rfl) (all_cons l13r3v all_nil)) (all_cons (loopOK_of (mk := 14000008) (sl := [1, 3, 4, 5, 53, 54, 55]) (ss := [([1, 3, 4, 5, 53, 54, 55], lsl13r8)]) (by kernel_rfl) (by kernel_rfl) (all_cons l13r8v all_nil)) (all_cons (loopOK_of (mk := 14000033) (sl := [1, 3, 4, 163, 164, 165]) (ss := [([1, 3, 4, 163, 164, 165], lsl13r33)]) (by kernel_rfl) (by kernel_rfl) (all_cons l13r33v all_nil)) all_nil)))) (by kernel_rfl) h33.of
abbrev L13 : wL := [(14400002, [1, 3], none, lsj13r2)]
def sp13 : Sp := fun args τ K => dD w1 args fun x1 r1 => asNil r1 <| asNil τ <| c13 x1 (fun z1 z2 z3 z4 => K (.ptr 0 0 []) [.one w2 (.agg [.vec 1, .vec 2, .vec 3, .vec 4]), .deep .bool z1 [], .row .bool z2 false, .row .bool z3 false, .row (.arr 2 wI) z4 false])
theorem h13 : ∀ args τ K, sp13 args τ K → ACall E 13 args τ K := by
  intro args τ K h0
  obtain ⟨x1, r1, rfl, h2⟩ := cD h0
  obtain ⟨rfl, rfl, h4⟩ := cM h2
  exact ACall.spec2 (fn := Try.f13) (c := codeOf Try.f13) (L := lofL L13) nS (by kernel_rfl) (by kernel_rfl) (inlOK _) (all_eq (by kernel_rfl : subsOf (E.info 13).keep (codeOf Try.f13) = [.join 4000002 (jbody Try.f13 4000002)]) (all_cons (joinOK_of (mk := 14400002) (sl := [1, 3]) (ss := [([1, 3], lsj13r2)]) (by kernel_rfl) (by kernel_rfl) (all_cons j13r2v all_nil)) all_nil)) (by kernel_rfl) h4.of
def lsl14r3 : LSp := fun vs σ K => dP (.ptr 0 0 []) vs fun r1 => dD wI r1 fun s1 r2 => dP (.vec 5) r2 fun r3 => dD wI r3 fun s2 r4 => dD wI r4 fun s3 r5 => asNil r5 <| asCons σ fun a6 r6 => asOne w2 a6 fun a7 => asAgL a7 fun l8 => dP (.vec 1) l8 fun r9 => dP (.vec 2) r9 fun r10 => dP (.vec 3) r10 fun r11 => dP (.vec 4) r11 fun r12 => asNil r12 <| asCons r6 fun a13 r13 => asDeep .bool a13 fun s4 l14 => asNil l14 <| dR .bool false r13 fun s5 r15 => dR .bool false r15 fun s6 r16 => dR (.arr 2 wI) false r16 fun s7 r17 => dR wI false r17 fun s8 r18 => asNil r18 <| l14r3 (fun z1 z2 z3 z4 z5 z6 => K (.exit 0) [(0, .ptr 0 0 []), (1, I z1), (5, .vec 5)] [.one w2 (.agg [.vec 1, .vec 2, .vec 3, .vec 4]), .deep .bool z2 [], .row .bool z3 false, .row .bool z4 false, .row (.arr 2 wI) z5 false, .row wI z6 false]) s1 s2 s3 s4 s5 s6 s7 s8
theorem l14r3v : LoopV E wF (E.info 14).keep 5 Try.f14.ntmps 15000003 (body Try.f14 3) ([0, 1, 5, 26, 27], lsl14r3) := by
  intro vs σ K h0
  obtain ⟨s1, s2, r4, rfl, h8⟩ := cPDPD h0
  obtain ⟨s3, r5, rfl, h10⟩ := cD h8
  obtain ⟨rfl, h11⟩ := cN h10
  obtain ⟨a6, r6, rfl, h12⟩ := asCons_inv h11
  obtain ⟨a7, rfl, h13⟩ := asOne_inv h12
  obtain ⟨l8, rfl, h14⟩ := asAgL_inv h13
  obtain ⟨r12, rfl, h22⟩ := cPPPP h14
  obtain ⟨rfl, h23⟩ := cN h22
  obtain ⟨a13, r13, rfl, h24⟩ := asCons_inv h23
  obtain ⟨s4, l14, rfl, h25⟩ := asDeep_inv h24
  obtain ⟨rfl, h26⟩ := cN h25
  obtain ⟨s5, r15, rfl, h28⟩ := cR h26
  obtain ⟨s6, r16, rfl, h30⟩ := cR h28
  obtain ⟨s7, r17, rfl, h32⟩ := cR h30
  obtain ⟨s8, r18, rfl, h34⟩ := cR h32
  obtain ⟨rfl, h35⟩ := cN h34
  intro J hJ
  have hp : ∀ c' ∈ subsOf (E.info 14).keep (body Try.f14 3), SubOK E wF (E.info 14).keep 5 Try.f14.ntmps (lofL nL) c' := all_eq (by kernel_rfl) all_nil
  exact h35.of (fun s1 s2 s3 s4 s5 s6 s7 s8 => J [(15000003, .undef), (0, .ptr 0 0 []), (1, I s1), (5, .vec 5), (26, I s2), (27, I s3)] [.one w2 (.agg [.vec 1, .vec 2, .vec 3, .vec 4]), .deep .bool s4 [], .row .bool s5 false, .row .bool s6 false, .row (.arr 2 wI) s7 false, .row wI s8 false]) (fun s1 s2 s3 s4 s5 s6 s7 s8 hb => loop_round2 nS (inlOK _) hp hJ (by kernel_rfl) hb)
def lsl17r1 : LSp := fun vs σ K => dD (.sl wI) vs fun s1 r1 => dD wI r1 fun s2 r2 => asNil r2 <| asNil σ <| l17r1 (fun z1 => K (.exit 0) [(1, I z1)] []) s1 s2
theorem l17r1v : LoopV E wF (E.info 17).keep 0 Try.f17.ntmps 18000001 (body Try.f17 1) ([0, 1], lsl17r1) := by
  intro vs σ K h0
  obtain ⟨s1, s2, r2, rfl, h4⟩ := cDD h0
  obtain ⟨rfl, rfl, h6⟩ := cM h4
  intro J hJ
  have hp : wH 17 Try.f17 (body Try.f17 1) nL := all_eq (by kernel_rfl) all_nil
  exact h6.of (fun s1 s2 => J [(18000001, .undef), (0, .d (.sl wI) s1), (1, I s2)] []) (fun s1 s2 hb => loop_round2 nS (inlOK _) hp hJ (by kernel_rfl) hb)
abbrev L17 : wL := [(18000001, [0, 1], none, lsl17r1)]
def sp17 : Sp := fun args τ K => dD (.sl wI) args fun x1 r1 => dD wI r1 fun x2 r2 => asNil r2 <| asNil τ <| c17 x1 x2 (fun z1 => K (I z1) [])
theorem h17 : ∀ args τ K, sp17 args τ K → ACall E 17 args τ K := by
  intro args τ K h0
  obtain ⟨x1, x2, r2, rfl, h4⟩ := cDD h0
  obtain ⟨rfl, rfl, h6⟩ := cM h4
  exact ACall.spec2 (fn := Try.f17) (c := codeOf Try.f17) (L := lofL L17) nS (by kernel_rfl) (by kernel_rfl) (inlOK _) (all_eq (by kernel_rfl : subsOf (E.info 17).keep (codeOf Try.f17) = [.loop (body Try.f17 1)]) (all_cons (loopOK_of (mk := 18000001) (sl := [0, 1]) (ss := [([0, 1], lsl17r1)]) (by kernel_rfl) (by kernel_rfl) (all_cons l17r1v all_nil)) all_nil)) (by kernel_rfl) h6.of
def sp39 : Sp := fun args τ K => dD (.sl .bool) args fun x1 r1 => asNil r1 <| asNil τ <| c39 x1 (fun z1 => K (.vec 0) [.row .bool z1 false])
theorem h39 : ∀ args τ K, sp39 args τ K → ACall E 39 args τ K := by
  intro args τ K h0
  obtain ⟨x1, r1, rfl, h2⟩ := cD h0
  obtain ⟨rfl, rfl, h4⟩ := cM h2
  exact ACall.spec2 (fn := Try.f39) (c := codeOf Try.f39) (L := lofL nL) nS (by kernel_rfl) (by kernel_rfl) (inlOK _) (all_eq (by kernel_rfl) all_nil) (by kernel_rfl) h4.of
def sp38v2 : Sp := fun args τ K => dP (.ptr 0 0 []) args fun r1 => dD wI r1 fun x1 r2 => dD wI r2 fun x2 r3 => asNil r3 <| asCons τ fun a4 r4 => asOne w2 a4 fun a5 => asAgL a5 fun l6 => dP (.vec 1) l6 fun r7 => dP (.vec 3) r7 fun r8 => dP (.vec 4) r8 fun r9 => dP (.vec 5) r9 fun r10 => asNil r10 <| asCons r4 fun a11 r11 => asDeep .bool a11 fun x3 l12 => asCons l12 fun a13 r13 => asHole 2 a13 fun x4 => asNil r13 <| dR .bool false r11 fun x5 r14 => dR .bool false r14 fun x6 r15 => dR .bool false r15 fun x7 r16 => dR (.arr 2 wI) false r16 fun x8 r17 => asNil r17 <| c38v2 x1 x2 x3 x4 x5 x6 x7 x8 (fun z1 z2 z3 z4 z5 z6 => K (.tup []) [.one w2 (.agg [.vec 1, .vec 3, .vec 4, .vec 5]), .deep .bool z1 [(z2, 2)], .row .bool z3 false, .row .bool z4 false, .row .bool z5 false, .row (.arr 2 wI) z6 false])
theorem h38v2 : ∀ args τ K, sp38v2 args τ K → ACall E 38 args τ K := by
  intro args τ K h0
  obtain ⟨x1, x2, r3, rfl, h6⟩ := cPDD h0
  obtain ⟨rfl, h7⟩ := cN h6
  obtain ⟨a4, r4, rfl, h8⟩ := asCons_inv h7
  obtain ⟨a5, rfl, h9⟩ := asOne_inv h8
  obtain ⟨l6, rfl, h10⟩ := asAgL_inv h9
  obtain ⟨r10, rfl, h18⟩ := cPPPP h10
  obtain ⟨rfl, h19⟩ := cN h18
  obtain ⟨a11, r11, rfl, h20⟩ := asCons_inv h19
  obtain ⟨x3, l12, rfl, h21⟩ := asDeep_inv h20
  obtain ⟨a13, r13, rfl, h22⟩ := asCons_inv h21
  obtain ⟨x4, rfl, h23⟩ := asHole_inv h22
  obtain ⟨rfl, h24⟩ := cN h23
  obtain ⟨x5, r14, rfl, h26⟩ := cR h24
  obtain ⟨x6, r15, rfl, h28⟩ := cR h26
  obtain ⟨x7, r16, rfl, h30⟩ := cR h28
  obtain ⟨x8, r17, rfl, h32⟩ := cR h30
  obtain ⟨rfl, h33⟩ := cN h32
  exact ACall.spec2 (fn := Try.f38) (c := codeOf Try.f38) (L := lofL nL) nS (by kernel_rfl) (by kernel_rfl) (inlOK _) (all_eq (by kernel_rfl) all_nil) (by kernel_rfl) h33.of
abbrev Sl14r14 : wS := [(38, none, sp38v2)]
theorem hSl14r14 : SpecOK E (ofL Sl14r14) := specOK_cons h38v2 specOK_nil
def lsl14r14 : LSp := fun vs σ K => dP (.ptr 0 0 []) vs fun r1 => dD wI r1 fun s1 r2 => dP (.vec 6) r2 fun r3 => dD wI r3 fun s2 r4 => dD wI r4 fun s3 r5 => dP (.vec 7) r5 fun r6 => dP (.vec 4) r6 fun r7 => dD wI r7 fun s4 r8 => dD wI r8 fun s5 r9 => dP (.vec 5) r9 fun r10 => dD wI r10 fun s6 r11 => dD wI r11 fun s7 r12 => asNil r12 <| asCons σ fun a13 r13 => asOne w2 a13 fun a14 => asAgL a14 fun l15 => dP (.vec 1) l15 fun r16 => dP (.vec 2) r16 fun r17 => dP (.vec 3) r17 fun r18 => dP (.vec 4) r18 fun r19 => asNil r19 <| asCons r13 fun a20 r20 => asDeep .bool a20 fun s8 l21 => asCons l21 fun a22 r22 => asHole 5 a22 fun s9 => asNil r22 <| dR .bool false r20 fun s10 r23 => dR .bool false r23 fun s11 r24 => dR (.arr 2 wI) false r24 fun s12 r25 => dR .bool false r25 fun s13 r26 => dR wI false r26 fun s14 r27 => dR .bool false r27 fun s15 r28 => asNil r28 <| l14r14 (fun z1 z2 z3 z4 z5 z6 z7 z8 z9 z10 z11 => K (.exit 4) [(0, .ptr 0 0 []), (1, I z1), (5, .vec 5), (9, I z2), (10, I z3), (11, .vec 6), (38, .vec 4), (39, I z4), (40, I z5)] [.one w2 (.agg [.vec 1, .vec 2, .vec 3, .vec 4]), .deep .bool z6 [], .row .bool z7 false, .row .bool z8 false, .row (.arr 2 wI) z9 false, .row wI z10 false, .row .bool z11 false]) s1 s2 s3 s4 s5 s6 s7 s8 s9 s10 s11 s12 s13 s14 s15
theorem l14r14v : LoopV E wF (E.info 14).keep 5 Try.f14.ntmps 15000014 (body Try.f14 14) ([0, 1, 5, 9, 10, 11, 38, 39, 40, 104, 105, 106], lsl14r14) := by
  intro vs σ K h0
  obtain ⟨s1, s2, r4, rfl, h8⟩ := cPDPD h0
  obtain ⟨s3, s4, r8, rfl, h16⟩ := cDPPD h8
  obtain ⟨s5, s6, s7, r12, rfl, h24⟩ := cDPDD h16
  obtain ⟨rfl, h25⟩ := cN h24
  obtain ⟨a13, r13, rfl, h26⟩ := asCons_inv h25
  obtain ⟨a14, rfl, h27⟩ := asOne_inv h26
  obtain ⟨l15, rfl, h28⟩ := asAgL_inv h27
  obtain ⟨r19, rfl, h36⟩ := cPPPP h28
  obtain ⟨rfl, h37⟩ := cN h36
  obtain ⟨a20, r20, rfl, h38⟩ := asCons_inv h37
  obtain ⟨s8, l21, rfl, h39⟩ := asDeep_inv h38
  obtain ⟨a22, r22, rfl, h40⟩ := asCons_inv h39
  obtain ⟨s9, rfl, h41⟩ := asHole_inv h40
  obtain ⟨rfl, h42⟩ := cN h41
  obtain ⟨s10, r23, rfl, h44⟩ := cR h42
  obtain ⟨s11, r24, rfl, h46⟩ := cR h44
  obtain ⟨s12, r25, rfl, h48⟩ := cR h46
  obtain ⟨s13, r26, rfl, h50⟩ := cR h48
  obtain ⟨s14, r27, rfl, h52⟩ := cR h50
  obtain ⟨s15, r28, rfl, h54⟩ := cR h52
  obtain ⟨rfl, h55⟩ := cN h54
  intro J hJ
  have hp : ∀ c' ∈ subsOf (E.info 14).keep (body Try.f14 14), SubOK E wF (E.info 14).keep 5 Try.f14.ntmps (lofL nL) c' := all_eq (by kernel_rfl) all_nil
  exact h55.of (fun s1 s2 s3 s4 s5 s6 s7 s8 s9 s10 s11 s12 s13 s14 s15 => J [(15000014, .undef), (0, .ptr 0 0 []), (1, I s1), (5, .vec 6), (9, I s2), (10, I s3), (11, .vec 7), (38, .vec 4), (39, I s4), (40, I s5), (104, .vec 5), (105, I s6), (106, I s7)] [.one w2 (.agg [.vec 1, .vec 2, .vec 3, .vec 4]), .deep .bool s8 [(s9, 5)], .row .bool s10 false, .row .bool s11 false, .row (.arr 2 wI) s12 false, .row .bool s13 false, .row wI s14 false, .row .bool s15 false]) (fun s1 s2 s3 s4 s5 s6 s7 s8 s9 s10 s11 s12 s13 s14 s15 hb => loop_round2 hSl14r14 (inlOK _) hp hJ (by kernel_rfl) hb)
def lsl53r3 : LSp := fun vs σ K => dD wI vs fun s1 r1 => dD (.sl .bool) r1 fun s2 r2 => dD wI r2 fun s3 r3 => dD wI r3 fun s4 r4 => asNil r4 <| asNil σ <| l53r3 (fun z1 => K (.exit 0) [(3, I z1)] []) s1 s2 s3 s4
theorem l53r3v : LoopV E wF (E.info 53).keep 0 Try.f53.ntmps 54000003 (body Try.f53 3) ([3, 6, 7, 8], lsl53r3) := by
  intro vs σ K h0
  obtain ⟨s1, s2, s3, s4, r4, rfl, h8⟩ := cDDDD h0
  obtain ⟨rfl, rfl, h10⟩ := cM h8
  intro J hJ
  have hp : wH 53 Try.f53 (body Try.f53 3) nL := all_eq (by kernel_rfl) all_nil
  exact h10.of (fun s1 s2 s3 s4 => J [(54000003, .undef), (3, I s1), (6, .d (.sl .bool) s2), (7, I s3), (8, I s4)] []) (fun s1 s2 s3 s4 hb => loop_round2 nS (inlOK _) hp hJ (by kernel_rfl) hb)
abbrev L53 : wL := [(54000003, [3, 6, 7, 8], none, lsl53r3)]
def sp53 : Sp := fun args τ K => dD (.sl .bool) args fun x1 r1 => asNil r1 <| asNil τ <| c53 x1 (fun z1 => K (I z1) [])
theorem h53 : ∀ args τ K, sp53 args τ K → ACall E 53 args τ K := by
  intro args τ K h0
  obtain ⟨x1, r1, rfl, h2⟩ := cD h0
  obtain ⟨rfl, rfl, h4⟩ := cM h2
  exact ACall.spec2 (fn := Try.f53) (c := codeOf Try.f53) (L := lofL L53) nS (by kernel_rfl) (by kernel_rfl) (inlOK _) (all_eq (by kernel_rfl : subsOf (E.info 53).keep (codeOf Try.f53) = [.loop (body Try.f53 3)]) (all_cons (loopOK_of (mk := 54000003) (sl := [3, 6, 7, 8]) (ss := [([3, 6, 7, 8], lsl53r3)]) (by kernel_rfl) (by kernel_rfl) (all_cons l53r3v all_nil)) all_nil)) (by kernel_rfl) h4.of
abbrev Sl40r2 : wS := [(53, none, sp53)]
theorem hSl40r2 : SpecOK E (ofL Sl40r2) := specOK_cons h53 specOK_nil
def lsl40r2 : LSp := fun vs σ K => dP (.ptr 0 0 []) vs fun r1 => dD wI r1 fun s1 r2 => dD wI r2 fun s2 r3 => dD wI r3 fun s3 r4 => dP (.vec 5) r4 fun r5 => dD wI r5 fun s4 r6 => dD wI r6 fun s5 r7 => asNil r7 <| asCons σ fun a8 r8 => asOne w2 a8 fun a9 => asAgL a9 fun l10 => dP (.vec 1) l10 fun r11 => dP (.vec 2) r11 fun r12 => dP (.vec 3) r12 fun r13 => dP (.vec 4) r13 fun r14 => asNil r14 <| asCons r8 fun a15 r15 => asDeep .bool a15 fun s6 l16 => asCons l16 fun a17 r17 => asHole 5 a17 fun s7 => asNil r17 <| dR .bool false r15 fun s8 r18 => dR .bool false r18 fun s9 r19 => dR (.arr 2 wI) false r19 fun s10 r20 => dR .bool false r20 fun s11 r21 => asNil r21 <| l40r2 (fun z1 z2 z3 z4 z5 z6 => K (.exit 0) [(6, I z1), (7, I z2)] [.one w2 (.agg [.vec 1, .vec 2, .vec 3, .vec 4]), .deep .bool z3 [], .row .bool z4 false, .row .bool z5 false, .row (.arr 2 wI) z6 false]) s1 s2 s3 s4 s5 s6 s7 s8 s9 s10 s11
theorem l40r2v : LoopV E wF (E.info 40).keep 5 Try.f40.ntmps 41000002 (body Try.f40 2) ([0, 2, 6, 7, 16, 17, 18], lsl40r2) := by
  intro vs σ K h0
  obtain ⟨s1, s2, s3, r4, rfl, h8⟩ := cPDDD h0
  obtain ⟨s4, s5, r7, rfl, h14⟩ := cPDD h8
  obtain ⟨rfl, h15⟩ := cN h14
  obtain ⟨a8, r8, rfl, h16⟩ := asCons_inv h15
  obtain ⟨a9, rfl, h17⟩ := asOne_inv h16
  obtain ⟨l10, rfl, h18⟩ := asAgL_inv h17
  obtain ⟨r14, rfl, h26⟩ := cPPPP h18
  obtain ⟨rfl, h27⟩ := cN h26
  obtain ⟨a15, r15, rfl, h28⟩ := asCons_inv h27
  obtain ⟨s6, l16, rfl, h29⟩ := asDeep_inv h28
  obtain ⟨a17, r17, rfl, h30⟩ := asCons_inv h29
  obtain ⟨s7, rfl, h31⟩ := asHole_inv h30
  obtain ⟨rfl, h32⟩ := cN h31
  obtain ⟨s8, r18, rfl, h34⟩ := cR h32
  obtain ⟨s9, r19, rfl, h36⟩ := cR h34
  obtain ⟨s10, r20, rfl, h38⟩ := cR h36
  obtain ⟨s11, r21, rfl, h40⟩ := cR h38
  obtain ⟨rfl, h41⟩ := cN h40
  intro J hJ
  have hp : ∀ c' ∈ subsOf (E.info 40).keep (body Try.f40 2), SubOK E wF (E.info 40).keep 5 Try.f40.ntmps (lofL nL) c' := all_eq (by kernel_rfl) all_nil
  exact h41.of (fun s1 s2 s3 s4 s5 s6 s7 s8 s9 s10 s11 => J [(41000002, .undef), (0, .ptr 0 0 []), (2, I s1), (6, I s2), (7, I s3), (16, .vec 5), (17, I s4), (18, I s5)] [.one w2 (.agg [.vec 1, .vec 2, .vec 3, .vec 4]), .deep .bool s6 [(s7, 5)], .row .bool s8 false, .row .bool s9 false, .row (.arr 2 wI) s10 false, .row .bool s11 false]) (fun s1 s2 s3 s4 s5 s6 s7 s8 s9 s10 s11 hb => loop_round2 hSl40r2 (inlOK _) hp hJ (by kernel_rfl) hb)
abbrev L40 : wL := [(41000002, [0, 2, 6, 7, 16, 17, 18], none, lsl40r2)]
def sp40 : Sp := fun args τ K => dP (.ptr 0 0 []) args fun r1 => dD wI r1 fun x1 r2 => dD wI r2 fun x2 r3 => asNil r3 <| asCons τ fun a4 r4 => asOne w2 a4 fun a5 => asAgL a5 fun l6 => dP (.vec 1) l6 fun r7 => dP (.vec 2) r7 fun r8 => dP (.vec 3) r8 fun r9 => dP (.vec 4) r9 fun r10 => asNil r10 <| asCons r4 fun a11 r11 => asDeep .bool a11 fun x3 l12 => asNil l12 <| dR .bool false r11 fun x4 r13 => dR .bool false r13 fun x5 r14 => dR (.arr 2 wI) false r14 fun x6 r15 => asNil r15 <| c40 x1 x2 x3 x4 x5 x6 (fun z1 z2 z3 z4 z5 z6 => K (.tup [I z1, I z2]) [.one w2 (.agg [.vec 1, .vec 2, .vec 3, .vec 4]), .deep .bool z3 [], .row .bool z4 false, .row .bool z5 false, .row (.arr 2 wI) z6 false])
theorem h40 : ∀ args τ K, sp40 args τ K → ACall E 40 args τ K := by
  intro args τ K h0
  obtain ⟨x1, x2, r3, rfl, h6⟩ := cPDD h0
  obtain ⟨rfl, h7⟩ := cN h6
  obtain ⟨a4, r4, rfl, h8⟩ := asCons_inv h7
  obtain ⟨a5, rfl, h9⟩ := asOne_inv h8
  obtain ⟨l6, rfl, h10⟩ := asAgL_inv h9
  obtain ⟨r10, rfl, h18⟩ := cPPPP h10
  obtain ⟨rfl, h19⟩ := cN h18
  obtain ⟨a11, r11, rfl, h20⟩ := asCons_inv h19
  obtain ⟨x3, l12, rfl, h21⟩ := asDeep_inv h20
  obtain ⟨rfl, h22⟩ := cN h21
  obtain ⟨x4, r13, rfl, h24⟩ := cR h22
  obtain ⟨x5, r14, rfl, h26⟩ := cR h24
  obtain ⟨x6, r15, rfl, h28⟩ := cR h26
  obtain ⟨rfl, h29⟩ := cN h28
  exact ACall.spec2 (fn := Try.f40) (c := codeOf Try.f40) (L := lofL L40) nS (by kernel_rfl) (by kernel_rfl) (inlOK _) (all_eq (by kernel_rfl : subsOf (E.info 40).keep (codeOf Try.f40) = [.loop (body Try.f40 2)]) (all_cons (loopOK_of (mk := 41000002) (sl := [0, 2, 6, 7, 16, 17, 18]) (ss := [([0, 2, 6, 7, 16, 17, 18], lsl40r2)]) (by kernel_rfl) (by kernel_rfl) (all_cons l40r2v all_nil)) all_nil)) (by kernel_rfl) h29.of
def lsl14r22 : LSp := fun vs σ K => dP (.ptr 0 0 []) vs fun r1 => dD wI r1 fun s1 r2 => dP (.vec 6) r2 fun r3 => dD wI r3 fun s2 r4 => dP (.vec 7) r4 fun r5 => dP (.vec 4) r5 fun r6 => dD wI r6 fun s3 r7 => dD wI r7 fun s4 r8 => dP (.vec 5) r8 fun r9 => dD wI r9 fun s5 r10 => dD wI r10 fun s6 r11 => asNil r11 <| asCons σ fun a12 r12 => asOne w2 a12 fun a13 => asAgL a13 fun l14 => dP (.vec 1) l14 fun r15 => dP (.vec 2) r15 fun r16 => dP (.vec 3) r16 fun r17 => dP (.vec 4) r17 fun r18 => asNil r18 <| asCons r12 fun a19 r19 => asDeep .bool a19 fun s7 l20 => asCons l20 fun a21 r21 => asHole 5 a21 fun s8 => asNil r21 <| dR .bool false r19 fun s9 r22 => dR .bool false r22 fun s10 r23 => dR (.arr 2 wI) false r23 fun s11 r24 => dR .bool false r24 fun s12 r25 => dR wI false r25 fun s13 r26 => dR .bool false r26 fun s14 r27 => asNil r27 <| l14r22 (fun z1 z2 z3 z4 z5 z6 z7 z8 => K (.exit 6) [(0, .ptr 0 0 []), (1, I z1), (5, .vec 5), (38, .vec 4), (39, I z2), (40, I z3)] [.one w2 (.agg [.vec 1, .vec 2, .vec 3, .vec 4]), .deep .bool z4 [], .row .bool z5 false, .row .bool z6 false, .row (.arr 2 wI) z7 false, .row wI z8 false]) s1 s2 s3 s4 s5 s6 s7 s8 s9 s10 s11 s12 s13 s14
theorem l14r22v : LoopV E wF (E.info 14).keep 5 Try.f14.ntmps 15000022 (body Try.f14 22) ([0, 1, 5, 9, 11, 38, 39, 40, 143, 144, 145], lsl14r22) := by
  intro vs σ K h0
  obtain ⟨s1, s2, r4, rfl, h8⟩ := cPDPD h0
  obtain ⟨s3, s4, r8, rfl, h16⟩ := cPPDD h8
  obtain ⟨s5, s6, r11, rfl, h22⟩ := cPDD h16
  obtain ⟨rfl, h23⟩ := cN h22
  obtain ⟨a12, r12, rfl, h24⟩ := asCons_inv h23
  obtain ⟨a13, rfl, h25⟩ := asOne_inv h24
  obtain ⟨l14, rfl, h26⟩ := asAgL_inv h25
  obtain ⟨r18, rfl, h34⟩ := cPPPP h26
  obtain ⟨rfl, h35⟩ := cN h34
  obtain ⟨a19, r19, rfl, h36⟩ := asCons_inv h35
  obtain ⟨s7, l20, rfl, h37⟩ := asDeep_inv h36
  obtain ⟨a21, r21, rfl, h38⟩ := asCons_inv h37
  obtain ⟨s8, rfl, h39⟩ := asHole_inv h38
  obtain ⟨rfl, h40⟩ := cN h39
  obtain ⟨s9, r22, rfl, h42⟩ := cR h40
  obtain ⟨s10, r23, rfl, h44⟩ := cR h42
  obtain ⟨s11, r24, rfl, h46⟩ := cR h44
  obtain ⟨s12, r25, rfl, h48⟩ := cR h46
  obtain ⟨s13, r26, rfl, h50⟩ := cR h48
  obtain ⟨s14, r27, rfl, h52⟩ := cR h50
  obtain ⟨rfl, h53⟩ := cN h52
  intro J hJ
  have hp : ∀ c' ∈ subsOf (E.info 14).keep (body Try.f14 22), SubOK E wF (E.info 14).keep 5 Try.f14.ntmps (lofL nL) c' := all_eq (by kernel_rfl) all_nil
  exact h53.of (fun s1 s2 s3 s4 s5 s6 s7 s8 s9 s10 s11 s12 s13 s14 => J [(15000022, .undef), (0, .ptr 0 0 []), (1, I s1), (5, .vec 6), (9, I s2), (11, .vec 7), (38, .vec 4), (39, I s3), (40, I s4), (143, .vec 5), (144, I s5), (145, I s6)] [.one w2 (.agg [.vec 1, .vec 2, .vec 3, .vec 4]), .deep .bool s7 [(s8, 5)], .row .bool s9 false, .row .bool s10 false, .row (.arr 2 wI) s11 false, .row .bool s12 false, .row wI s13 false, .row .bool s14 false]) (fun s1 s2 s3 s4 s5 s6 s7 s8 s9 s10 s11 s12 s13 s14 hb => loop_round2 nS (inlOK _) hp hJ (by kernel_rfl) hb)
def lsl14r28 : LSp := fun vs σ K => dP (.ptr 0 0 []) vs fun r1 => dD wI r1 fun s1 r2 => dP (.vec 5) r2 fun r3 => dD wI r3 fun s2 r4 => dD wI r4 fun s3 r5 => dP (.vec 4) r5 fun r6 => dD wI r6 fun s4 r7 => dD wI r7 fun s5 r8 => dD wI r8 fun s6 r9 => dD wI r9 fun s7 r10 => asNil r10 <| asCons σ fun a11 r11 => asOne w2 a11 fun a12 => asAgL a12 fun l13 => dP (.vec 1) l13 fun r14 => dP (.vec 2) r14 fun r15 => dP (.vec 3) r15 fun r16 => dP (.vec 4) r16 fun r17 => asNil r17 <| asCons r11 fun a18 r18 => asDeep .bool a18 fun s8 l19 => asNil l19 <| dR .bool false r18 fun s9 r20 => dR .bool false r20 fun s10 r21 => dR (.arr 2 wI) false r21 fun s11 r22 => dR wI false r22 fun s12 r23 => asNil r23 <| l14r28 (fun z1 z2 z3 z4 z5 z6 z7 z8 z9 z10 => K (.exit 8) [(0, .ptr 0 0 []), (1, I z1), (5, .vec 5), (9, I z2), (10, I z3), (38, .vec 4), (39, I z4), (40, I z5)] [.one w2 (.agg [.vec 1, .vec 2, .vec 3, .vec 4]), .deep .bool z6 [], .row .bool z7 false, .row .bool z8 false, .row (.arr 2 wI) z9 false, .row wI z10 false]) s1 s2 s3 s4 s5 s6 s7 s8 s9 s10 s11 s12
theorem l14r28v : LoopV E wF (E.info 14).keep 5 Try.f14.ntmps 15000028 (body Try.f14 28) ([0, 1, 5, 9, 10, 38, 39, 40, 184, 185], lsl14r28) := by
  intro vs σ K h0
  obtain ⟨s1, s2, r4, rfl, h8⟩ := cPDPD h0
  obtain ⟨s3, s4, s5, r8, rfl, h16⟩ := cDPDD h8
  obtain ⟨s6, s7, r10, rfl, h20⟩ := cDD h16
  obtain ⟨rfl, h21⟩ := cN h20
  obtain ⟨a11, r11, rfl, h22⟩ := asCons_inv h21
  obtain ⟨a12, rfl, h23⟩ := asOne_inv h22
  obtain ⟨l13, rfl, h24⟩ := asAgL_inv h23
  obtain ⟨r17, rfl, h32⟩ := cPPPP h24
  obtain ⟨rfl, h33⟩ := cN h32
  obtain ⟨a18, r18, rfl, h34⟩ := asCons_inv h33
  obtain ⟨s8, l19, rfl, h35⟩ := asDeep_inv h34
  obtain ⟨rfl, h36⟩ := cN h35
  obtain ⟨s9, r20, rfl, h38⟩ := cR h36
  obtain ⟨s10, r21, rfl, h40⟩ := cR h38
  obtain ⟨s11, r22, rfl, h42⟩ := cR h40
  obtain ⟨s12, r23, rfl, h44⟩ := cR h42
  obtain ⟨rfl, h45⟩ := cN h44
  intro J hJ
  have hp : ∀ c' ∈ subsOf (E.info 14).keep (body Try.f14 28), SubOK E wF (E.info 14).keep 5 Try.f14.ntmps (lofL nL) c' := all_eq (by kernel_rfl) all_nil
  exact h45.of (fun s1 s2 s3 s4 s5 s6 s7 s8 s9 s10 s11 s12 => J [(15000028, .undef), (0, .ptr 0 0 []), (1, I s1), (5, .vec 5), (9, I s2), (10, I s3), (38, .vec 4), (39, I s4), (40, I s5), (184, I s6), (185, I s7)] [.one w2 (.agg [.vec 1, .vec 2, .vec 3, .vec 4]), .deep .bool s8 [], .row .bool s9 false, .row .bool s10 false, .row (.arr 2 wI) s11 false, .row wI s12 false]) (fun s1 s2 s3 s4 s5 s6 s7 s8 s9 s10 s11 s12 hb => loop_round2 nS (inlOK _) hp hJ (by kernel_rfl) hb)
end Go.Proofs.Ytmnidkbkmakdbaa
