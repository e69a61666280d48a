/- The functions compute that (printed by a program). -/
import Derived.Test.YtlbdabijclkhnaaAD3
import Derived.Test.YtlbdabijclkhnaaAEnvC
import Derived.Test.YtlbdabijclkhnaaAW3a
import Derived.KernelRfl
namespace Go.Proofs.Ytlbdabijclkhnaa
open Go.Abs
set_option maxRecDepth 100000
set_option maxHeartbeats 4000000
set_option linter.unusedVariables false
def lsl11r4 : LSp := fun vs σ K => dD (.sl wI) vs fun s1 r1 => dD (.sl wI) r1 fun s2 r2 => dD wI r2 fun s3 r3 => dD wI r3 fun s4 r4 => asNil r4 <| asNil σ <| l11r4 (fun z1 => K .ret [(4, B z1)] []) (K (.exit 0) [(4, .undef)] []) s1 s2 s3 s4
theorem l11r4v : LoopV E wF (E.info 11).keep 0 Try.f11.ntmps 12000004 (body Try.f11 4) ([1, 12, 13, 14], lsl11r4) := by
  intro vs σ K h0
  obtain ⟨s1, s2, s3, s4, r4, rfl, h8⟩ := cDDDD h0
  obtain ⟨rfl, rfl, h10⟩ := cM h8
  intro J hJ
  have hp : wH 11 Try.f11 (body Try.f11 4) nL := all_eq (by kernel_rfl) all_nil
  exact h10.of (fun s1 s2 s3 s4 => J [(12000004, .undef), (1, .d (.sl wI) s1), (12, .d (.sl wI) s2), (13, I s3), (14, I s4)] []) (fun s1 s2 s3 s4 hb => loop_round2 nS (inlOK _) hp hJ (by kernel_rfl) hb)
abbrev L11 : wL := [(12000004, [1, 12, 13, 14], none, lsl11r4)]
def sp11 : Sp := fun args τ K => dD (.sl wI) args fun x1 r1 => dD (.sl wI) r1 fun x2 r2 => asNil r2 <| asNil τ <| c11 x1 x2 (fun z1 => K (B z1) [])
theorem h11 : ∀ args τ K, sp11 args τ K → ACall E 11 args τ K := by
  intro args τ K h0
  obtain ⟨x1, x2, r2, rfl, h4⟩ := cDD h0
  obtain ⟨rfl, rfl, h6⟩ := cM h4
  exact ACall.spec2 (fn := Try.f11) (c := codeOf Try.f11) (L := lofL L11) nS (by kernel_rfl) (by kernel_rfl) (inlOK _) (all_eq (by kernel_rfl : subsOf (E.info 11).keep (codeOf Try.f11) = [.loop (body Try.f11 4)]) (all_cons (loopOK_of (mk := 12000004) (sl := [1, 12, 13, 14]) (ss := [([1, 12, 13, 14], lsl11r4)]) (by kernel_rfl) (by kernel_rfl) (all_cons l11r4v all_nil)) all_nil)) (by kernel_rfl) h6.of
abbrev Sl14r4 : wS := [(11, none, sp11)]
theorem hSl14r4 : SpecOK E (ofL Sl14r4) := specOK_cons h11 specOK_nil
def lsl14r4 : LSp := fun vs σ K => dP (.vec 1) vs fun r1 => dP (.vec 0) r1 fun r2 => dD wI r2 fun s1 r3 => dD wI r3 fun s2 r4 => asNil r4 <| asCons σ fun a5 r5 => asDeep wI a5 fun s3 l6 => asNil l6 <| asCons r5 fun a7 r7 => asDeep wI a7 fun s4 l8 => asNil l8 <| asNil r7 <| l14r4 (fun z1 z2 z3 => K .ret [(4, B z1)] [.deep wI z2 [], .deep wI z3 []]) (fun z1 z2 => K (.exit 0) [(4, .undef)] [.deep wI z1 [], .deep wI z2 []]) s1 s2 s3 s4
theorem l14r4v : LoopV E wF (E.info 14).keep 2 Try.f14.ntmps 15000004 (body Try.f14 4) ([1, 12, 13, 14], lsl14r4) := by
  intro vs σ K h0
  obtain ⟨s1, s2, r4, rfl, h8⟩ := cPPDD h0
  obtain ⟨rfl, h9⟩ := cN h8
  obtain ⟨a5, r5, rfl, h10⟩ := asCons_inv h9
  obtain ⟨s3, l6, rfl, h11⟩ := asDeep_inv h10
  obtain ⟨rfl, h12⟩ := cN h11
  obtain ⟨a7, r7, rfl, h13⟩ := asCons_inv h12
  obtain ⟨s4, l8, rfl, h14⟩ := asDeep_inv h13
  obtain ⟨rfl, rfl, h16⟩ := cM h14
  intro J hJ
  have hp : ∀ c' ∈ subsOf (E.info 14).keep (body Try.f14 4), SubOK E wF (E.info 14).keep 2 Try.f14.ntmps (lofL nL) c' := all_eq (by kernel_rfl) all_nil
  exact h16.of (fun s1 s2 s3 s4 => J [(15000004, .undef), (1, .vec 1), (12, .vec 0), (13, I s1), (14, I s2)] [.deep wI s3 [], .deep wI s4 []]) (fun s1 s2 s3 s4 hb => loop_round2 hSl14r4 (inlOK _) hp hJ (by kernel_rfl) hb)
abbrev L14 : wL := [(15000004, [1, 12, 13, 14], none, lsl14r4)]
def sp14 : Sp := fun args τ K => dP (.vec 0) args fun r1 => dP (.vec 1) r1 fun r2 => asNil r2 <| asCons τ fun a3 r3 => asDeep wI a3 fun x1 l4 => asNil l4 <| asCons r3 fun a5 r5 => asDeep wI a5 fun x2 l6 => asNil l6 <| asNil r5 <| c14 x1 x2 (fun z1 z2 z3 => K (B z1) [.deep wI z2 [], .deep wI z3 []])
theorem h14 : ∀ args τ K, sp14 args τ K → ACall E 14 args τ K := by
  intro args τ K h0
  obtain ⟨r2, rfl, h4⟩ := cPP h0
  obtain ⟨rfl, h5⟩ := cN h4
  obtain ⟨a3, r3, rfl, h6⟩ := asCons_inv h5
  obtain ⟨x1, l4, rfl, h7⟩ := asDeep_inv h6
  obtain ⟨rfl, h8⟩ := cN h7
  obtain ⟨a5, r5, rfl, h9⟩ := asCons_inv h8
  obtain ⟨x2, l6, rfl, h10⟩ := asDeep_inv h9
  obtain ⟨rfl, rfl, h12⟩ := cM h10
  exact ACall.spec2 (fn := Try.f14) (c := codeOf Try.f14) (L := lofL L14) nS (by kernel_rfl) (by kernel_rfl) (inlOK _) (all_eq (by kernel_rfl : subsOf (E.info 14).keep (codeOf Try.f14) = [.loop (body Try.f14 4)]) (all_cons (loopOK_of (mk := 15000004) (sl := [1, 12, 13, 14]) (ss := [([1, 12, 13, 14], lsl14r4)]) (by kernel_rfl) (by kernel_rfl) (all_cons l14r4v all_nil)) all_nil)) (by kernel_rfl) h12.of
abbrev Sl14r4v2 : wS := [(11, none, sp11)]
theorem hSl14r4v2 : SpecOK E (ofL Sl14r4v2) := specOK_cons h11 specOK_nil
def lsl14r4v2 : LSp := fun vs σ K => dP (.vec 1) vs fun r1 => dP (.vec 0) r1 fun r2 => dD wI r2 fun s1 r3 => dD wI r3 fun s2 r4 => asNil r4 <| asCons σ fun a5 r5 => asDeep wI a5 fun s3 l6 => asNil l6 <| asCons r5 fun a7 r7 => asDeep wI a7 fun s4 l8 => asCons l8 fun a9 r9 => asHole 2 a9 fun s5 => asNil r9 <| dR wI false r7 fun s6 r10 => asNil r10 <| l14r4v2 (fun z1 z2 z3 z4 z5 => K .ret [(4, B z1)] [.deep wI z2 [], .deep wI z3 [(z4, 2)], .row wI z5 false]) (fun z1 z2 z3 z4 => K (.exit 0) [(4, .undef)] [.deep wI z1 [], .deep wI z2 [(z3, 2)], .row wI z4 false]) s1 s2 s3 s4 s5 s6
theorem l14r4v2v : LoopV E wF (E.info 14).keep 3 Try.f14.ntmps 15000004 (body Try.f14 4) ([1, 12, 13, 14], lsl14r4v2) := by
  intro vs σ K h0
  obtain ⟨s1, s2, r4, rfl, h8⟩ := cPPDD h0
  obtain ⟨rfl, h9⟩ := cN h8
  obtain ⟨a5, r5, rfl, h10⟩ := asCons_inv h9
  obtain ⟨s3, l6, rfl, h11⟩ := asDeep_inv h10
  obtain ⟨rfl, h12⟩ := cN h11
  obtain ⟨a7, r7, rfl, h13⟩ := asCons_inv h12
  obtain ⟨s4, l8, rfl, h14⟩ := asDeep_inv h13
  obtain ⟨a9, r9, rfl, h15⟩ := asCons_inv h14
  obtain ⟨s5, rfl, h16⟩ := asHole_inv h15
  obtain ⟨rfl, h17⟩ := cN h16
  obtain ⟨s6, r10, rfl, h19⟩ := cR h17
  obtain ⟨rfl, h20⟩ := cN h19
  intro J hJ
  have hp : ∀ c' ∈ subsOf (E.info 14).keep (body Try.f14 4), SubOK E wF (E.info 14).keep 3 Try.f14.ntmps (lofL nL) c' := all_eq (by kernel_rfl) all_nil
  exact h20.of (fun s1 s2 s3 s4 s5 s6 => J [(15000004, .undef), (1, .vec 1), (12, .vec 0), (13, I s1), (14, I s2)] [.deep wI s3 [], .deep wI s4 [(s5, 2)], .row wI s6 false]) (fun s1 s2 s3 s4 s5 s6 hb => loop_round2 hSl14r4v2 (inlOK _) hp hJ (by kernel_rfl) hb)
abbrev L14v2 : wL := [(15000004, [1, 12, 13, 14], none, lsl14r4v2)]
def sp14v2 : Sp := fun args τ K => dP (.vec 0) args fun r1 => dP (.vec 1) r1 fun r2 => asNil r2 <| asCons τ fun a3 r3 => asDeep wI a3 fun x1 l4 => asNil l4 <| asCons r3 fun a5 r5 => asDeep wI a5 fun x2 l6 => asCons l6 fun a7 r7 => asHole 2 a7 fun x3 => asNil r7 <| dR wI true r5 fun x4 r8 => asNil r8 <| c14v2 x1 x2 x3 x4 (fun z1 z2 z3 z4 z5 => K (B z1) [.deep wI z2 [], .deep wI z3 [(z4, 2)], .row wI z5 false])
theorem h14v2 : ∀ args τ K, sp14v2 args τ K → ACall E 14 args τ K := by
  intro args τ K h0
  obtain ⟨r2, rfl, h4⟩ := cPP h0
  obtain ⟨rfl, h5⟩ := cN h4
  obtain ⟨a3, r3, rfl, h6⟩ := asCons_inv h5
  obtain ⟨x1, l4, rfl, h7⟩ := asDeep_inv h6
  obtain ⟨rfl, h8⟩ := cN h7
  obtain ⟨a5, r5, rfl, h9⟩ := asCons_inv h8
  obtain ⟨x2, l6, rfl, h10⟩ := asDeep_inv h9
  obtain ⟨a7, r7, rfl, h11⟩ := asCons_inv h10
  obtain ⟨x3, rfl, h12⟩ := asHole_inv h11
  obtain ⟨rfl, h13⟩ := cN h12
  obtain ⟨x4, r8, rfl, h15⟩ := cR h13
  obtain ⟨rfl, h16⟩ := cN h15
  exact ACall.spec2 (fn := Try.f14) (c := codeOf Try.f14) (L := lofL L14v2) nS (by kernel_rfl) (by kernel_rfl) (inlOK _) (all_eq (by kernel_rfl : subsOf (E.info 14).keep (codeOf Try.f14) = [.loop (body Try.f14 4)]) (all_cons (loopOK_of (mk := 15000004) (sl := [1, 12, 13, 14]) (ss := [([1, 12, 13, 14], lsl14r4v2)]) (by kernel_rfl) (by kernel_rfl) (all_cons l14r4v2v all_nil)) all_nil)) (by kernel_rfl) h16.of
abbrev S4 : wS := [(7, none, sp7), (13, none, sp13), (14, some ([.fix (.vec 0), .fix (.vec 1)], [.deep wI [], .deep wI []]), sp14), (14, some ([.fix (.vec 0), .fix (.vec 1)], [.deep wI [], .deep wI [2], .row wI true]), sp14v2)]
theorem hS4 : SpecOK E (ofL S4) := specOK_cons h7 (specOK_cons h13 (specOK_cons h14 (specOK_cons h14v2 specOK_nil)))
def sp4 : Sp := fun args τ K => asNil args <| asNil τ <| c4  (fun z1 => K (B z1) [])
theorem h4 : ∀ args τ K, sp4 args τ K → ACall E 4 args τ K := by
  intro args τ K h0
  obtain ⟨rfl, rfl, h2⟩ := cM h0
  exact ACall.spec2 (fn := Try.f4) (c := codeOf Try.f4) (L := lofL nL) hS4 (by kernel_rfl) (by kernel_rfl) (inlOK _) (all_eq (by kernel_rfl) all_nil) (by kernel_rfl) h2.of
def lsl6r6 : LSp := fun vs σ K => dD wI vs fun s1 r1 => dP (.ptr 0 0 []) r1 fun r2 => dD (.sl w0) r2 fun s2 r3 => dD wI r3 fun s3 r4 => dD wI r4 fun s4 r5 => dD (.sl wI) r5 fun s5 r6 => dD wI r6 fun s6 r7 => dD wI r7 fun s7 r8 => asNil r8 <| dO w0 w0 σ fun s8 r9 => asNil r9 <| l6r6 (fun z1 z2 z3 z4 z5 => K (.exit 2) [(3, I z1), (5, .ptr 0 0 []), (11, .d (.sl w0) z2), (12, I z3), (13, I z4)] [.one w0 (.d w0 z5)]) s1 s2 s3 s4 s5 s6 s7 s8
theorem l6r6v : LoopV E wF (E.info 6).keep 0 Try.f6.ntmps 7000006 (body Try.f6 6) ([3, 5, 11, 12, 13, 18, 19, 20], lsl6r6) := by
  intro vs σ K h0
  obtain ⟨s1, s2, s3, r4, rfl, h8⟩ := cDPDD h0
  obtain ⟨s4, s5, s6, s7, r8, rfl, h16⟩ := cDDDD h8
  obtain ⟨rfl, h17⟩ := cN h16
  obtain ⟨s8, r9, rfl, h20⟩ := oD h17
  obtain ⟨rfl, h21⟩ := cN h20
  intro J hJ
  have hp : wH 6 Try.f6 (body Try.f6 6) nL := all_eq (by kernel_rfl) all_nil
  exact h21.of (fun s1 s2 s3 s4 s5 s6 s7 s8 => J [(7000006, .undef), (3, I s1), (5, .ptr 0 0 []), (11, .d (.sl w0) s2), (12, I s3), (13, I s4), (18, .d (.sl wI) s5), (19, I s6), (20, I s7)] [.one w0 (.d w0 s8)]) (fun s1 s2 s3 s4 s5 s6 s7 s8 hb => loop_round2 nS (inlOK _) hp hJ (by kernel_rfl) hb)
def lsl6r11 : LSp := fun vs σ K => dD wI vs fun s1 r1 => dD (.sl w0) r1 fun s2 r2 => dD wI r2 fun s3 r3 => dD wI r3 fun s4 r4 => dD (.sl w7) r4 fun s5 r5 => dD wI r5 fun s6 r6 => dD wI r6 fun s7 r7 => asNil r7 <| asNil σ <| l6r11 (fun z1 z2 z3 z4 => K (.exit 4) [(3, I z1), (11, .d (.sl w0) z2), (12, I z3), (13, I z4)] []) s1 s2 s3 s4 s5 s6 s7
theorem l6r11v : LoopV E wF (E.info 6).keep 0 Try.f6.ntmps 7000011 (body Try.f6 11) ([3, 11, 12, 13, 30, 31, 32], lsl6r11) := by
  intro vs σ K h0
  obtain ⟨s1, s2, s3, s4, r4, rfl, h8⟩ := cDDDD h0
  obtain ⟨s5, s6, s7, r7, rfl, h14⟩ := cDDD h8
  obtain ⟨rfl, rfl, h16⟩ := cM h14
  intro J hJ
  have hp : wH 6 Try.f6 (body Try.f6 11) nL := all_eq (by kernel_rfl) all_nil
  exact h16.of (fun s1 s2 s3 s4 s5 s6 s7 => J [(7000011, .undef), (3, I s1), (11, .d (.sl w0) s2), (12, I s3), (13, I s4), (30, .d (.sl w7) s5), (31, I s6), (32, I s7)] []) (fun s1 s2 s3 s4 s5 s6 s7 hb => loop_round2 nS (inlOK _) hp hJ (by kernel_rfl) hb)
abbrev Ll6r3 : wL := [(7000006, [3, 5, 11, 12, 13, 18, 19, 20], none, lsl6r6), (7000011, [3, 11, 12, 13, 30, 31, 32], none, lsl6r11)]
def lsl6r3 : LSp := fun vs σ K => dD wI vs fun s1 r1 => dD (.sl w0) r1 fun s2 r2 => dD wI r2 fun s3 r3 => dD wI r3 fun s4 r4 => asNil r4 <| asNil σ <| l6r3 (fun z1 => K (.exit 0) [(3, I z1)] []) s1 s2 s3 s4
theorem l6r3v : LoopV E wF (E.info 6).keep 0 Try.f6.ntmps 7000003 (body Try.f6 3) ([3, 11, 12, 13], lsl6r3) := by
  intro vs σ K h0
  obtain ⟨s1, s2, s3, s4, r4, rfl, h8⟩ := cDDDD h0
  obtain ⟨rfl, rfl, h10⟩ := cM h8
  intro J hJ
  have hp : wH 6 Try.f6 (body Try.f6 3) Ll6r3 := all_eq (by kernel_rfl : subsOf (E.info 6).keep (body Try.f6 3) = [.loop (body Try.f6 6), .loop (body Try.f6 11)]) (all_cons (loopOK_of (mk := 7000006) (sl := [3, 5, 11, 12, 13, 18, 19, 20]) (ss := [([3, 5, 11, 12, 13, 18, 19, 20], lsl6r6)]) (by kernel_rfl) (by kernel_rfl) (all_cons l6r6v all_nil)) (all_cons (loopOK_of (mk := 7000011) (sl := [3, 11, 12, 13, 30, 31, 32]) (ss := [([3, 11, 12, 13, 30, 31, 32], lsl6r11)]) (by kernel_rfl) (by kernel_rfl) (all_cons l6r11v all_nil)) all_nil))
  exact h10.of (fun s1 s2 s3 s4 => J [(7000003, .undef), (3, I s1), (11, .d (.sl w0) s2), (12, I s3), (13, I s4)] []) (fun s1 s2 s3 s4 hb => loop_round2 nS (inlOK _) hp hJ (by kernel_rfl) hb)
abbrev L6 : wL := [(7000003, [3, 11, 12, 13], none, lsl6r3)]
def sp6 : Sp := fun args τ K => dD w1 args fun x1 r1 => asNil r1 <| asNil τ <| c6 x1 (fun z1 => K (I z1) [])
theorem h6 : ∀ args τ K, sp6 args τ K → ACall E 6 args τ K := by
  intro args τ K h0
  obtain ⟨x1, r1, rfl, h2⟩ := cD h0
  obtain ⟨rfl, rfl, h4⟩ := cM h2
  exact ACall.spec2 (fn := Try.f6) (c := codeOf Try.f6) (L := lofL L6) nS (by kernel_rfl) (by kernel_rfl) (inlOK _) (all_eq (by kernel_rfl : subsOf (E.info 6).keep (codeOf Try.f6) = [.loop (body Try.f6 3)]) (all_cons (loopOK_of (mk := 7000003) (sl := [3, 11, 12, 13]) (ss := [([3, 11, 12, 13], lsl6r3)]) (by kernel_rfl) (by kernel_rfl) (all_cons l6r3v all_nil)) all_nil)) (by kernel_rfl) h4.of
abbrev S5 : wS := [(6, none, sp6)]
theorem hS5 : SpecOK E (ofL S5) := specOK_cons h6 specOK_nil
def sp5 : Sp := fun args τ K => dD w1 args fun x1 r1 => asNil r1 <| asNil τ <| c5 x1 (fun z1 => K (B z1) [])
theorem h5 : ∀ args τ K, sp5 args τ K → ACall E 5 args τ K := by
  intro args τ K h0
  obtain ⟨x1, r1, rfl, h2⟩ := cD h0
  obtain ⟨rfl, rfl, h4⟩ := cM h2
  exact ACall.spec2 (fn := Try.f5) (c := codeOf Try.f5) (L := lofL nL) hS5 (by kernel_rfl) (by kernel_rfl) (inlOK _) (all_eq (by kernel_rfl) all_nil) (by kernel_rfl) h4.of
abbrev Sl30r7v2 : wS := [(34, none, sp34)]
theorem hSl30r7v2 : SpecOK E (ofL Sl30r7v2) := specOK_cons h34 specOK_nil
def lsl30r7v2 : LSp := fun vs σ K => dP (.ptr 0 0 []) vs fun r1 => dP (.vec 2) r1 fun r2 => dP (.ptr 4 0 []) r2 fun r3 => dP (.vec 5) r3 fun r4 => dP (.ptr 6 0 []) r4 fun r5 => dD (.sl w5) r5 fun s1 r6 => dD wI r6 fun s2 r7 => dD wI r7 fun s3 r8 => dP (.vec 3) r8 fun r9 => dD wI r9 fun s4 r10 => dD wI r10 fun s5 r11 => asNil r11 <| asCons σ fun a12 r12 => asOne w4 a12 fun a13 => asAgL a13 fun l14 => dD w1 l14 fun s6 r15 => dD wI r15 fun s7 r16 => dP (.vec 1) r16 fun r17 => asNil r17 <| asCons r12 fun a18 r18 => asDeep .bool a18 fun s8 l19 => asNil l19 <| asCons r18 fun a20 r20 => asDeep .bool a20 fun s9 l21 => asCons l21 fun a22 r22 => asHole 3 a22 fun s10 => asNil r22 <| dR .bool false r20 fun s11 r23 => dO w2 w2 r23 fun s12 r24 => dR .bool false r24 fun s13 r26 => dO w5 w5 r26 fun s14 r27 => asNil r27 <| l30r7v2 (fun z1 z2 z3 z4 z5 z6 z7 z8 z9 => K (.exit 2) [(0, .ptr 0 0 []), (2, .vec 2), (7, .ptr 3 0 []), (8, .vec 4), (32, .d (.sl w5) z1), (33, I z2), (34, I z3)] [.one w4 (.agg [.d w1 z4, I z5, .vec 1]), .deep .bool z6 [], .deep .bool z7 [], .one w2 (.d w2 z8), .row .bool z9 false]) s1 s2 s3 s4 s5 s6 s7 s8 s9 s10 s11 s12 s13 s14
theorem l30r7v2v : LoopV E wF (E.info 30).keep 3 Try.f30.ntmps 31000007 (body Try.f30 7) ([0, 2, 7, 8, 10, 32, 33, 34, 42, 43, 44], lsl30r7v2) := by
  intro vs σ K h0
  obtain ⟨r4, rfl, h8⟩ := cPPPP h0
  obtain ⟨s1, s2, s3, r8, rfl, h16⟩ := cPDDD h8
  obtain ⟨s4, s5, r11, rfl, h22⟩ := cPDD h16
  obtain ⟨rfl, h23⟩ := cN h22
  obtain ⟨a12, r12, rfl, h24⟩ := asCons_inv h23
  obtain ⟨a13, rfl, h25⟩ := asOne_inv h24
  obtain ⟨l14, rfl, h26⟩ := asAgL_inv h25
  obtain ⟨s6, s7, r17, rfl, h32⟩ := cDDP h26
  obtain ⟨rfl, h33⟩ := cN h32
  obtain ⟨a18, r18, rfl, h34⟩ := asCons_inv h33
  obtain ⟨s8, l19, rfl, h35⟩ := asDeep_inv h34
  obtain ⟨rfl, h36⟩ := cN h35
  obtain ⟨a20, r20, rfl, h37⟩ := asCons_inv h36
  obtain ⟨s9, l21, rfl, h38⟩ := asDeep_inv h37
  obtain ⟨a22, r22, rfl, h39⟩ := asCons_inv h38
  obtain ⟨s10, rfl, h40⟩ := asHole_inv h39
  obtain ⟨rfl, h41⟩ := cN h40
  obtain ⟨s11, r23, rfl, h43⟩ := cR h41
  obtain ⟨s12, r24, rfl, h46⟩ := oD h43
  obtain ⟨s13, r26, rfl, h48⟩ := cR h46
  obtain ⟨s14, r27, rfl, h51⟩ := oD h48
  obtain ⟨rfl, h52⟩ := cN h51
  intro J hJ
  have hp : ∀ c' ∈ subsOf (E.info 30).keep (body Try.f30 7), SubOK E wF (E.info 30).keep 3 Try.f30.ntmps (lofL nL) c' := all_eq (by kernel_rfl) all_nil
  exact h52.of (fun s1 s2 s3 s4 s5 s6 s7 s8 s9 s10 s11 s12 s13 s14 => J [(31000007, .undef), (0, .ptr 0 0 []), (2, .vec 2), (7, .ptr 4 0 []), (8, .vec 5), (10, .ptr 6 0 []), (32, .d (.sl w5) s1), (33, I s2), (34, I s3), (42, .vec 3), (43, I s4), (44, I s5)] [.one w4 (.agg [.d w1 s6, I s7, .vec 1]), .deep .bool s8 [], .deep .bool s9 [(s10, 3)], .row .bool s11 false, .one w2 (.d w2 s12), .row .bool s13 false, .one w5 (.d w5 s14)]) (fun s1 s2 s3 s4 s5 s6 s7 s8 s9 s10 s11 s12 s13 s14 hb => loop_round2 hSl30r7v2 (inlOK _) hp hJ (by kernel_rfl) hb)
abbrev Ll30r4v2 : wL := [(31000007, [0, 2, 7, 8, 10, 32, 33, 34, 42, 43, 44], none, lsl30r7v2)]
def lsl30r4v2 : LSp := fun vs σ K => dP (.ptr 0 0 []) vs fun r1 => dP (.vec 2) r1 fun r2 => dP (.ptr 3 0 []) r2 fun r3 => dP (.vec 4) r3 fun r4 => dD (.sl w5) r4 fun s1 r5 => dD wI r5 fun s2 r6 => dD wI r6 fun s3 r7 => asNil r7 <| asCons σ fun a8 r8 => asOne w4 a8 fun a9 => asAgL a9 fun l10 => dD w1 l10 fun s4 r11 => dD wI r11 fun s5 r12 => dP (.vec 1) r12 fun r13 => asNil r13 <| asCons r8 fun a14 r14 => asDeep .bool a14 fun s6 l15 => asNil l15 <| asCons r14 fun a16 r16 => asDeep .bool a16 fun s7 l17 => asNil l17 <| dO w2 w2 r16 fun s8 r18 => dR .bool false r18 fun s9 r20 => asNil r20 <| l30r4v2 (fun z1 z2 z3 z4 z5 z6 => K (.exit 0) [(7, .ptr 3 0 []), (8, .vec 4)] [.one w4 (.agg [.d w1 z1, I z2, .vec 1]), .deep .bool z3 [], .deep .bool z4 [], .one w2 (.d w2 z5), .row .bool z6 false]) s1 s2 s3 s4 s5 s6 s7 s8 s9
theorem l30r4v2v : LoopV E wF (E.info 30).keep 3 Try.f30.ntmps 31000004 (body Try.f30 4) ([0, 2, 7, 8, 32, 33, 34], lsl30r4v2) := by
  intro vs σ K h0
  obtain ⟨r4, rfl, h8⟩ := cPPPP h0
  obtain ⟨s1, s2, s3, r7, rfl, h14⟩ := cDDD h8
  obtain ⟨rfl, h15⟩ := cN h14
  obtain ⟨a8, r8, rfl, h16⟩ := asCons_inv h15
  obtain ⟨a9, rfl, h17⟩ := asOne_inv h16
  obtain ⟨l10, rfl, h18⟩ := asAgL_inv h17
  obtain ⟨s4, s5, r13, rfl, h24⟩ := cDDP h18
  obtain ⟨rfl, h25⟩ := cN h24
  obtain ⟨a14, r14, rfl, h26⟩ := asCons_inv h25
  obtain ⟨s6, l15, rfl, h27⟩ := asDeep_inv h26
  obtain ⟨rfl, h28⟩ := cN h27
  obtain ⟨a16, r16, rfl, h29⟩ := asCons_inv h28
  obtain ⟨s7, l17, rfl, h30⟩ := asDeep_inv h29
  obtain ⟨rfl, h31⟩ := cN h30
  obtain ⟨s8, r18, rfl, h34⟩ := oD h31
  obtain ⟨s9, r20, rfl, h36⟩ := cR h34
  obtain ⟨rfl, h37⟩ := cN h36
  intro J hJ
  have hp : ∀ c' ∈ subsOf (E.info 30).keep (body Try.f30 4), SubOK E wF (E.info 30).keep 3 Try.f30.ntmps (lofL Ll30r4v2) c' := all_eq (by kernel_rfl : subsOf (E.info 30).keep (body Try.f30 4) = [.loop (body Try.f30 7)]) (all_cons (loopOK_of (mk := 31000007) (sl := [0, 2, 7, 8, 10, 32, 33, 34, 42, 43, 44]) (ss := [([0, 2, 7, 8, 10, 32, 33, 34, 42, 43, 44], lsl30r7v2)]) (by kernel_rfl) (by kernel_rfl) (all_cons l30r7v2v all_nil)) all_nil)
  exact h37.of (fun s1 s2 s3 s4 s5 s6 s7 s8 s9 => J [(31000004, .undef), (0, .ptr 0 0 []), (2, .vec 2), (7, .ptr 3 0 []), (8, .vec 4), (32, .d (.sl w5) s1), (33, I s2), (34, I s3)] [.one w4 (.agg [.d w1 s4, I s5, .vec 1]), .deep .bool s6 [], .deep .bool s7 [], .one w2 (.d w2 s8), .row .bool s9 false]) (fun s1 s2 s3 s4 s5 s6 s7 s8 s9 hb => loop_round2 nS (inlOK _) hp hJ (by kernel_rfl) hb)
def lsl30r19v2 : LSp := fun vs σ K => dP (.vec 3) vs fun r1 => dD (.sl w5) r1 fun s1 r2 => dD wI r2 fun s2 r3 => dD wI r3 fun s3 r4 => dD (.sl wI) r4 fun s4 r5 => dD wI r5 fun s5 r6 => dD wI r6 fun s6 r7 => asNil r7 <| asCons σ fun a8 r8 => asOne w4 a8 fun a9 => asAgL a9 fun l10 => dD w1 l10 fun s7 r11 => dD wI r11 fun s8 r12 => dP (.vec 1) r12 fun r13 => asNil r13 <| asCons r8 fun a14 r14 => asDeep .bool a14 fun s9 l15 => asNil l15 <| asCons r14 fun a16 r16 => asDeep .bool a16 fun s10 l17 => asNil l17 <| dR .bool false r16 fun s11 r18 => asNil r18 <| l30r19v2 (fun z1 z2 z3 z4 z5 z6 z7 z8 => K (.exit 6) [(8, .vec 3), (83, .d (.sl w5) z1), (84, I z2), (85, I z3)] [.one w4 (.agg [.d w1 z4, I z5, .vec 1]), .deep .bool z6 [], .deep .bool z7 [], .row .bool z8 false]) s1 s2 s3 s4 s5 s6 s7 s8 s9 s10 s11
theorem l30r19v2v : LoopV E wF (E.info 30).keep 3 Try.f30.ntmps 31000019 (body Try.f30 19) ([8, 83, 84, 85, 90, 91, 92], lsl30r19v2) := by
  intro vs σ K h0
  obtain ⟨s1, s2, s3, r4, rfl, h8⟩ := cPDDD h0
  obtain ⟨s4, s5, s6, r7, rfl, h14⟩ := cDDD h8
  obtain ⟨rfl, h15⟩ := cN h14
  obtain ⟨a8, r8, rfl, h16⟩ := asCons_inv h15
  obtain ⟨a9, rfl, h17⟩ := asOne_inv h16
  obtain ⟨l10, rfl, h18⟩ := asAgL_inv h17
  obtain ⟨s7, s8, r13, rfl, h24⟩ := cDDP h18
  obtain ⟨rfl, h25⟩ := cN h24
  obtain ⟨a14, r14, rfl, h26⟩ := asCons_inv h25
  obtain ⟨s9, l15, rfl, h27⟩ := asDeep_inv h26
  obtain ⟨rfl, h28⟩ := cN h27
  obtain ⟨a16, r16, rfl, h29⟩ := asCons_inv h28
  obtain ⟨s10, l17, rfl, h30⟩ := asDeep_inv h29
  obtain ⟨rfl, h31⟩ := cN h30
  obtain ⟨s11, r18, rfl, h33⟩ := cR h31
  obtain ⟨rfl, h34⟩ := cN h33
  intro J hJ
  have hp : ∀ c' ∈ subsOf (E.info 30).keep (body Try.f30 19), SubOK E wF (E.info 30).keep 3 Try.f30.ntmps (lofL nL) c' := all_eq (by kernel_rfl) all_nil
  exact h34.of (fun s1 s2 s3 s4 s5 s6 s7 s8 s9 s10 s11 => J [(31000019, .undef), (8, .vec 3), (83, .d (.sl w5) s1), (84, I s2), (85, I s3), (90, .d (.sl wI) s4), (91, I s5), (92, I s6)] [.one w4 (.agg [.d w1 s7, I s8, .vec 1]), .deep .bool s9 [], .deep .bool s10 [], .row .bool s11 false]) (fun s1 s2 s3 s4 s5 s6 s7 s8 s9 s10 s11 hb => loop_round2 nS (inlOK _) hp hJ (by kernel_rfl) hb)
abbrev Ll30r16v2 : wL := [(31000019, [8, 83, 84, 85, 90, 91, 92], none, lsl30r19v2)]
def lsl30r16v2 : LSp := fun vs σ K => dP (.vec 3) vs fun r1 => dD (.sl w5) r1 fun s1 r2 => dD wI r2 fun s2 r3 => dD wI r3 fun s3 r4 => asNil r4 <| asCons σ fun a5 r5 => asOne w4 a5 fun a6 => asAgL a6 fun l7 => dD w1 l7 fun s4 r8 => dD wI r8 fun s5 r9 => dP (.vec 1) r9 fun r10 => asNil r10 <| asCons r5 fun a11 r11 => asDeep .bool a11 fun s6 l12 => asNil l12 <| asCons r11 fun a13 r13 => asDeep .bool a13 fun s7 l14 => asNil l14 <| dR .bool false r13 fun s8 r15 => asNil r15 <| l30r16v2 (fun z1 z2 z3 z4 z5 => K (.exit 4) [(8, .vec 3)] [.one w4 (.agg [.d w1 z1, I z2, .vec 1]), .deep .bool z3 [], .deep .bool z4 [], .row .bool z5 false]) s1 s2 s3 s4 s5 s6 s7 s8
theorem l30r16v2v : LoopV E wF (E.info 30).keep 3 Try.f30.ntmps 31000016 (body Try.f30 16) ([8, 83, 84, 85], lsl30r16v2) := by
  intro vs σ K h0
  obtain ⟨s1, s2, s3, r4, rfl, h8⟩ := cPDDD h0
  obtain ⟨rfl, h9⟩ := cN h8
  obtain ⟨a5, r5, rfl, h10⟩ := asCons_inv h9
  obtain ⟨a6, rfl, h11⟩ := asOne_inv h10
  obtain ⟨l7, rfl, h12⟩ := asAgL_inv h11
  obtain ⟨s4, s5, r10, rfl, h18⟩ := cDDP h12
  obtain ⟨rfl, h19⟩ := cN h18
  obtain ⟨a11, r11, rfl, h20⟩ := asCons_inv h19
  obtain ⟨s6, l12, rfl, h21⟩ := asDeep_inv h20
  obtain ⟨rfl, h22⟩ := cN h21
  obtain ⟨a13, r13, rfl, h23⟩ := asCons_inv h22
  obtain ⟨s7, l14, rfl, h24⟩ := asDeep_inv h23
  obtain ⟨rfl, h25⟩ := cN h24
  obtain ⟨s8, r15, rfl, h27⟩ := cR h25
  obtain ⟨rfl, h28⟩ := cN h27
  intro J hJ
  have hp : ∀ c' ∈ subsOf (E.info 30).keep (body Try.f30 16), SubOK E wF (E.info 30).keep 3 Try.f30.ntmps (lofL Ll30r16v2) c' := all_eq (by kernel_rfl : subsOf (E.info 30).keep (body Try.f30 16) = [.loop (body Try.f30 19)]) (all_cons (loopOK_of (mk := 31000019) (sl := [8, 83, 84, 85, 90, 91, 92]) (ss := [([8, 83, 84, 85, 90, 91, 92], lsl30r19v2)]) (by kernel_rfl) (by kernel_rfl) (all_cons l30r19v2v all_nil)) all_nil)
  exact h28.of (fun s1 s2 s3 s4 s5 s6 s7 s8 => J [(31000016, .undef), (8, .vec 3), (83, .d (.sl w5) s1), (84, I s2), (85, I s3)] [.one w4 (.agg [.d w1 s4, I s5, .vec 1]), .deep .bool s6 [], .deep .bool s7 [], .row .bool s8 false]) (fun s1 s2 s3 s4 s5 s6 s7 s8 hb => loop_round2 nS (inlOK _) hp hJ (by kernel_rfl) hb)
abbrev L30v2 : wL := [(31000004, [0, 2, 7, 8, 32, 33, 34], none, lsl30r4v2), (31000016, [8, 83, 84, 85], none, lsl30r16v2)]
def sp30v2 : Sp := fun args τ K => dP (.ptr 0 0 []) args fun r1 => dD wI r1 fun x1 r2 => dP (.vec 2) r2 fun r3 => asNil r3 <| asCons τ fun a4 r4 => asOne w4 a4 fun a5 => asAgL a5 fun l6 => dD w1 l6 fun x2 r7 => dD wI r7 fun x3 r8 => dP (.vec 1) r8 fun r9 => asNil r9 <| asCons r4 fun a10 r10 => asDeep .bool a10 fun x4 l11 => asNil l11 <| asCons r10 fun a12 r12 => asDeep .bool a12 fun x5 l13 => asNil l13 <| asNil r12 <| c30v2 x1 x2 x3 x4 x5 (fun z1 z2 z3 z4 z5 => K (.vec 3) [.one w4 (.agg [.d w1 z1, I z2, .vec 1]), .deep .bool z3 [], .deep .bool z4 [], .row .bool z5 false])
theorem h30v2 : ∀ args τ K, sp30v2 args τ K → ACall E 30 args τ K := by
  intro args τ K h0
  obtain ⟨x1, r3, rfl, h6⟩ := cPDP h0
  obtain ⟨rfl, h7⟩ := cN h6
  obtain ⟨a4, r4, rfl, h8⟩ := asCons_inv h7
  obtain ⟨a5, rfl, h9⟩ := asOne_inv h8
  obtain ⟨l6, rfl, h10⟩ := asAgL_inv h9
  obtain ⟨x2, x3, r9, rfl, h16⟩ := cDDP h10
  obtain ⟨rfl, h17⟩ := cN h16
  obtain ⟨a10, r10, rfl, h18⟩ := asCons_inv h17
  obtain ⟨x4, l11, rfl, h19⟩ := asDeep_inv h18
  obtain ⟨rfl, h20⟩ := cN h19
  obtain ⟨a12, r12, rfl, h21⟩ := asCons_inv h20
  obtain ⟨x5, l13, rfl, h22⟩ := asDeep_inv h21
  obtain ⟨rfl, rfl, h24⟩ := cM h22
  exact ACall.spec2 (fn := Try.f30) (c := codeOf Try.f30) (L := lofL L30v2) nS (by kernel_rfl) (by kernel_rfl) (inlOK _) (all_eq (by kernel_rfl : subsOf (E.info 30).keep (codeOf Try.f30) = [.loop (body Try.f30 4), .loop (body Try.f30 16)]) (all_cons (loopOK_of (mk := 31000004) (sl := [0, 2, 7, 8, 32, 33, 34]) (ss := [([0, 2, 7, 8, 32, 33, 34], lsl30r4v2)]) (by kernel_rfl) (by kernel_rfl) (all_cons l30r4v2v all_nil)) (all_cons (loopOK_of (mk := 31000016) (sl := [8, 83, 84, 85]) (ss := [([8, 83, 84, 85], lsl30r16v2)]) (by kernel_rfl) (by kernel_rfl) (all_cons l30r16v2v all_nil)) all_nil))) (by kernel_rfl) h24.of
def lsl18r12v3 : LSp := fun vs σ K => dD (.opq .func) vs fun s1 r1 => dP (.ptr 2 0 []) r1 fun r2 => dP (.vec 3) r2 fun r3 => dD wI r3 fun s2 r4 => dD (.sl wI) r4 fun s3 r5 => dD wI r5 fun s4 r6 => dD wI r6 fun s5 r7 => asNil r7 <| asCons σ fun a8 r8 => asOne w4 a8 fun a9 => asAgL a9 fun l10 => dD w1 l10 fun s6 r11 => dD wI r11 fun s7 r12 => dP (.vec 1) r12 fun r13 => asNil r13 <| asCons r8 fun a14 r14 => asDeep .bool a14 fun s8 l15 => asNil l15 <| dO w0 w0 r14 fun s9 r16 => dR .bool false r16 fun s10 r18 => asNil r18 <| l18r12v3 (fun z1 z2 z3 z4 z5 z6 z7 => K (.exit 2) [(2, .d (.opq .func) z1), (7, .ptr 2 0 []), (8, .vec 3), (9, I z2)] [.one w4 (.agg [.d w1 z3, I z4, .vec 1]), .deep .bool z5 [], .one w0 (.d w0 z6), .row .bool z7 false]) s1 s2 s3 s4 s5 s6 s7 s8 s9 s10
theorem l18r12v3v : LoopV E wF (E.info 18).keep 2 Try.f18.ntmps 19000012 (body Try.f18 12) ([2, 7, 8, 9, 54, 55, 56], lsl18r12v3) := by
  intro vs σ K h0
  obtain ⟨s1, s2, r4, rfl, h8⟩ := cDPPD h0
  obtain ⟨s3, s4, s5, r7, rfl, h14⟩ := cDDD h8
  obtain ⟨rfl, h15⟩ := cN h14
  obtain ⟨a8, r8, rfl, h16⟩ := asCons_inv h15
  obtain ⟨a9, rfl, h17⟩ := asOne_inv h16
  obtain ⟨l10, rfl, h18⟩ := asAgL_inv h17
  obtain ⟨s6, s7, r13, rfl, h24⟩ := cDDP h18
  obtain ⟨rfl, h25⟩ := cN h24
  obtain ⟨a14, r14, rfl, h26⟩ := asCons_inv h25
  obtain ⟨s8, l15, rfl, h27⟩ := asDeep_inv h26
  obtain ⟨rfl, h28⟩ := cN h27
  obtain ⟨s9, r16, rfl, h31⟩ := oD h28
  obtain ⟨s10, r18, rfl, h33⟩ := cR h31
  obtain ⟨rfl, h34⟩ := cN h33
  intro J hJ
  have hp : ∀ c' ∈ subsOf (E.info 18).keep (body Try.f18 12), SubOK E wF (E.info 18).keep 2 Try.f18.ntmps (lofL nL) c' := all_eq (by kernel_rfl) all_nil
  exact h34.of (fun s1 s2 s3 s4 s5 s6 s7 s8 s9 s10 => J [(19000012, .undef), (2, .d (.opq .func) s1), (7, .ptr 2 0 []), (8, .vec 3), (9, I s2), (54, .d (.sl wI) s3), (55, I s4), (56, I s5)] [.one w4 (.agg [.d w1 s6, I s7, .vec 1]), .deep .bool s8 [], .one w0 (.d w0 s9), .row .bool s10 false]) (fun s1 s2 s3 s4 s5 s6 s7 s8 s9 s10 hb => loop_round2 nS (inlOK _) hp hJ (by kernel_rfl) hb)
abbrev Ll18r5v3 : wL := [(19000012, [2, 7, 8, 9, 54, 55, 56], none, lsl18r12v3)]
def lsl18r5v3 : LSp := fun vs σ K => dD (.opq .func) vs fun s1 r1 => dP (.ptr 2 0 []) r1 fun r2 => dP (.vec 3) r2 fun r3 => dD wI r3 fun s2 r4 => asNil r4 <| asCons σ fun a5 r5 => asOne w4 a5 fun a6 => asAgL a6 fun l7 => dD w1 l7 fun s3 r8 => dD wI r8 fun s4 r9 => dP (.vec 1) r9 fun r10 => asNil r10 <| asCons r5 fun a11 r11 => asDeep .bool a11 fun s5 l12 => asNil l12 <| dO w0 w0 r11 fun s6 r13 => dR .bool false r13 fun s7 r15 => asNil r15 <| l18r5v3 (fun z1 z2 z3 z4 => K .ret [(6, .vec 2)] [.one w4 (.agg [.d w1 z1, I z2, .vec 1]), .deep .bool z3 [], .row .bool z4 false]) s1 s2 s3 s4 s5 s6 s7
theorem l18r5v3v : LoopV E wF (E.info 18).keep 2 Try.f18.ntmps 19000005 (body Try.f18 5) ([2, 7, 8, 9], lsl18r5v3) := by
  intro vs σ K h0
  obtain ⟨s1, s2, r4, rfl, h8⟩ := cDPPD h0
  obtain ⟨rfl, h9⟩ := cN h8
  obtain ⟨a5, r5, rfl, h10⟩ := asCons_inv h9
  obtain ⟨a6, rfl, h11⟩ := asOne_inv h10
  obtain ⟨l7, rfl, h12⟩ := asAgL_inv h11
  obtain ⟨s3, s4, r10, rfl, h18⟩ := cDDP h12
  obtain ⟨rfl, h19⟩ := cN h18
  obtain ⟨a11, r11, rfl, h20⟩ := asCons_inv h19
  obtain ⟨s5, l12, rfl, h21⟩ := asDeep_inv h20
  obtain ⟨rfl, h22⟩ := cN h21
  obtain ⟨s6, r13, rfl, h25⟩ := oD h22
  obtain ⟨s7, r15, rfl, h27⟩ := cR h25
  obtain ⟨rfl, h28⟩ := cN h27
  intro J hJ
  have hp : ∀ c' ∈ subsOf (E.info 18).keep (body Try.f18 5), SubOK E wF (E.info 18).keep 2 Try.f18.ntmps (lofL Ll18r5v3) c' := all_eq (by kernel_rfl : subsOf (E.info 18).keep (body Try.f18 5) = [.loop (body Try.f18 12)]) (all_cons (loopOK_of (mk := 19000012) (sl := [2, 7, 8, 9, 54, 55, 56]) (ss := [([2, 7, 8, 9, 54, 55, 56], lsl18r12v3)]) (by kernel_rfl) (by kernel_rfl) (all_cons l18r12v3v all_nil)) all_nil)
  exact h28.of (fun s1 s2 s3 s4 s5 s6 s7 => J [(19000005, .undef), (2, .d (.opq .func) s1), (7, .ptr 2 0 []), (8, .vec 3), (9, I s2)] [.one w4 (.agg [.d w1 s3, I s4, .vec 1]), .deep .bool s5 [], .one w0 (.d w0 s6), .row .bool s7 false]) (fun s1 s2 s3 s4 s5 s6 s7 hb => loop_round2 nS (inlOK _) hp hJ (by kernel_rfl) hb)
abbrev S18v3 : wS := [(37, none, sp37)]
theorem hS18v3 : SpecOK E (ofL S18v3) := specOK_cons h37 specOK_nil
abbrev L18v3 : wL := [(19000005, [2, 7, 8, 9], none, lsl18r5v3)]
def sp18v3 : Sp := fun args τ K => dP (.ptr 0 0 []) args fun r1 => dD wI r1 fun x1 r2 => dD (.opq .func) r2 fun x2 r3 => asNil r3 <| asCons τ fun a4 r4 => asOne w4 a4 fun a5 => asAgL a5 fun l6 => dD w1 l6 fun x3 r7 => dD wI r7 fun x4 r8 => dP (.vec 1) r8 fun r9 => asNil r9 <| asCons r4 fun a10 r10 => asDeep .bool a10 fun x5 l11 => asNil l11 <| asNil r10 <| c18v3 x1 x2 x3 x4 x5 (fun z1 z2 z3 z4 => K (.vec 2) [.one w4 (.agg [.d w1 z1, I z2, .vec 1]), .deep .bool z3 [], .row .bool z4 false])
theorem h18v3 : ∀ args τ K, sp18v3 args τ K → ACall E 18 args τ K := by
  intro args τ K h0
  obtain ⟨x1, x2, r3, rfl, h6⟩ := cPDD h0
  obtain ⟨rfl, h7⟩ := cN h6
  obtain ⟨a4, r4, rfl, h8⟩ := asCons_inv h7
  obtain ⟨a5, rfl, h9⟩ := asOne_inv h8
  obtain ⟨l6, rfl, h10⟩ := asAgL_inv h9
  obtain ⟨x3, x4, r9, rfl, h16⟩ := cDDP h10
  obtain ⟨rfl, h17⟩ := cN h16
  obtain ⟨a10, r10, rfl, h18⟩ := asCons_inv h17
  obtain ⟨x5, l11, rfl, h19⟩ := asDeep_inv h18
  obtain ⟨rfl, rfl, h21⟩ := cM h19
  exact ACall.spec2 (fn := Try.f18) (c := codeOf Try.f18) (L := lofL L18v3) hS18v3 (by kernel_rfl) (by kernel_rfl) (inlOK _) (all_eq (by kernel_rfl : subsOf (E.info 18).keep (codeOf Try.f18) = [.loop (body Try.f18 5)]) (all_cons (loopOK_of (mk := 19000005) (sl := [2, 7, 8, 9]) (ss := [([2, 7, 8, 9], lsl18r5v3)]) (by kernel_rfl) (by kernel_rfl) (all_cons l18r5v3v all_nil)) all_nil)) (by kernel_rfl) h21.of
abbrev Sl15r10v2 : wS := [(30, none, sp30v2), (18, none, sp18v3), (31, none, sp31)]
theorem hSl15r10v2 : SpecOK E (ofL Sl15r10v2) := specOK_cons h30v2 (specOK_cons h18v3 (specOK_cons h31 specOK_nil))
def lsl15r10v2 : LSp := fun vs σ K => dP (.ptr 0 0 []) vs fun r1 => dP (.ptr 1 0 []) r1 fun r2 => dP (.vec 3) r2 fun r3 => dD .bool r3 fun s1 r4 => dD wI r4 fun s2 r5 => asNil r5 <| dO w1 w1 σ fun s3 r6 => asCons r6 fun a8 r8 => asOne w4 a8 fun a9 => asAgL a9 fun l10 => dD w1 l10 fun s4 r11 => dD wI r11 fun s5 r12 => dP (.vec 2) r12 fun r13 => asNil r13 <| asCons r8 fun a14 r14 => asDeep .bool a14 fun s6 l15 => asNil l15 <| asCons r14 fun a16 r16 => asDeep .bool a16 fun s7 l17 => asNil l17 <| asNil r16 <| l15r10v2 (fun z1 z2 z3 z4 z5 z6 => K (.exit 2) [(1, .ptr 0 0 []), (6, .ptr 1 0 []), (7, .vec 3), (8, B z1)] [.one w1 (.d w1 z2), .one w4 (.agg [.d w1 z3, I z4, .vec 2]), .deep .bool z5 [], .deep .bool z6 []]) s1 s2 s3 s4 s5 s6 s7
theorem l15r10v2v : LoopV E wF (E.info 15).keep 0 Try.f15.ntmps 16000010 (body Try.f15 10) ([1, 6, 7, 8, 9], lsl15r10v2) := by
  intro vs σ K h0
  obtain ⟨s1, r4, rfl, h8⟩ := cPPPD h0
  obtain ⟨s2, r5, rfl, h10⟩ := cD h8
  obtain ⟨rfl, h11⟩ := cN h10
  obtain ⟨s3, r6, rfl, h14⟩ := oD h11
  obtain ⟨a8, r8, rfl, h15⟩ := asCons_inv h14
  obtain ⟨a9, rfl, h16⟩ := asOne_inv h15
  obtain ⟨l10, rfl, h17⟩ := asAgL_inv h16
  obtain ⟨s4, s5, r13, rfl, h23⟩ := cDDP h17
  obtain ⟨rfl, h24⟩ := cN h23
  obtain ⟨a14, r14, rfl, h25⟩ := asCons_inv h24
  obtain ⟨s6, l15, rfl, h26⟩ := asDeep_inv h25
  obtain ⟨rfl, h27⟩ := cN h26
  obtain ⟨a16, r16, rfl, h28⟩ := asCons_inv h27
  obtain ⟨s7, l17, rfl, h29⟩ := asDeep_inv h28
  obtain ⟨rfl, rfl, h31⟩ := cM h29
  intro J hJ
  have hp : wH 15 Try.f15 (body Try.f15 10) nL := all_eq (by kernel_rfl) all_nil
  exact h31.of (fun s1 s2 s3 s4 s5 s6 s7 => J [(16000010, .undef), (1, .ptr 0 0 []), (6, .ptr 1 0 []), (7, .vec 3), (8, B s1), (9, I s2)] [.one w1 (.d w1 s3), .one w4 (.agg [.d w1 s4, I s5, .vec 2]), .deep .bool s6 [], .deep .bool s7 []]) (fun s1 s2 s3 s4 s5 s6 s7 hb => loop_round2 hSl15r10v2 (inlOK _) hp hJ (by kernel_rfl) hb)
abbrev Ll15r7v2 : wL := [(16000010, [1, 6, 7, 8, 9], none, lsl15r10v2)]
def lsl15r7v2 : LSp := fun vs σ K => dP (.ptr 0 0 []) vs fun r1 => dP (.ptr 1 0 []) r1 fun r2 => dP (.vec 3) r2 fun r3 => dD .bool r3 fun s1 r4 => asNil r4 <| dO w1 w1 σ fun s2 r5 => asCons r5 fun a7 r7 => asOne w4 a7 fun a8 => asAgL a8 fun l9 => dD w1 l9 fun s3 r10 => dD wI r10 fun s4 r11 => dP (.vec 2) r11 fun r12 => asNil r12 <| asCons r7 fun a13 r13 => asDeep .bool a13 fun s5 l14 => asNil l14 <| asCons r13 fun a15 r15 => asDeep .bool a15 fun s6 l16 => asNil l16 <| asNil r15 <| l15r7v2 (fun z1 z2 z3 z4 => K (.exit 0) [(6, .ptr 0 0 []), (7, .vec 2)] [.one w4 (.agg [.d w1 z1, I z2, .vec 1]), .deep .bool z3 [], .deep .bool z4 []]) s1 s2 s3 s4 s5 s6
theorem l15r7v2v : LoopV E wF (E.info 15).keep 0 Try.f15.ntmps 16000007 (body Try.f15 7) ([1, 6, 7, 8], lsl15r7v2) := by
  intro vs σ K h0
  obtain ⟨s1, r4, rfl, h8⟩ := cPPPD h0
  obtain ⟨rfl, h9⟩ := cN h8
  obtain ⟨s2, r5, rfl, h12⟩ := oD h9
  obtain ⟨a7, r7, rfl, h13⟩ := asCons_inv h12
  obtain ⟨a8, rfl, h14⟩ := asOne_inv h13
  obtain ⟨l9, rfl, h15⟩ := asAgL_inv h14
  obtain ⟨s3, s4, r12, rfl, h21⟩ := cDDP h15
  obtain ⟨rfl, h22⟩ := cN h21
  obtain ⟨a13, r13, rfl, h23⟩ := asCons_inv h22
  obtain ⟨s5, l14, rfl, h24⟩ := asDeep_inv h23
  obtain ⟨rfl, h25⟩ := cN h24
  obtain ⟨a15, r15, rfl, h26⟩ := asCons_inv h25
  obtain ⟨s6, l16, rfl, h27⟩ := asDeep_inv h26
  obtain ⟨rfl, rfl, h29⟩ := cM h27
  intro J hJ
  have hp : wH 15 Try.f15 (body Try.f15 7) Ll15r7v2 := all_eq (by kernel_rfl : subsOf (E.info 15).keep (body Try.f15 7) = [.loop (body Try.f15 10)]) (all_cons (loopOK_of (mk := 16000010) (sl := [1, 6, 7, 8, 9]) (ss := [([1, 6, 7, 8, 9], lsl15r10v2)]) (by kernel_rfl) (by kernel_rfl) (all_cons l15r10v2v all_nil)) all_nil)
  exact h29.of (fun s1 s2 s3 s4 s5 s6 => J [(16000007, .undef), (1, .ptr 0 0 []), (6, .ptr 1 0 []), (7, .vec 3), (8, B s1)] [.one w1 (.d w1 s2), .one w4 (.agg [.d w1 s3, I s4, .vec 2]), .deep .bool s5 [], .deep .bool s6 []]) (fun s1 s2 s3 s4 s5 s6 hb => loop_round2 nS (inlOK _) hp hJ (by kernel_rfl) hb)
abbrev S15v2 : wS := [(28, none, sp28), (29, none, sp29)]
theorem hS15v2 : SpecOK E (ofL S15v2) := specOK_cons h28 (specOK_cons h29 specOK_nil)
abbrev L15v2 : wL := [(16000007, [1, 6, 7, 8], none, lsl15r7v2)]
def sp15v2 : Sp := fun args τ K => dD w1 args fun x1 r1 => asNil r1 <| asNil τ <| c15v2 x1 (fun z1 z2 z3 => K (.tup [.d (.opq .ptr) z1, .vec 0, I z2]) [.deep .bool z3 []]) (fun z1 z2 z3 z4 z5 => K (.tup [.ptr 0 0 [], .vec 2, I z1]) [.one w4 (.agg [.d w1 z2, I z3, .vec 1]), .deep .bool z4 [], .deep .bool z5 []])
theorem h15v2 : ∀ args τ K, sp15v2 args τ K → ACall E 15 args τ K := by
  intro args τ K h0
  obtain ⟨x1, r1, rfl, h2⟩ := cD h0
  obtain ⟨rfl, rfl, h4⟩ := cM h2
  exact ACall.spec2 (fn := Try.f15) (c := codeOf Try.f15) (L := lofL L15v2) hS15v2 (by kernel_rfl) (by kernel_rfl) (inlOK _) (all_eq (by kernel_rfl : subsOf (E.info 15).keep (codeOf Try.f15) = [.loop (body Try.f15 7)]) (all_cons (loopOK_of (mk := 16000007) (sl := [1, 6, 7, 8]) (ss := [([1, 6, 7, 8], lsl15r7v2)]) (by kernel_rfl) (by kernel_rfl) (all_cons l15r7v2v all_nil)) all_nil)) (by kernel_rfl) h4.of
def lsl7r6v3 : LSp := fun vs σ K => dD (.opq .ptr) vs fun s1 r1 => dP (.vec 0) r1 fun r2 => dP (.vec 1) r2 fun r3 => dP (.vec 2) r3 fun r4 => dD wI r4 fun s2 r5 => dD wI r5 fun s3 r6 => asNil r6 <| asCons σ fun a7 r7 => asDeep .bool a7 fun s4 l8 => asNil l8 <| asCons r7 fun a9 r9 => asDeep wI a9 fun s5 l10 => asNil l10 <| asCons r9 fun a11 r11 => asDeep wI a11 fun s6 l12 => asNil l12 <| asNil r11 <| l7r6v3 (fun z1 z2 => K (.exit 0) [(8, .vec 0), (9, .vec 1)] [.deep wI z1 [], .deep wI z2 []]) s1 s2 s3 s4 s5 s6
theorem l7r6v3v : LoopV E wF (E.info 7).keep 0 Try.f7.ntmps 8000006 (body Try.f7 6) ([5, 6, 8, 9, 22, 23], lsl7r6v3) := by
  intro vs σ K h0
  obtain ⟨s1, r4, rfl, h8⟩ := cDPPP h0
  obtain ⟨s2, s3, r6, rfl, h12⟩ := cDD h8
  obtain ⟨rfl, h13⟩ := cN h12
  obtain ⟨a7, r7, rfl, h14⟩ := asCons_inv h13
  obtain ⟨s4, l8, rfl, h15⟩ := asDeep_inv h14
  obtain ⟨rfl, h16⟩ := cN h15
  obtain ⟨a9, r9, rfl, h17⟩ := asCons_inv h16
  obtain ⟨s5, l10, rfl, h18⟩ := asDeep_inv h17
  obtain ⟨rfl, h19⟩ := cN h18
  obtain ⟨a11, r11, rfl, h20⟩ := asCons_inv h19
  obtain ⟨s6, l12, rfl, h21⟩ := asDeep_inv h20
  obtain ⟨rfl, rfl, h23⟩ := cM h21
  intro J hJ
  have hp : wH 7 Try.f7 (body Try.f7 6) nL := all_eq (by kernel_rfl) all_nil
  exact h23.of (fun s1 s2 s3 s4 s5 s6 => J [(8000006, .undef), (5, .d (.opq .ptr) s1), (6, .vec 0), (8, .vec 1), (9, .vec 2), (22, I s2), (23, I s3)] [.deep .bool s4 [], .deep wI s5 [], .deep wI s6 []]) (fun s1 s2 s3 s4 s5 s6 hb => loop_round2 nS (inlOK _) hp hJ (by kernel_rfl) hb)
abbrev Sl7r6v4 : wS := [(16, none, sp16)]
theorem hSl7r6v4 : SpecOK E (ofL Sl7r6v4) := specOK_cons h16 specOK_nil
def lsl7r6v4 : LSp := fun vs σ K => dP (.ptr 0 0 []) vs fun r1 => dP (.vec 2) r1 fun r2 => dP (.vec 3) r2 fun r3 => dP (.vec 4) r3 fun r4 => dD wI r4 fun s1 r5 => dD wI r5 fun s2 r6 => asNil r6 <| asCons σ fun a7 r7 => asOne w4 a7 fun a8 => asAgL a8 fun l9 => dD w1 l9 fun s3 r10 => dD wI r10 fun s4 r11 => dP (.vec 1) r11 fun r12 => asNil r12 <| asCons r7 fun a13 r13 => asDeep .bool a13 fun s5 l14 => asNil l14 <| asCons r13 fun a15 r15 => asDeep .bool a15 fun s6 l16 => asNil l16 <| asCons r15 fun a17 r17 => asDeep wI a17 fun s7 l18 => asNil l18 <| asCons r17 fun a19 r19 => asDeep wI a19 fun s8 l20 => asNil l20 <| asNil r19 <| l7r6v4 (fun z1 z2 => K (.exit 0) [(8, .vec 0), (9, .vec 1)] [.deep wI z1 [], .deep wI z2 []]) s1 s2 s3 s4 s5 s6 s7 s8
theorem l7r6v4v : LoopV E wF (E.info 7).keep 0 Try.f7.ntmps 8000006 (body Try.f7 6) ([5, 6, 8, 9, 22, 23], lsl7r6v4) := by
  intro vs σ K h0
  obtain ⟨r4, rfl, h8⟩ := cPPPP h0
  obtain ⟨s1, s2, r6, rfl, h12⟩ := cDD h8
  obtain ⟨rfl, h13⟩ := cN h12
  obtain ⟨a7, r7, rfl, h14⟩ := asCons_inv h13
  obtain ⟨a8, rfl, h15⟩ := asOne_inv h14
  obtain ⟨l9, rfl, h16⟩ := asAgL_inv h15
  obtain ⟨s3, s4, r12, rfl, h22⟩ := cDDP h16
  obtain ⟨rfl, h23⟩ := cN h22
  obtain ⟨a13, r13, rfl, h24⟩ := asCons_inv h23
  obtain ⟨s5, l14, rfl, h25⟩ := asDeep_inv h24
  obtain ⟨rfl, h26⟩ := cN h25
  obtain ⟨a15, r15, rfl, h27⟩ := asCons_inv h26
  obtain ⟨s6, l16, rfl, h28⟩ := asDeep_inv h27
  obtain ⟨rfl, h29⟩ := cN h28
  obtain ⟨a17, r17, rfl, h30⟩ := asCons_inv h29
  obtain ⟨s7, l18, rfl, h31⟩ := asDeep_inv h30
  obtain ⟨rfl, h32⟩ := cN h31
  obtain ⟨a19, r19, rfl, h33⟩ := asCons_inv h32
  obtain ⟨s8, l20, rfl, h34⟩ := asDeep_inv h33
  obtain ⟨rfl, rfl, h36⟩ := cM h34
  intro J hJ
  have hp : wH 7 Try.f7 (body Try.f7 6) nL := all_eq (by kernel_rfl) all_nil
  exact h36.of (fun s1 s2 s3 s4 s5 s6 s7 s8 => J [(8000006, .undef), (5, .ptr 0 0 []), (6, .vec 2), (8, .vec 3), (9, .vec 4), (22, I s1), (23, I s2)] [.one w4 (.agg [.d w1 s3, I s4, .vec 1]), .deep .bool s5 [], .deep .bool s6 [], .deep wI s7 [], .deep wI s8 []]) (fun s1 s2 s3 s4 s5 s6 s7 s8 hb => loop_round2 hSl7r6v4 (inlOK _) hp hJ (by kernel_rfl) hb)
abbrev S7v2 : wS := [(15, none, sp15v2)]
theorem hS7v2 : SpecOK E (ofL S7v2) := specOK_cons h15v2 specOK_nil
abbrev L7v2 : wL := [(8000006, [5, 6, 8, 9, 22, 23], some ([.d (.opq .ptr), .fix (.vec 0), .fix (.vec 1), .fix (.vec 2), .d wI, .d wI], [.deep .bool [], .deep wI [], .deep wI []]), lsl7r6v3), (8000006, [5, 6, 8, 9, 22, 23], some ([.fix (.ptr 0 0 []), .fix (.vec 2), .fix (.vec 3), .fix (.vec 4), .d wI, .d wI], [.one w4 (.agg [.d w1, .d wI, .fix (.vec 1)]), .deep .bool [], .deep .bool [], .deep wI [], .deep wI []]), lsl7r6v4)]
def sp7v2 : Sp := fun args τ K => dD w1 args fun x1 r1 => asNil r1 <| asNil τ <| c7v2 x1 (fun z1 z2 z3 => K (.tup [.vec 0, .vec 1, I z1]) [.deep wI z2 [], .deep wI z3 []])
theorem h7v2 : ∀ args τ K, sp7v2 args τ K → ACall E 7 args τ K := by
  intro args τ K h0
  obtain ⟨x1, r1, rfl, h2⟩ := cD h0
  obtain ⟨rfl, rfl, h4⟩ := cM h2
  exact ACall.spec2 (fn := Try.f7) (c := codeOf Try.f7) (L := lofL L7v2) hS7v2 (by kernel_rfl) (by kernel_rfl) (inlOK _) (all_eq (by kernel_rfl : subsOf (E.info 7).keep (codeOf Try.f7) = [.loop (body Try.f7 6)]) (all_cons (loopOK_of (mk := 8000006) (sl := [5, 6, 8, 9, 22, 23]) (ss := [([5, 6, 8, 9, 22, 23], lsl7r6v3), ([5, 6, 8, 9, 22, 23], lsl7r6v4)]) (by kernel_rfl) (by kernel_rfl) (all_cons l7r6v3v (all_cons l7r6v4v all_nil))) all_nil)) (by kernel_rfl) h4.of
def sp36 : Sp := fun args τ K => dD w7 args fun x1 r1 => dP (.ptr 0 0 []) r1 fun r2 => asNil r2 <| dO wI wI τ fun x2 r3 => asNil r3 <| c36 x1 x2 (fun z1 z2 => K (B z1) [.one wI (I z2)])
theorem h36 : ∀ args τ K, sp36 args τ K → ACall E 36 args τ K := by
  intro args τ K h0
  obtain ⟨x1, r2, rfl, h4⟩ := cDP h0
  obtain ⟨rfl, h5⟩ := cN h4
  obtain ⟨x2, r3, rfl, h8⟩ := oD h5
  obtain ⟨rfl, h9⟩ := cN h8
  exact ACall.spec2 (fn := Try.f36) (c := codeOf Try.f36) (L := lofL nL) nS (by kernel_rfl) (by kernel_rfl) (inlOK _) (all_eq (by kernel_rfl) all_nil) (by kernel_rfl) h9.of
abbrev Sl50r2 : wS := [(36, none, sp36)]
theorem hSl50r2 : SpecOK E (ofL Sl50r2) := specOK_cons h36 specOK_nil
def lsl50r2 : LSp := fun vs σ K => dD (.sl w7) vs fun s1 r1 => asCons r1 fun a2 r2 => asFn 36 a2 fun l3 l4 => asNil l3 <| dP (.ptr 0 0 []) l4 fun r5 => asNil r5 <| dD wI r2 fun s2 r6 => dD wI r6 fun s3 r7 => asNil r7 <| dO wI wI σ fun s4 r8 => asNil r8 <| l50r2 (fun z1 z2 => K .ret [(4, I z1)] [.one wI (I z2)]) (fun z1 => K (.exit 0) [(4, .undef)] [.one wI (I z1)]) s1 s2 s3 s4
theorem l50r2v : LoopV E wF (E.info 50).keep 1 Try.f50.ntmps 51000002 (body Try.f50 2) ([0, 1, 7, 8], lsl50r2) := by
  intro vs σ K h0
  obtain ⟨s1, r1, rfl, h2⟩ := cD h0
  obtain ⟨a2, r2, rfl, h3⟩ := asCons_inv h2
  obtain ⟨l3, l4, rfl, h4⟩ := asFn_inv h3
  obtain ⟨rfl, h5⟩ := cN h4
  obtain ⟨r5, rfl, h7⟩ := cP h5
  obtain ⟨rfl, h8⟩ := cN h7
  obtain ⟨s2, s3, r7, rfl, h12⟩ := cDD h8
  obtain ⟨rfl, h13⟩ := cN h12
  obtain ⟨s4, r8, rfl, h16⟩ := oD h13
  obtain ⟨rfl, h17⟩ := cN h16
  intro J hJ
  have hp : ∀ c' ∈ subsOf (E.info 50).keep (body Try.f50 2), SubOK E wF (E.info 50).keep 1 Try.f50.ntmps (lofL nL) c' := all_eq (by kernel_rfl) all_nil
  exact h17.of (fun s1 s2 s3 s4 => J [(51000002, .undef), (0, .d (.sl w7) s1), (1, .fn 36 [] [.ptr 0 0 []]), (7, I s2), (8, I s3)] [.one wI (I s4)]) (fun s1 s2 s3 s4 hb => loop_round2 hSl50r2 (inlOK _) hp hJ (by kernel_rfl) hb)
abbrev L50 : wL := [(51000002, [0, 1, 7, 8], none, lsl50r2)]
def sp50 : Sp := fun args τ K => dD (.sl w7) args fun x1 r1 => asCons r1 fun a2 r2 => asFn 36 a2 fun l3 l4 => asNil l3 <| dP (.ptr 0 0 []) l4 fun r5 => asNil r5 <| asNil r2 <| dO wI wI τ fun x2 r6 => asNil r6 <| c50 x1 x2 (fun z1 z2 => K (I z1) [.one wI (I z2)])
theorem h50 : ∀ args τ K, sp50 args τ K → ACall E 50 args τ K := by
  intro args τ K h0
  obtain ⟨x1, r1, rfl, h2⟩ := cD h0
  obtain ⟨a2, r2, rfl, h3⟩ := asCons_inv h2
  obtain ⟨l3, l4, rfl, h4⟩ := asFn_inv h3
  obtain ⟨rfl, h5⟩ := cN h4
  obtain ⟨r5, rfl, h7⟩ := cP h5
  obtain ⟨rfl, rfl, h9⟩ := cM h7
  obtain ⟨x2, r6, rfl, h12⟩ := oD h9
  obtain ⟨rfl, h13⟩ := cN h12
  exact ACall.spec2 (fn := Try.f50) (c := codeOf Try.f50) (L := lofL L50) nS (by kernel_rfl) (by kernel_rfl) (inlOK _) (all_eq (by kernel_rfl : subsOf (E.info 50).keep (codeOf Try.f50) = [.loop (body Try.f50 2)]) (all_cons (loopOK_of (mk := 51000002) (sl := [0, 1, 7, 8]) (ss := [([0, 1, 7, 8], lsl50r2)]) (by kernel_rfl) (by kernel_rfl) (all_cons l50r2v all_nil)) all_nil)) (by kernel_rfl) h13.of
abbrev S35 : wS := [(50, none, sp50)]
theorem hS35 : SpecOK E (ofL S35) := specOK_cons h50 specOK_nil
def sp35 : Sp := fun args τ K => dD (.sl w7) args fun x1 r1 => asCons r1 fun a2 r2 => asFn 36 a2 fun l3 l4 => asNil l3 <| dP (.ptr 0 0 []) l4 fun r5 => asNil r5 <| asNil r2 <| dO wI wI τ fun x2 r6 => asNil r6 <| c35 x1 x2 (fun z1 z2 => K (B z1) [.one wI (I z2)])
theorem h35 : ∀ args τ K, sp35 args τ K → ACall E 35 args τ K := by
  intro args τ K h0
  obtain ⟨x1, r1, rfl, h2⟩ := cD h0
  obtain ⟨a2, r2, rfl, h3⟩ := asCons_inv h2
  obtain ⟨l3, l4, rfl, h4⟩ := asFn_inv h3
  obtain ⟨rfl, h5⟩ := cN h4
  obtain ⟨r5, rfl, h7⟩ := cP h5
  obtain ⟨rfl, rfl, h9⟩ := cM h7
  obtain ⟨x2, r6, rfl, h12⟩ := oD h9
  obtain ⟨rfl, h13⟩ := cN h12
  exact ACall.spec2 (fn := Try.f35) (c := codeOf Try.f35) (L := lofL nL) hS35 (by kernel_rfl) (by kernel_rfl) (inlOK _) (all_eq (by kernel_rfl) all_nil) (by kernel_rfl) h13.of
abbrev S33 : wS := [(34, none, sp34), (35, none, sp35)]
theorem hS33 : SpecOK E (ofL S33) := specOK_cons h34 (specOK_cons h35 specOK_nil)
def sp33 : Sp := fun args τ K => dD w0 args fun x1 r1 => dP (.ptr 0 0 []) r1 fun r2 => asNil r2 <| dO wI wI τ fun x2 r3 => asNil r3 <| c33 x1 x2 (fun z1 z2 => K (B z1) [.one wI (I z2)])
theorem h33 : ∀ args τ K, sp33 args τ K → ACall E 33 args τ K := by
  intro args τ K h0
  obtain ⟨x1, r2, rfl, h4⟩ := cDP h0
  obtain ⟨rfl, h5⟩ := cN h4
  obtain ⟨x2, r3, rfl, h8⟩ := oD h5
  obtain ⟨rfl, h9⟩ := cN h8
  exact ACall.spec2 (fn := Try.f33) (c := codeOf Try.f33) (L := lofL nL) hS33 (by kernel_rfl) (by kernel_rfl) (inlOK _) (all_eq (by kernel_rfl) all_nil) (by kernel_rfl) h9.of
abbrev Sl48r2 : wS := [(33, none, sp33)]
theorem hSl48r2 : SpecOK E (ofL Sl48r2) := specOK_cons h33 specOK_nil
def lsl48r2 : LSp := fun vs σ K => dD (.sl w0) vs fun s1 r1 => asCons r1 fun a2 r2 => asFn 33 a2 fun l3 l4 => asNil l3 <| dP (.ptr 0 0 []) l4 fun r5 => asNil r5 <| dD wI r2 fun s2 r6 => dD wI r6 fun s3 r7 => asNil r7 <| dO wI wI σ fun s4 r8 => asNil r8 <| l48r2 (fun z1 z2 => K .ret [(4, I z1)] [.one wI (I z2)]) (fun z1 => K (.exit 0) [(4, .undef)] [.one wI (I z1)]) s1 s2 s3 s4
theorem l48r2v : LoopV E wF (E.info 48).keep 1 Try.f48.ntmps 49000002 (body Try.f48 2) ([0, 1, 7, 8], lsl48r2) := by
  intro vs σ K h0
  obtain ⟨s1, r1, rfl, h2⟩ := cD h0
  obtain ⟨a2, r2, rfl, h3⟩ := asCons_inv h2
  obtain ⟨l3, l4, rfl, h4⟩ := asFn_inv h3
  obtain ⟨rfl, h5⟩ := cN h4
  obtain ⟨r5, rfl, h7⟩ := cP h5
  obtain ⟨rfl, h8⟩ := cN h7
  obtain ⟨s2, s3, r7, rfl, h12⟩ := cDD h8
  obtain ⟨rfl, h13⟩ := cN h12
  obtain ⟨s4, r8, rfl, h16⟩ := oD h13
  obtain ⟨rfl, h17⟩ := cN h16
  intro J hJ
  have hp : ∀ c' ∈ subsOf (E.info 48).keep (body Try.f48 2), SubOK E wF (E.info 48).keep 1 Try.f48.ntmps (lofL nL) c' := all_eq (by kernel_rfl) all_nil
  exact h17.of (fun s1 s2 s3 s4 => J [(49000002, .undef), (0, .d (.sl w0) s1), (1, .fn 33 [] [.ptr 0 0 []]), (7, I s2), (8, I s3)] [.one wI (I s4)]) (fun s1 s2 s3 s4 hb => loop_round2 hSl48r2 (inlOK _) hp hJ (by kernel_rfl) hb)
abbrev L48 : wL := [(49000002, [0, 1, 7, 8], none, lsl48r2)]
def sp48 : Sp := fun args τ K => dD (.sl w0) args fun x1 r1 => asCons r1 fun a2 r2 => asFn 33 a2 fun l3 l4 => asNil l3 <| dP (.ptr 0 0 []) l4 fun r5 => asNil r5 <| asNil r2 <| dO wI wI τ fun x2 r6 => asNil r6 <| c48 x1 x2 (fun z1 z2 => K (I z1) [.one wI (I z2)])
theorem h48 : ∀ args τ K, sp48 args τ K → ACall E 48 args τ K := by
  intro args τ K h0
  obtain ⟨x1, r1, rfl, h2⟩ := cD h0
  obtain ⟨a2, r2, rfl, h3⟩ := asCons_inv h2
  obtain ⟨l3, l4, rfl, h4⟩ := asFn_inv h3
  obtain ⟨rfl, h5⟩ := cN h4
  obtain ⟨r5, rfl, h7⟩ := cP h5
  obtain ⟨rfl, rfl, h9⟩ := cM h7
  obtain ⟨x2, r6, rfl, h12⟩ := oD h9
  obtain ⟨rfl, h13⟩ := cN h12
  exact ACall.spec2 (fn := Try.f48) (c := codeOf Try.f48) (L := lofL L48) nS (by kernel_rfl) (by kernel_rfl) (inlOK _) (all_eq (by kernel_rfl : subsOf (E.info 48).keep (codeOf Try.f48) = [.loop (body Try.f48 2)]) (all_cons (loopOK_of (mk := 49000002) (sl := [0, 1, 7, 8]) (ss := [([0, 1, 7, 8], lsl48r2)]) (by kernel_rfl) (by kernel_rfl) (all_cons l48r2v all_nil)) all_nil)) (by kernel_rfl) h13.of
abbrev S32 : wS := [(48, none, sp48)]
theorem hS32 : SpecOK E (ofL S32) := specOK_cons h48 specOK_nil
def sp32 : Sp := fun args τ K => dD (.sl w0) args fun x1 r1 => asCons r1 fun a2 r2 => asFn 33 a2 fun l3 l4 => asNil l3 <| dP (.ptr 0 0 []) l4 fun r5 => asNil r5 <| asNil r2 <| dO wI wI τ fun x2 r6 => asNil r6 <| c32 x1 x2 (fun z1 z2 => K (B z1) [.one wI (I z2)])
theorem h32 : ∀ args τ K, sp32 args τ K → ACall E 32 args τ K := by
  intro args τ K h0
  obtain ⟨x1, r1, rfl, h2⟩ := cD h0
  obtain ⟨a2, r2, rfl, h3⟩ := asCons_inv h2
  obtain ⟨l3, l4, rfl, h4⟩ := asFn_inv h3
  obtain ⟨rfl, h5⟩ := cN h4
  obtain ⟨r5, rfl, h7⟩ := cP h5
  obtain ⟨rfl, rfl, h9⟩ := cM h7
  obtain ⟨x2, r6, rfl, h12⟩ := oD h9
  obtain ⟨rfl, h13⟩ := cN h12
  exact ACall.spec2 (fn := Try.f32) (c := codeOf Try.f32) (L := lofL nL) hS32 (by kernel_rfl) (by kernel_rfl) (inlOK _) (all_eq (by kernel_rfl) all_nil) (by kernel_rfl) h13.of
abbrev S17 : wS := [(32, none, sp32)]
theorem hS17 : SpecOK E (ofL S17) := specOK_cons h32 specOK_nil
def sp17 : Sp := fun args τ K => dD w1 args fun x1 r1 => dD wI r1 fun x2 r2 => asNil r2 <| asNil τ <| c17 x1 x2 (fun z1 => K (B z1) [])
theorem h17 : ∀ args τ K, sp17 args τ K → ACall E 17 args τ K := by
  intro args τ K h0
  obtain ⟨x1, x2, r2, rfl, h4⟩ := cDD h0
  obtain ⟨rfl, rfl, h6⟩ := cM h4
  exact ACall.spec2 (fn := Try.f17) (c := codeOf Try.f17) (L := lofL nL) hS17 (by kernel_rfl) (by kernel_rfl) (inlOK _) (all_eq (by kernel_rfl) all_nil) (by kernel_rfl) h6.of
def sp18v4 : Sp := fun args τ K => dD (.opq .ptr) args fun x1 r1 => dD wI r1 fun x2 r2 => asCons r2 fun a3 r3 => asFn 19 a3 fun l4 l5 => asNil l4 <| dP (.ptr 0 0 []) l5 fun r6 => dP (.ptr 1 0 []) r6 fun r7 => dP (.ptr 2 0 []) r7 fun r8 => asNil r8 <| asNil r3 <| dO .bool .bool τ fun x3 r9 => dO wI wI r9 fun x4 r11 => dO wI wI r11 fun x5 r13 => asNil r13 <| c18v4 x1 x2 x3 x4 x5
theorem h18v4 : ∀ args τ K, sp18v4 args τ K → ACall E 18 args τ K := by
  intro args τ K h0
  obtain ⟨x1, x2, r2, rfl, h4⟩ := cDD h0
  obtain ⟨a3, r3, rfl, h5⟩ := asCons_inv h4
  obtain ⟨l4, l5, rfl, h6⟩ := asFn_inv h5
  obtain ⟨rfl, h7⟩ := cN h6
  obtain ⟨r8, rfl, h13⟩ := cPPP h7
  obtain ⟨rfl, rfl, h15⟩ := cM h13
  obtain ⟨x3, r9, rfl, h18⟩ := oD h15
  obtain ⟨x4, r11, rfl, h21⟩ := oD h18
  obtain ⟨x5, r13, rfl, h24⟩ := oD h21
  obtain ⟨rfl, h25⟩ := cN h24
  exact ACall.spec2 (fn := Try.f18) (c := codeOf Try.f18) (L := lofL nL) nS (by kernel_rfl) (by kernel_rfl) (inlOK _) (all_eq (by kernel_rfl : subsOf (E.info 18).keep (codeOf Try.f18) = [.loop (body Try.f18 5)]) (all_cons (loopOK_of (mk := 19000005) (sl := [2, 7, 8, 9]) (ss := []) (by kernel_rfl) (by kernel_rfl) all_nil) all_nil)) (by kernel_rfl) h25.of
abbrev Sl8r10 : wS := [(18, none, sp18v4)]
theorem hSl8r10 : SpecOK E (ofL Sl8r10) := specOK_cons h18v4 specOK_nil
def lsl8r10 : LSp := fun vs σ K => dP (.ptr 0 0 []) vs fun r1 => dP (.ptr 1 0 []) r1 fun r2 => dD (.opq .ptr) r2 fun s1 r3 => dP (.ptr 2 0 []) r3 fun r4 => dD wI r4 fun s2 r5 => dD wI r5 fun s3 r6 => asNil r6 <| dO wI wI σ fun s4 r7 => dO wI wI r7 fun s5 r9 => dO .bool .bool r9 fun s6 r11 => asNil r11 <| l8r10 (fun z1 => K (.exit 1) [(11, .ptr 0 0 [])] [.one .bool (B z1)]) s1 s2 s3 s4 s5 s6
theorem l8r10v : LoopV E wF (E.info 8).keep 0 Try.f8.ntmps 9000010 (body Try.f8 10) ([4, 5, 8, 11, 40, 41], lsl8r10) := by
  intro vs σ K h0
  obtain ⟨s1, r4, rfl, h8⟩ := cPPDP h0
  obtain ⟨s2, s3, r6, rfl, h12⟩ := cDD h8
  obtain ⟨rfl, h13⟩ := cN h12
  obtain ⟨s4, r7, rfl, h16⟩ := oD h13
  obtain ⟨s5, r9, rfl, h19⟩ := oD h16
  obtain ⟨s6, r11, rfl, h22⟩ := oD h19
  obtain ⟨rfl, h23⟩ := cN h22
  intro J hJ
  have hp : wH 8 Try.f8 (body Try.f8 10) nL := all_eq (by kernel_rfl) all_nil
  exact h23.of (fun s1 s2 s3 s4 s5 s6 => J [(9000010, .undef), (4, .ptr 0 0 []), (5, .ptr 1 0 []), (8, .d (.opq .ptr) s1), (11, .ptr 2 0 []), (40, I s2), (41, I s3)] [.one wI (I s4), .one wI (I s5), .one .bool (B s6)]) (fun s1 s2 s3 s4 s5 s6 hb => loop_round2 hSl8r10 (inlOK _) hp hJ (by kernel_rfl) hb)
def sp19 : Sp := fun args τ K => dD wI args fun x1 r1 => dD (.sl .bool) r1 fun x2 r2 => dP (.ptr 0 0 []) r2 fun r3 => dP (.ptr 1 0 []) r3 fun r4 => dP (.ptr 2 0 []) r4 fun r5 => asNil r5 <| dO .bool .bool τ fun x3 r6 => dO wI wI r6 fun x4 r8 => dO wI wI r8 fun x5 r10 => asNil r10 <| c19 x1 x2 x3 x4 x5 (fun z1 z2 z3 => K (.tup []) [.one .bool (B z1), .one wI (I z2), .one wI (I z3)])
theorem h19 : ∀ args τ K, sp19 args τ K → ACall E 19 args τ K := by
  intro args τ K h0
  obtain ⟨x1, x2, r4, rfl, h8⟩ := cDDPP h0
  obtain ⟨r5, rfl, h10⟩ := cP h8
  obtain ⟨rfl, h11⟩ := cN h10
  obtain ⟨x3, r6, rfl, h14⟩ := oD h11
  obtain ⟨x4, r8, rfl, h17⟩ := oD h14
  obtain ⟨x5, r10, rfl, h20⟩ := oD h17
  obtain ⟨rfl, h21⟩ := cN h20
  exact ACall.spec2 (fn := Try.f19) (c := codeOf Try.f19) (L := lofL nL) nS (by kernel_rfl) (by kernel_rfl) (inlOK _) (all_eq (by kernel_rfl) all_nil) (by kernel_rfl) h21.of
def lsl18r12v4 : LSp := fun vs σ K => asCons vs fun a1 r1 => asFn 19 a1 fun l2 l3 => asNil l2 <| dP (.ptr 2 0 []) l3 fun r4 => dP (.ptr 3 0 []) r4 fun r5 => dP (.ptr 4 0 []) r5 fun r6 => asNil r6 <| dP (.ptr 5 0 []) r1 fun r7 => dP (.vec 6) r7 fun r8 => dD wI r8 fun s1 r9 => dD (.sl wI) r9 fun s2 r10 => dD wI r10 fun s3 r11 => dD wI r11 fun s4 r12 => asNil r12 <| asCons σ fun a13 r13 => asOne w4 a13 fun a14 => asAgL a14 fun l15 => dD w1 l15 fun s5 r16 => dD wI r16 fun s6 r17 => dP (.vec 1) r17 fun r18 => asNil r18 <| asCons r13 fun a19 r19 => asDeep .bool a19 fun s7 l20 => asNil l20 <| dO .bool .bool r19 fun s8 r21 => dO wI wI r21 fun s9 r23 => dO wI wI r23 fun s10 r25 => dO w0 w0 r25 fun s11 r27 => dR .bool false r27 fun s12 r29 => asNil r29 <| l18r12v4 (fun z1 z2 z3 z4 z5 z6 z7 z8 z9 => K (.exit 2) [(2, .fn 19 [] [.ptr 2 0 [], .ptr 3 0 [], .ptr 4 0 []]), (7, .ptr 5 0 []), (8, .vec 6), (9, I z1)] [.one w4 (.agg [.d w1 z2, I z3, .vec 1]), .deep .bool z4 [], .one .bool (B z5), .one wI (I z6), .one wI (I z7), .one w0 (.d w0 z8), .row .bool z9 false]) s1 s2 s3 s4 s5 s6 s7 s8 s9 s10 s11 s12
theorem l18r12v4v : LoopV E wF (E.info 18).keep 5 Try.f18.ntmps 19000012 (body Try.f18 12) ([2, 7, 8, 9, 54, 55, 56], lsl18r12v4) := by
  intro vs σ K h0
  obtain ⟨a1, r1, rfl, h1⟩ := asCons_inv h0
  obtain ⟨l2, l3, rfl, h2⟩ := asFn_inv h1
  obtain ⟨rfl, h3⟩ := cN h2
  obtain ⟨r6, rfl, h9⟩ := cPPP h3
  obtain ⟨rfl, h10⟩ := cN h9
  obtain ⟨s1, s2, r10, rfl, h18⟩ := cPPDD h10
  obtain ⟨s3, s4, r12, rfl, h22⟩ := cDD h18
  obtain ⟨rfl, h23⟩ := cN h22
  obtain ⟨a13, r13, rfl, h24⟩ := asCons_inv h23
  obtain ⟨a14, rfl, h25⟩ := asOne_inv h24
  obtain ⟨l15, rfl, h26⟩ := asAgL_inv h25
  obtain ⟨s5, s6, r18, rfl, h32⟩ := cDDP h26
  obtain ⟨rfl, h33⟩ := cN h32
  obtain ⟨a19, r19, rfl, h34⟩ := asCons_inv h33
  obtain ⟨s7, l20, rfl, h35⟩ := asDeep_inv h34
  obtain ⟨rfl, h36⟩ := cN h35
  obtain ⟨s8, r21, rfl, h39⟩ := oD h36
  obtain ⟨s9, r23, rfl, h42⟩ := oD h39
  obtain ⟨s10, r25, rfl, h45⟩ := oD h42
  obtain ⟨s11, r27, rfl, h48⟩ := oD h45
  obtain ⟨s12, r29, rfl, h50⟩ := cR h48
  obtain ⟨rfl, h51⟩ := cN h50
  intro J hJ
  have hp : ∀ c' ∈ subsOf (E.info 18).keep (body Try.f18 12), SubOK E wF (E.info 18).keep 5 Try.f18.ntmps (lofL nL) c' := all_eq (by kernel_rfl) all_nil
  exact h51.of (fun s1 s2 s3 s4 s5 s6 s7 s8 s9 s10 s11 s12 => J [(19000012, .undef), (2, .fn 19 [] [.ptr 2 0 [], .ptr 3 0 [], .ptr 4 0 []]), (7, .ptr 5 0 []), (8, .vec 6), (9, I s1), (54, .d (.sl wI) s2), (55, I s3), (56, I s4)] [.one w4 (.agg [.d w1 s5, I s6, .vec 1]), .deep .bool s7 [], .one .bool (B s8), .one wI (I s9), .one wI (I s10), .one w0 (.d w0 s11), .row .bool s12 false]) (fun s1 s2 s3 s4 s5 s6 s7 s8 s9 s10 s11 s12 hb => loop_round2 nS (inlOK _) hp hJ (by kernel_rfl) hb)
abbrev Sl18r5v4 : wS := [(19, none, sp19)]
theorem hSl18r5v4 : SpecOK E (ofL Sl18r5v4) := specOK_cons h19 specOK_nil
abbrev Ll18r5v4 : wL := [(19000012, [2, 7, 8, 9, 54, 55, 56], none, lsl18r12v4)]
def lsl18r5v4 : LSp := fun vs σ K => asCons vs fun a1 r1 => asFn 19 a1 fun l2 l3 => asNil l2 <| dP (.ptr 2 0 []) l3 fun r4 => dP (.ptr 3 0 []) r4 fun r5 => dP (.ptr 4 0 []) r5 fun r6 => asNil r6 <| dP (.ptr 5 0 []) r1 fun r7 => dP (.vec 6) r7 fun r8 => dD wI r8 fun s1 r9 => asNil r9 <| asCons σ fun a10 r10 => asOne w4 a10 fun a11 => asAgL a11 fun l12 => dD w1 l12 fun s2 r13 => dD wI r13 fun s3 r14 => dP (.vec 1) r14 fun r15 => asNil r15 <| asCons r10 fun a16 r16 => asDeep .bool a16 fun s4 l17 => asNil l17 <| dO .bool .bool r16 fun s5 r18 => dO wI wI r18 fun s6 r20 => dO wI wI r20 fun s7 r22 => dO w0 w0 r22 fun s8 r24 => dR .bool false r24 fun s9 r26 => asNil r26 <| l18r5v4 (fun z1 z2 z3 z4 z5 z6 z7 => K .ret [(6, .vec 5)] [.one w4 (.agg [.d w1 z1, I z2, .vec 1]), .deep .bool z3 [], .one .bool (B z4), .one wI (I z5), .one wI (I z6), .row .bool z7 false]) s1 s2 s3 s4 s5 s6 s7 s8 s9
theorem l18r5v4v : LoopV E wF (E.info 18).keep 5 Try.f18.ntmps 19000005 (body Try.f18 5) ([2, 7, 8, 9], lsl18r5v4) := by
  intro vs σ K h0
  obtain ⟨a1, r1, rfl, h1⟩ := asCons_inv h0
  obtain ⟨l2, l3, rfl, h2⟩ := asFn_inv h1
  obtain ⟨rfl, h3⟩ := cN h2
  obtain ⟨r6, rfl, h9⟩ := cPPP h3
  obtain ⟨rfl, h10⟩ := cN h9
  obtain ⟨s1, r9, rfl, h16⟩ := cPPD h10
  obtain ⟨rfl, h17⟩ := cN h16
  obtain ⟨a10, r10, rfl, h18⟩ := asCons_inv h17
  obtain ⟨a11, rfl, h19⟩ := asOne_inv h18
  obtain ⟨l12, rfl, h20⟩ := asAgL_inv h19
  obtain ⟨s2, s3, r15, rfl, h26⟩ := cDDP h20
  obtain ⟨rfl, h27⟩ := cN h26
  obtain ⟨a16, r16, rfl, h28⟩ := asCons_inv h27
  obtain ⟨s4, l17, rfl, h29⟩ := asDeep_inv h28
  obtain ⟨rfl, h30⟩ := cN h29
  obtain ⟨s5, r18, rfl, h33⟩ := oD h30
  obtain ⟨s6, r20, rfl, h36⟩ := oD h33
  obtain ⟨s7, r22, rfl, h39⟩ := oD h36
  obtain ⟨s8, r24, rfl, h42⟩ := oD h39
  obtain ⟨s9, r26, rfl, h44⟩ := cR h42
  obtain ⟨rfl, h45⟩ := cN h44
  intro J hJ
  have hp : ∀ c' ∈ subsOf (E.info 18).keep (body Try.f18 5), SubOK E wF (E.info 18).keep 5 Try.f18.ntmps (lofL Ll18r5v4) c' := all_eq (by kernel_rfl : subsOf (E.info 18).keep (body Try.f18 5) = [.loop (body Try.f18 12)]) (all_cons (loopOK_of (mk := 19000012) (sl := [2, 7, 8, 9, 54, 55, 56]) (ss := [([2, 7, 8, 9, 54, 55, 56], lsl18r12v4)]) (by kernel_rfl) (by kernel_rfl) (all_cons l18r12v4v all_nil)) all_nil)
  exact h45.of (fun s1 s2 s3 s4 s5 s6 s7 s8 s9 => J [(19000005, .undef), (2, .fn 19 [] [.ptr 2 0 [], .ptr 3 0 [], .ptr 4 0 []]), (7, .ptr 5 0 []), (8, .vec 6), (9, I s1)] [.one w4 (.agg [.d w1 s2, I s3, .vec 1]), .deep .bool s4 [], .one .bool (B s5), .one wI (I s6), .one wI (I s7), .one w0 (.d w0 s8), .row .bool s9 false]) (fun s1 s2 s3 s4 s5 s6 s7 s8 s9 hb => loop_round2 hSl18r5v4 (inlOK _) hp hJ (by kernel_rfl) hb)
abbrev S18v5 : wS := [(37, none, sp37)]
theorem hS18v5 : SpecOK E (ofL S18v5) := specOK_cons h37 specOK_nil
abbrev L18v5 : wL := [(19000005, [2, 7, 8, 9], none, lsl18r5v4)]
def sp18v5 : Sp := fun args τ K => dP (.ptr 0 0 []) args fun r1 => dD wI r1 fun x1 r2 => asCons r2 fun a3 r3 => asFn 19 a3 fun l4 l5 => asNil l4 <| dP (.ptr 2 0 []) l5 fun r6 => dP (.ptr 3 0 []) r6 fun r7 => dP (.ptr 4 0 []) r7 fun r8 => asNil r8 <| asNil r3 <| asCons τ fun a9 r9 => asOne w4 a9 fun a10 => asAgL a10 fun l11 => dD w1 l11 fun x2 r12 => dD wI r12 fun x3 r13 => dP (.vec 1) r13 fun r14 => asNil r14 <| asCons r9 fun a15 r15 => asDeep .bool a15 fun x4 l16 => asNil l16 <| dO .bool .bool r15 fun x5 r17 => dO wI wI r17 fun x6 r19 => dO wI wI r19 fun x7 r21 => asNil r21 <| c18v5 x1 x2 x3 x4 x5 x6 x7 (fun z1 z2 z3 z4 z5 z6 z7 => K (.vec 5) [.one w4 (.agg [.d w1 z1, I z2, .vec 1]), .deep .bool z3 [], .one .bool (B z4), .one wI (I z5), .one wI (I z6), .row .bool z7 false])
theorem h18v5 : ∀ args τ K, sp18v5 args τ K → ACall E 18 args τ K := by
  intro args τ K h0
  obtain ⟨x1, r2, rfl, h4⟩ := cPD h0
  obtain ⟨a3, r3, rfl, h5⟩ := asCons_inv h4
  obtain ⟨l4, l5, rfl, h6⟩ := asFn_inv h5
  obtain ⟨rfl, h7⟩ := cN h6
  obtain ⟨r8, rfl, h13⟩ := cPPP h7
  obtain ⟨rfl, rfl, h15⟩ := cM h13
  obtain ⟨a9, r9, rfl, h16⟩ := asCons_inv h15
  obtain ⟨a10, rfl, h17⟩ := asOne_inv h16
  obtain ⟨l11, rfl, h18⟩ := asAgL_inv h17
  obtain ⟨x2, x3, r14, rfl, h24⟩ := cDDP h18
  obtain ⟨rfl, h25⟩ := cN h24
  obtain ⟨a15, r15, rfl, h26⟩ := asCons_inv h25
  obtain ⟨x4, l16, rfl, h27⟩ := asDeep_inv h26
  obtain ⟨rfl, h28⟩ := cN h27
  obtain ⟨x5, r17, rfl, h31⟩ := oD h28
  obtain ⟨x6, r19, rfl, h34⟩ := oD h31
  obtain ⟨x7, r21, rfl, h37⟩ := oD h34
  obtain ⟨rfl, h38⟩ := cN h37
  exact ACall.spec2 (fn := Try.f18) (c := codeOf Try.f18) (L := lofL L18v5) hS18v5 (by kernel_rfl) (by kernel_rfl) (inlOK _) (all_eq (by kernel_rfl : subsOf (E.info 18).keep (codeOf Try.f18) = [.loop (body Try.f18 5)]) (all_cons (loopOK_of (mk := 19000005) (sl := [2, 7, 8, 9]) (ss := [([2, 7, 8, 9], lsl18r5v4)]) (by kernel_rfl) (by kernel_rfl) (all_cons l18r5v4v all_nil)) all_nil)) (by kernel_rfl) h38.of
abbrev Sl8r10v2 : wS := [(18, none, sp18v5)]
theorem hSl8r10v2 : SpecOK E (ofL Sl8r10v2) := specOK_cons h18v5 specOK_nil
def lsl8r10v2 : LSp := fun vs σ K => dP (.ptr 0 0 []) vs fun r1 => dP (.ptr 1 0 []) r1 fun r2 => dP (.ptr 2 0 []) r2 fun r3 => dP (.ptr 4 0 []) r3 fun r4 => dD wI r4 fun s1 r5 => dD wI r5 fun s2 r6 => asNil r6 <| dO wI wI σ fun s3 r7 => dO wI wI r7 fun s4 r9 => asCons r9 fun a11 r11 => asOne w4 a11 fun a12 => asAgL a12 fun l13 => dD w1 l13 fun s5 r14 => dD wI r14 fun s6 r15 => dP (.vec 3) r15 fun r16 => asNil r16 <| asCons r11 fun a17 r17 => asDeep .bool a17 fun s7 l18 => asNil l18 <| dO .bool .bool r17 fun s8 r19 => asNil r19 <| l8r10v2 (fun z1 => K (.exit 1) [(11, .ptr 0 0 [])] [.one .bool (B z1)]) s1 s2 s3 s4 s5 s6 s7 s8
theorem l8r10v2v : LoopV E wF (E.info 8).keep 0 Try.f8.ntmps 9000010 (body Try.f8 10) ([4, 5, 8, 11, 40, 41], lsl8r10v2) := by
  intro vs σ K h0
  obtain ⟨r4, rfl, h8⟩ := cPPPP h0
  obtain ⟨s1, s2, r6, rfl, h12⟩ := cDD h8
  obtain ⟨rfl, h13⟩ := cN h12
  obtain ⟨s3, r7, rfl, h16⟩ := oD h13
  obtain ⟨s4, r9, rfl, h19⟩ := oD h16
  obtain ⟨a11, r11, rfl, h20⟩ := asCons_inv h19
  obtain ⟨a12, rfl, h21⟩ := asOne_inv h20
  obtain ⟨l13, rfl, h22⟩ := asAgL_inv h21
  obtain ⟨s5, s6, r16, rfl, h28⟩ := cDDP h22
  obtain ⟨rfl, h29⟩ := cN h28
  obtain ⟨a17, r17, rfl, h30⟩ := asCons_inv h29
  obtain ⟨s7, l18, rfl, h31⟩ := asDeep_inv h30
  obtain ⟨rfl, h32⟩ := cN h31
  obtain ⟨s8, r19, rfl, h35⟩ := oD h32
  obtain ⟨rfl, h36⟩ := cN h35
  intro J hJ
  have hp : wH 8 Try.f8 (body Try.f8 10) nL := all_eq (by kernel_rfl) all_nil
  exact h36.of (fun s1 s2 s3 s4 s5 s6 s7 s8 => J [(9000010, .undef), (4, .ptr 0 0 []), (5, .ptr 1 0 []), (8, .ptr 2 0 []), (11, .ptr 4 0 []), (40, I s1), (41, I s2)] [.one wI (I s3), .one wI (I s4), .one w4 (.agg [.d w1 s5, I s6, .vec 3]), .deep .bool s7 [], .one .bool (B s8)]) (fun s1 s2 s3 s4 s5 s6 s7 s8 hb => loop_round2 hSl8r10v2 (inlOK _) hp hJ (by kernel_rfl) hb)
abbrev S8 : wS := [(15, none, sp15v2), (17, none, sp17)]
theorem hS8 : SpecOK E (ofL S8) := specOK_cons h15v2 (specOK_cons h17 specOK_nil)
abbrev L8 : wL := [(9000010, [4, 5, 8, 11, 40, 41], some ([.fix (.ptr 0 0 []), .fix (.ptr 1 0 []), .d (.opq .ptr), .fix (.ptr 2 0 []), .d wI, .d wI], [.one wI (.d wI), .one wI (.d wI), .one .bool (.d .bool)]), lsl8r10), (9000010, [4, 5, 8, 11, 40, 41], some ([.fix (.ptr 0 0 []), .fix (.ptr 1 0 []), .fix (.ptr 2 0 []), .fix (.ptr 4 0 []), .d wI, .d wI], [.one wI (.d wI), .one wI (.d wI), .one w4 (.agg [.d w1, .d wI, .fix (.vec 3)]), .deep .bool [], .one .bool (.d .bool)]), lsl8r10v2)]
def sp8 : Sp := fun args τ K => dD w1 args fun x1 r1 => dD wI r1 fun x2 r2 => dD wI r2 fun x3 r3 => asNil r3 <| asNil τ <| c8 x1 x2 x3 (fun z1 z2 => K (.tup [B z1, I z2]) [])
theorem h8 : ∀ args τ K, sp8 args τ K → ACall E 8 args τ K := by
  intro args τ K h0
  obtain ⟨x1, x2, x3, r3, rfl, h6⟩ := cDDD h0
  obtain ⟨rfl, rfl, h8⟩ := cM h6
  exact ACall.spec2 (fn := Try.f8) (c := codeOf Try.f8) (L := lofL L8) hS8 (by kernel_rfl) (by kernel_rfl) (inlOK _) (all_eq (by kernel_rfl : subsOf (E.info 8).keep (codeOf Try.f8) = [.loop (body Try.f8 10)]) (all_cons (loopOK_of (mk := 9000010) (sl := [4, 5, 8, 11, 40, 41]) (ss := [([4, 5, 8, 11, 40, 41], lsl8r10), ([4, 5, 8, 11, 40, 41], lsl8r10v2)]) (by kernel_rfl) (by kernel_rfl) (all_cons l8r10v (all_cons l8r10v2v all_nil))) all_nil)) (by kernel_rfl) h8.of
def lsl9r3 : LSp := fun vs σ K => dP (.ptr 0 0 []) vs fun r1 => dD wI r1 fun s1 r2 => dD (.sl w0) r2 fun s2 r3 => dD wI r3 fun s3 r4 => dD wI r4 fun s4 r5 => asNil r5 <| dO w1 w1 σ fun s5 r6 => asNil r6 <| l9r3 (fun z1 z2 => K (.exit 0) [(1, .ptr 0 0 []), (3, I z1)] [.one w1 (.d w1 z2)]) s1 s2 s3 s4 s5
theorem l9r3v : LoopV E wF (E.info 9).keep 0 Try.f9.ntmps 10000003 (body Try.f9 3) ([1, 3, 17, 18, 19], lsl9r3) := by
  intro vs σ K h0
  obtain ⟨s1, s2, s3, r4, rfl, h8⟩ := cPDDD h0
  obtain ⟨s4, r5, rfl, h10⟩ := cD h8
  obtain ⟨rfl, h11⟩ := cN h10
  obtain ⟨s5, r6, rfl, h14⟩ := oD h11
  obtain ⟨rfl, h15⟩ := cN h14
  intro J hJ
  have hp : wH 9 Try.f9 (body Try.f9 3) nL := all_eq (by kernel_rfl) all_nil
  exact h15.of (fun s1 s2 s3 s4 s5 => J [(10000003, .undef), (1, .ptr 0 0 []), (3, I s1), (17, .d (.sl w0) s2), (18, I s3), (19, I s4)] [.one w1 (.d w1 s5)]) (fun s1 s2 s3 s4 s5 hb => loop_round2 nS (inlOK _) hp hJ (by kernel_rfl) hb)
def sp20 : Sp := fun args τ K => dD wI args fun x1 r1 => dD wI r1 fun x2 r2 => dD wI r2 fun x3 r3 => asNil r3 <| asNil τ <| c20 x1 x2 x3 (fun z1 => K (B z1) [])
theorem h20 : ∀ args τ K, sp20 args τ K → ACall E 20 args τ K := by
  intro args τ K h0
  obtain ⟨x1, x2, x3, r3, rfl, h6⟩ := cDDD h0
  obtain ⟨rfl, rfl, h8⟩ := cM h6
  exact ACall.spec2 (fn := Try.f20) (c := codeOf Try.f20) (L := lofL nL) nS (by kernel_rfl) (by kernel_rfl) (inlOK _) (all_eq (by kernel_rfl) all_nil) (by kernel_rfl) h8.of
def lsl25r2 : LSp := fun vs σ K => dD wI vs fun s1 r1 => dD (.sl wI) r1 fun s2 r2 => dD wI r2 fun s3 r3 => dD wI r3 fun s4 r4 => asNil r4 <| asNil σ <| l25r2 (fun z1 => K .ret [(4, B z1)] []) (K (.exit 0) [(4, .undef)] []) s1 s2 s3 s4
theorem l25r2v : LoopV E wF (E.info 25).keep 0 Try.f25.ntmps 26000002 (body Try.f25 2) ([1, 7, 8, 9], lsl25r2) := by
  intro vs σ K h0
  obtain ⟨s1, s2, s3, s4, r4, rfl, h8⟩ := cDDDD h0
  obtain ⟨rfl, rfl, h10⟩ := cM h8
  intro J hJ
  have hp : wH 25 Try.f25 (body Try.f25 2) nL := all_eq (by kernel_rfl) all_nil
  exact h10.of (fun s1 s2 s3 s4 => J [(26000002, .undef), (1, I s1), (7, .d (.sl wI) s2), (8, I s3), (9, I s4)] []) (fun s1 s2 s3 s4 hb => loop_round2 nS (inlOK _) hp hJ (by kernel_rfl) hb)
abbrev L25 : wL := [(26000002, [1, 7, 8, 9], none, lsl25r2)]
def sp25 : Sp := fun args τ K => dD (.sl wI) args fun x1 r1 => dD wI r1 fun x2 r2 => asNil r2 <| asNil τ <| c25 x1 x2 (fun z1 => K (B z1) [])
theorem h25 : ∀ args τ K, sp25 args τ K → ACall E 25 args τ K := by
  intro args τ K h0
  obtain ⟨x1, x2, r2, rfl, h4⟩ := cDD h0
  obtain ⟨rfl, rfl, h6⟩ := cM h4
  exact ACall.spec2 (fn := Try.f25) (c := codeOf Try.f25) (L := lofL L25) nS (by kernel_rfl) (by kernel_rfl) (inlOK _) (all_eq (by kernel_rfl : subsOf (E.info 25).keep (codeOf Try.f25) = [.loop (body Try.f25 2)]) (all_cons (loopOK_of (mk := 26000002) (sl := [1, 7, 8, 9]) (ss := [([1, 7, 8, 9], lsl25r2)]) (by kernel_rfl) (by kernel_rfl) (all_cons l25r2v all_nil)) all_nil)) (by kernel_rfl) h6.of
abbrev S38 : wS := [(20, none, sp20), (25, none, sp25)]
theorem hS38 : SpecOK E (ofL S38) := specOK_cons h20 (specOK_cons h25 specOK_nil)
def sp38 : Sp := fun args τ K => dD wI args fun x1 r1 => dD (.sl wI) r1 fun x2 r2 => asNil r2 <| asNil τ <| c38 x1 x2 (fun z1 => K (I z1) [])
theorem h38 : ∀ args τ K, sp38 args τ K → ACall E 38 args τ K := by
  intro args τ K h0
  obtain ⟨x1, x2, r2, rfl, h4⟩ := cDD h0
  obtain ⟨rfl, rfl, h6⟩ := cM h4
  exact ACall.spec2 (fn := Try.f38) (c := codeOf Try.f38) (L := lofL nL) hS38 (by kernel_rfl) (by kernel_rfl) (inlOK _) (all_eq (by kernel_rfl) all_nil) (by kernel_rfl) h6.of
abbrev Sl21r6 : wS := [(38, none, sp38)]
theorem hSl21r6 : SpecOK E (ofL Sl21r6) := specOK_cons h38 specOK_nil
def lsl21r6 : LSp := fun vs σ K => dP (.ptr 0 0 []) vs fun r1 => dP (.vec 1) r1 fun r2 => dP (.ptr 2 0 []) r2 fun r3 => dD (.sl w0) r3 fun s1 r4 => dD wI r4 fun s2 r5 => dD wI r5 fun s3 r6 => dD (.sl wI) r6 fun s4 r7 => dD wI r7 fun s5 r8 => dD wI r8 fun s6 r9 => asNil r9 <| dO w1 w1 σ fun s7 r10 => dR wI false r10 fun s8 r12 => dO w0 w0 r12 fun s9 r13 => asNil r13 <| l21r6 (fun z1 => K .ret [(1, .undef), (2, I z1), (3, .undef), (5, .undef), (15, .undef), (16, .undef), (17, .undef)] []) (fun z1 z2 z3 z4 z5 z6 => K (.exit 2) [(1, .ptr 0 0 []), (2, .undef), (3, .vec 1), (5, .ptr 2 0 []), (15, .d (.sl w0) z1), (16, I z2), (17, I z3)] [.one w1 (.d w1 z4), .row wI z5 false, .one w0 (.d w0 z6)]) s1 s2 s3 s4 s5 s6 s7 s8 s9
theorem l21r6v : LoopV E wF (E.info 21).keep 0 Try.f21.ntmps 22000006 (body Try.f21 6) ([1, 3, 5, 15, 16, 17, 22, 23, 24], lsl21r6) := by
  intro vs σ K h0
  obtain ⟨s1, r4, rfl, h8⟩ := cPPPD h0
  obtain ⟨s2, s3, s4, s5, r8, rfl, h16⟩ := cDDDD h8
  obtain ⟨s6, r9, rfl, h18⟩ := cD h16
  obtain ⟨rfl, h19⟩ := cN h18
  obtain ⟨s7, r10, rfl, h22⟩ := oD h19
  obtain ⟨s8, r12, rfl, h24⟩ := cR h22
  obtain ⟨s9, r13, rfl, h27⟩ := oD h24
  obtain ⟨rfl, h28⟩ := cN h27
  intro J hJ
  have hp : wH 21 Try.f21 (body Try.f21 6) nL := all_eq (by kernel_rfl) all_nil
  exact h28.of (fun s1 s2 s3 s4 s5 s6 s7 s8 s9 => J [(22000006, .undef), (1, .ptr 0 0 []), (3, .vec 1), (5, .ptr 2 0 []), (15, .d (.sl w0) s1), (16, I s2), (17, I s3), (22, .d (.sl wI) s4), (23, I s5), (24, I s6)] [.one w1 (.d w1 s7), .row wI s8 false, .one w0 (.d w0 s9)]) (fun s1 s2 s3 s4 s5 s6 s7 s8 s9 hb => loop_round2 hSl21r6 (inlOK _) hp hJ (by kernel_rfl) hb)
def sp51 : Sp := fun args τ K => dD w7 args fun x1 r1 => asNil r1 <| asNil τ <| c51 x1 (fun z1 => K (I z1) [])
theorem h51 : ∀ args τ K, sp51 args τ K → ACall E 51 args τ K := by
  intro args τ K h0
  obtain ⟨x1, r1, rfl, h2⟩ := cD h0
  obtain ⟨rfl, rfl, h4⟩ := cM h2
  exact ACall.spec2 (fn := Try.f51) (c := codeOf Try.f51) (L := lofL nL) nS (by kernel_rfl) (by kernel_rfl) (inlOK _) (all_eq (by kernel_rfl) all_nil) (by kernel_rfl) h4.of
def lsj39s4 : LSp := fun vs σ K => dP (.ptr 0 0 []) vs fun r1 => dD .bool r1 fun s1 r2 => asNil r2 <| dO w7 w7 σ fun s2 r3 => asNil r3 <| j39s4 (fun z1 => K .ret [(1, .undef), (2, I z1)] []) (fun z1 => K .normal [(1, .ptr 0 0 []), (2, .undef)] [.one w7 (.d w7 z1)]) s1 s2
theorem j39s4v : JoinV E wF (E.info 39).keep 0 Try.f39.ntmps 40500004 5000004 (jbody Try.f39 5000004) ([1, 60], lsj39s4) := by
  intro vs σ K h0
  obtain ⟨s1, r2, rfl, h4⟩ := cPD h0
  obtain ⟨rfl, h5⟩ := cN h4
  obtain ⟨s2, r3, rfl, h8⟩ := oD h5
  obtain ⟨rfl, h9⟩ := cN h8
  exact join_round2 (L := lofL nL) nS (inlOK _) (all_eq (by kernel_rfl) all_nil) (by kernel_rfl) h9.of
abbrev S52 : wS := [(20, none, sp20)]
theorem hS52 : SpecOK E (ofL S52) := specOK_cons h20 specOK_nil
def sp52 : Sp := fun args τ K => dD wI args fun x1 r1 => asNil r1 <| asNil τ <| c52 x1 (fun z1 => K (B z1) [])
theorem h52 : ∀ args τ K, sp52 args τ K → ACall E 52 args τ K := by
  intro args τ K h0
  obtain ⟨x1, r1, rfl, h2⟩ := cD h0
  obtain ⟨rfl, rfl, h4⟩ := cM h2
  exact ACall.spec2 (fn := Try.f52) (c := codeOf Try.f52) (L := lofL nL) hS52 (by kernel_rfl) (by kernel_rfl) (inlOK _) (all_eq (by kernel_rfl) all_nil) (by kernel_rfl) h4.of
abbrev Sj39r6 : wS := [(52, none, sp52), (20, none, sp20)]
theorem hSj39r6 : SpecOK E (ofL Sj39r6) := specOK_cons h52 (specOK_cons h20 specOK_nil)
def lsj39r6 : LSp := fun vs σ K => dP (.ptr 0 0 []) vs fun r1 => asNil r1 <| dO w7 w7 σ fun s1 r2 => asNil r2 <| j39r6 (fun z1 => K .ret [(2, I z1)] []) s1
theorem j39r6v : JoinV E wF (E.info 39).keep 0 Try.f39.ntmps 40400006 4000006 (jbody Try.f39 4000006) ([1], lsj39r6) := by
  intro vs σ K h0
  obtain ⟨r1, rfl, h2⟩ := cP h0
  obtain ⟨rfl, h3⟩ := cN h2
  obtain ⟨s1, r2, rfl, h6⟩ := oD h3
  obtain ⟨rfl, h7⟩ := cN h6
  exact join_round2 (L := lofL nL) hSj39r6 (inlOK _) (all_eq (by kernel_rfl) all_nil) (by kernel_rfl) h7.of
abbrev Lj39r4 : wL := [(40500004, [1, 60], none, lsj39s4), (40400006, [1], none, lsj39r6)]
def lsj39r4 : LSp := fun vs σ K => dP (.ptr 0 0 []) vs fun r1 => asNil r1 <| dO w7 w7 σ fun s1 r2 => asNil r2 <| j39r4 (fun z1 => K .ret [(2, I z1)] []) s1
theorem j39r4v : JoinV E wF (E.info 39).keep 0 Try.f39.ntmps 40400004 4000004 (jbody Try.f39 4000004) ([1], lsj39r4) := by
  intro vs σ K h0
  obtain ⟨r1, rfl, h2⟩ := cP h0
  obtain ⟨rfl, h3⟩ := cN h2
  obtain ⟨s1, r2, rfl, h6⟩ := oD h3
  obtain ⟨rfl, h7⟩ := cN h6
  exact join_round2 (L := lofL Lj39r4) nS (inlOK _) (all_eq (by kernel_rfl : subsOf (E.info 39).keep (jbody Try.f39 4000004) = [.join 4000006 (jbody Try.f39 4000006), .join 5000004 (jbody Try.f39 5000004)]) (all_cons (joinOK_of (mk := 40400006) (sl := [1]) (ss := [([1], lsj39r6)]) (by kernel_rfl) (by kernel_rfl) (all_cons j39r6v all_nil)) (all_cons (joinOK_of (mk := 40500004) (sl := [1, 60]) (ss := [([1, 60], lsj39s4)]) (by kernel_rfl) (by kernel_rfl) (all_cons j39s4v all_nil)) all_nil))) (by kernel_rfl) h7.of
abbrev S39 : wS := [(51, none, sp51)]
theorem hS39 : SpecOK E (ofL S39) := specOK_cons h51 specOK_nil
abbrev L39 : wL := [(40400004, [1], none, lsj39r4)]
def sp39 : Sp := fun args τ K => dD w7 args fun x1 r1 => asNil r1 <| asNil τ <| c39 x1 (fun z1 => K (I z1) [])
theorem h39 : ∀ args τ K, sp39 args τ K → ACall E 39 args τ K := by
  intro args τ K h0
  obtain ⟨x1, r1, rfl, h2⟩ := cD h0
  obtain ⟨rfl, rfl, h4⟩ := cM h2
  exact ACall.spec2 (fn := Try.f39) (c := codeOf Try.f39) (L := lofL L39) hS39 (by kernel_rfl) (by kernel_rfl) (inlOK _) (all_eq (by kernel_rfl : subsOf (E.info 39).keep (codeOf Try.f39) = [.join 4000004 (jbody Try.f39 4000004)]) (all_cons (joinOK_of (mk := 40400004) (sl := [1]) (ss := [([1], lsj39r4)]) (by kernel_rfl) (by kernel_rfl) (all_cons j39r4v all_nil)) all_nil)) (by kernel_rfl) h4.of
abbrev Sl21r14 : wS := [(38, none, sp38), (39, none, sp39)]
theorem hSl21r14 : SpecOK E (ofL Sl21r14) := specOK_cons h38 (specOK_cons h39 specOK_nil)
def lsl21r14 : LSp := fun vs σ K => dP (.ptr 0 0 []) vs fun r1 => dP (.vec 1) r1 fun r2 => dP (.ptr 2 0 []) r2 fun r3 => dD (.sl w0) r3 fun s1 r4 => dD wI r4 fun s2 r5 => dD wI r5 fun s3 r6 => dD (.sl w7) r6 fun s4 r7 => dD wI r7 fun s5 r8 => dD wI r8 fun s6 r9 => asNil r9 <| dO w1 w1 σ fun s7 r10 => dR wI false r10 fun s8 r12 => dO w0 w0 r12 fun s9 r13 => asNil r13 <| l21r14 (fun z1 => K .ret [(1, .undef), (2, I z1), (3, .undef), (5, .undef), (15, .undef), (16, .undef), (17, .undef)] []) (fun z1 z2 z3 z4 z5 z6 => K (.exit 4) [(1, .ptr 0 0 []), (2, .undef), (3, .vec 1), (5, .ptr 2 0 []), (15, .d (.sl w0) z1), (16, I z2), (17, I z3)] [.one w1 (.d w1 z4), .row wI z5 false, .one w0 (.d w0 z6)]) s1 s2 s3 s4 s5 s6 s7 s8 s9
theorem l21r14v : LoopV E wF (E.info 21).keep 0 Try.f21.ntmps 22000014 (body Try.f21 14) ([1, 3, 5, 15, 16, 17, 40, 41, 42], lsl21r14) := by
  intro vs σ K h0
  obtain ⟨s1, r4, rfl, h8⟩ := cPPPD h0
  obtain ⟨s2, s3, s4, s5, r8, rfl, h16⟩ := cDDDD h8
  obtain ⟨s6, r9, rfl, h18⟩ := cD h16
  obtain ⟨rfl, h19⟩ := cN h18
  obtain ⟨s7, r10, rfl, h22⟩ := oD h19
  obtain ⟨s8, r12, rfl, h24⟩ := cR h22
  obtain ⟨s9, r13, rfl, h27⟩ := oD h24
  obtain ⟨rfl, h28⟩ := cN h27
  intro J hJ
  have hp : wH 21 Try.f21 (body Try.f21 14) nL := all_eq (by kernel_rfl) all_nil
  exact h28.of (fun s1 s2 s3 s4 s5 s6 s7 s8 s9 => J [(22000014, .undef), (1, .ptr 0 0 []), (3, .vec 1), (5, .ptr 2 0 []), (15, .d (.sl w0) s1), (16, I s2), (17, I s3), (40, .d (.sl w7) s4), (41, I s5), (42, I s6)] [.one w1 (.d w1 s7), .row wI s8 false, .one w0 (.d w0 s9)]) (fun s1 s2 s3 s4 s5 s6 s7 s8 s9 hb => loop_round2 hSl21r14 (inlOK _) hp hJ (by kernel_rfl) hb)
def lsj40s4 : LSp := fun vs σ K => dP (.ptr 0 0 []) vs fun r1 => dP (.ptr 1 0 []) r1 fun r2 => dD .bool r2 fun s1 r3 => asNil r3 <| dO w1 w1 σ fun s2 r4 => dO w2 w2 r4 fun s3 r6 => asNil r6 <| j40s4 (fun z1 => K .ret [(2, .undef), (3, .undef), (4, I z1)] []) (fun z1 z2 => K .normal [(2, .ptr 0 0 []), (3, .ptr 1 0 []), (4, .undef)] [.one w1 (.d w1 z1), .one w2 (.d w2 z2)]) s1 s2 s3
theorem j40s4v : JoinV E wF (E.info 40).keep 0 Try.f40.ntmps 41500004 5000004 (jbody Try.f40 5000004) ([2, 3, 63], lsj40s4) := by
  intro vs σ K h0
  obtain ⟨s1, r3, rfl, h6⟩ := cPPD h0
  obtain ⟨rfl, h7⟩ := cN h6
  obtain ⟨s2, r4, rfl, h10⟩ := oD h7
  obtain ⟨s3, r6, rfl, h13⟩ := oD h10
  obtain ⟨rfl, h14⟩ := cN h13
  exact join_round2 (L := lofL nL) nS (inlOK _) (all_eq (by kernel_rfl) all_nil) (by kernel_rfl) h14.of
abbrev Sl40r11 : wS := [(52, none, sp52), (25, none, sp25)]
theorem hSl40r11 : SpecOK E (ofL Sl40r11) := specOK_cons h52 (specOK_cons h25 specOK_nil)
def lsl40r11 : LSp := fun vs σ K => dP (.ptr 0 0 []) vs fun r1 => dP (.ptr 1 0 []) r1 fun r2 => dD (.sl wI) r2 fun s1 r3 => dD wI r3 fun s2 r4 => dD wI r4 fun s3 r5 => asNil r5 <| dO w1 w1 σ fun s4 r6 => dO w2 w2 r6 fun s5 r8 => asNil r8 <| l40r11 (fun z1 => K .ret [(2, .undef), (3, .undef), (4, I z1)] []) (fun z1 z2 => K (.exit 0) [(2, .ptr 0 0 []), (3, .ptr 1 0 []), (4, .undef)] [.one w1 (.d w1 z1), .one w2 (.d w2 z2)]) s1 s2 s3 s4 s5
theorem l40r11v : LoopV E wF (E.info 40).keep 0 Try.f40.ntmps 41000011 (body Try.f40 11) ([2, 3, 78, 79, 80], lsl40r11) := by
  intro vs σ K h0
  obtain ⟨s1, s2, r4, rfl, h8⟩ := cPPDD h0
  obtain ⟨s3, r5, rfl, h10⟩ := cD h8
  obtain ⟨rfl, h11⟩ := cN h10
  obtain ⟨s4, r6, rfl, h14⟩ := oD h11
  obtain ⟨s5, r8, rfl, h17⟩ := oD h14
  obtain ⟨rfl, h18⟩ := cN h17
  intro J hJ
  have hp : wH 40 Try.f40 (body Try.f40 11) nL := all_eq (by kernel_rfl) all_nil
  exact h18.of (fun s1 s2 s3 s4 s5 => J [(41000011, .undef), (2, .ptr 0 0 []), (3, .ptr 1 0 []), (78, .d (.sl wI) s1), (79, I s2), (80, I s3)] [.one w1 (.d w1 s4), .one w2 (.d w2 s5)]) (fun s1 s2 s3 s4 s5 hb => loop_round2 hSl40r11 (inlOK _) hp hJ (by kernel_rfl) hb)
abbrev Sl40r19 : wS := [(20, none, sp20)]
theorem hSl40r19 : SpecOK E (ofL Sl40r19) := specOK_cons h20 specOK_nil
def lsl40r19 : LSp := fun vs σ K => dP (.ptr 0 0 []) vs fun r1 => dD (.sl w5) r1 fun s1 r2 => dD wI r2 fun s2 r3 => dD wI r3 fun s3 r4 => asNil r4 <| dO w1 w1 σ fun s4 r5 => asNil r5 <| l40r19 (fun z1 => K .ret [(4, I z1)] []) (K (.exit 2) [(4, .undef)] []) s1 s2 s3 s4
theorem l40r19v : LoopV E wF (E.info 40).keep 0 Try.f40.ntmps 41000019 (body Try.f40 19) ([2, 96, 97, 98], lsl40r19) := by
  intro vs σ K h0
  obtain ⟨s1, s2, s3, r4, rfl, h8⟩ := cPDDD h0
  obtain ⟨rfl, h9⟩ := cN h8
  obtain ⟨s4, r5, rfl, h12⟩ := oD h9
  obtain ⟨rfl, h13⟩ := cN h12
  intro J hJ
  have hp : wH 40 Try.f40 (body Try.f40 19) nL := all_eq (by kernel_rfl) all_nil
  exact h13.of (fun s1 s2 s3 s4 => J [(41000019, .undef), (2, .ptr 0 0 []), (96, .d (.sl w5) s1), (97, I s2), (98, I s3)] [.one w1 (.d w1 s4)]) (fun s1 s2 s3 s4 hb => loop_round2 hSl40r19 (inlOK _) hp hJ (by kernel_rfl) hb)
abbrev Sj40r6 : wS := [(20, none, sp20)]
theorem hSj40r6 : SpecOK E (ofL Sj40r6) := specOK_cons h20 specOK_nil
abbrev Lj40r6 : wL := [(41000011, [2, 3, 78, 79, 80], none, lsl40r11), (41000019, [2, 96, 97, 98], none, lsl40r19)]
def lsj40r6 : LSp := fun vs σ K => dP (.ptr 0 0 []) vs fun r1 => dP (.ptr 1 0 []) r1 fun r2 => asNil r2 <| dO w1 w1 σ fun s1 r3 => dO w2 w2 r3 fun s2 r5 => asNil r5 <| j40r6 (fun z1 => K .ret [(4, I z1)] []) s1 s2
theorem j40r6v : JoinV E wF (E.info 40).keep 0 Try.f40.ntmps 41400006 4000006 (jbody Try.f40 4000006) ([2, 3], lsj40r6) := by
  intro vs σ K h0
  obtain ⟨r2, rfl, h4⟩ := cPP h0
  obtain ⟨rfl, h5⟩ := cN h4
  obtain ⟨s1, r3, rfl, h8⟩ := oD h5
  obtain ⟨s2, r5, rfl, h11⟩ := oD h8
  obtain ⟨rfl, h12⟩ := cN h11
  exact join_round2 (L := lofL Lj40r6) hSj40r6 (inlOK _) (all_eq (by kernel_rfl : subsOf (E.info 40).keep (jbody Try.f40 4000006) = [.loop (body Try.f40 11), .loop (body Try.f40 19)]) (all_cons (loopOK_of (mk := 41000011) (sl := [2, 3, 78, 79, 80]) (ss := [([2, 3, 78, 79, 80], lsl40r11)]) (by kernel_rfl) (by kernel_rfl) (all_cons l40r11v all_nil)) (all_cons (loopOK_of (mk := 41000019) (sl := [2, 96, 97, 98]) (ss := [([2, 96, 97, 98], lsl40r19)]) (by kernel_rfl) (by kernel_rfl) (all_cons l40r19v all_nil)) all_nil))) (by kernel_rfl) h12.of
abbrev S40 : wS := [(20, none, sp20)]
theorem hS40 : SpecOK E (ofL S40) := specOK_cons h20 specOK_nil
abbrev L40 : wL := [(41500004, [2, 3, 63], none, lsj40s4), (41400006, [2, 3], none, lsj40r6)]
def sp40 : Sp := fun args τ K => dD w1 args fun x1 r1 => dD w2 r1 fun x2 r2 => asNil r2 <| asNil τ <| c40 x1 x2 (fun z1 => K (I z1) [])
theorem h40 : ∀ args τ K, sp40 args τ K → ACall E 40 args τ K := by
  intro args τ K h0
  obtain ⟨x1, x2, r2, rfl, h4⟩ := cDD h0
  obtain ⟨rfl, rfl, h6⟩ := cM h4
  exact ACall.spec2 (fn := Try.f40) (c := codeOf Try.f40) (L := lofL L40) hS40 (by kernel_rfl) (by kernel_rfl) (inlOK _) (all_eq (by kernel_rfl : subsOf (E.info 40).keep (codeOf Try.f40) = [.join 4000006 (jbody Try.f40 4000006), .join 5000004 (jbody Try.f40 5000004)]) (all_cons (joinOK_of (mk := 41400006) (sl := [2, 3]) (ss := [([2, 3], lsj40r6)]) (by kernel_rfl) (by kernel_rfl) (all_cons j40r6v all_nil)) (all_cons (joinOK_of (mk := 41500004) (sl := [2, 3, 63]) (ss := [([2, 3, 63], lsj40s4)]) (by kernel_rfl) (by kernel_rfl) (all_cons j40s4v all_nil)) all_nil))) (by kernel_rfl) h6.of
abbrev Sl21r3 : wS := [(40, none, sp40)]
theorem hSl21r3 : SpecOK E (ofL Sl21r3) := specOK_cons h40 specOK_nil
abbrev Ll21r3 : wL := [(22000006, [1, 3, 5, 15, 16, 17, 22, 23, 24], none, lsl21r6), (22000014, [1, 3, 5, 15, 16, 17, 40, 41, 42], none, lsl21r14)]
def lsl21r3 : LSp := fun vs σ K => dP (.ptr 0 0 []) vs fun r1 => dP (.vec 1) r1 fun r2 => dD (.sl w0) r2 fun s1 r3 => dD wI r3 fun s2 r4 => dD wI r4 fun s3 r5 => asNil r5 <| dO w1 w1 σ fun s4 r6 => dR wI false r6 fun s5 r8 => asNil r8 <| l21r3 (fun z1 => K .ret [(2, I z1)] []) (K (.exit 0) [(2, .undef)] []) s1 s2 s3 s4 s5
theorem l21r3v : LoopV E wF (E.info 21).keep 0 Try.f21.ntmps 22000003 (body Try.f21 3) ([1, 3, 15, 16, 17], lsl21r3) := by
  intro vs σ K h0
  obtain ⟨s1, s2, r4, rfl, h8⟩ := cPPDD h0
  obtain ⟨s3, r5, rfl, h10⟩ := cD h8
  obtain ⟨rfl, h11⟩ := cN h10
  obtain ⟨s4, r6, rfl, h14⟩ := oD h11
  obtain ⟨s5, r8, rfl, h16⟩ := cR h14
  obtain ⟨rfl, h17⟩ := cN h16
  intro J hJ
  have hp : wH 21 Try.f21 (body Try.f21 3) Ll21r3 := all_eq (by kernel_rfl : subsOf (E.info 21).keep (body Try.f21 3) = [.loop (body Try.f21 6), .loop (body Try.f21 14)]) (all_cons (loopOK_of (mk := 22000006) (sl := [1, 3, 5, 15, 16, 17, 22, 23, 24]) (ss := [([1, 3, 5, 15, 16, 17, 22, 23, 24], lsl21r6)]) (by kernel_rfl) (by kernel_rfl) (all_cons l21r6v all_nil)) (all_cons (loopOK_of (mk := 22000014) (sl := [1, 3, 5, 15, 16, 17, 40, 41, 42]) (ss := [([1, 3, 5, 15, 16, 17, 40, 41, 42], lsl21r14)]) (by kernel_rfl) (by kernel_rfl) (all_cons l21r14v all_nil)) all_nil))
  exact h17.of (fun s1 s2 s3 s4 s5 => J [(22000003, .undef), (1, .ptr 0 0 []), (3, .vec 1), (15, .d (.sl w0) s1), (16, I s2), (17, I s3)] [.one w1 (.d w1 s4), .row wI s5 false]) (fun s1 s2 s3 s4 s5 hb => loop_round2 hSl21r3 (inlOK _) hp hJ (by kernel_rfl) hb)
abbrev L21 : wL := [(22000003, [1, 3, 15, 16, 17], none, lsl21r3)]
def sp21 : Sp := fun args τ K => dD w1 args fun x1 r1 => asNil r1 <| asNil τ <| c21 x1 (fun z1 => K (I z1) [])
theorem h21 : ∀ args τ K, sp21 args τ K → ACall E 21 args τ K := by
  intro args τ K h0
  obtain ⟨x1, r1, rfl, h2⟩ := cD h0
  obtain ⟨rfl, rfl, h4⟩ := cM h2
  exact ACall.spec2 (fn := Try.f21) (c := codeOf Try.f21) (L := lofL L21) nS (by kernel_rfl) (by kernel_rfl) (inlOK _) (all_eq (by kernel_rfl : subsOf (E.info 21).keep (codeOf Try.f21) = [.loop (body Try.f21 3)]) (all_cons (loopOK_of (mk := 22000003) (sl := [1, 3, 15, 16, 17]) (ss := [([1, 3, 15, 16, 17], lsl21r3)]) (by kernel_rfl) (by kernel_rfl) (all_cons l21r3v all_nil)) all_nil)) (by kernel_rfl) h4.of
abbrev Sl22r11 : wS := [(20, none, sp20)]
theorem hSl22r11 : SpecOK E (ofL Sl22r11) := specOK_cons h20 specOK_nil
def lsl22r11 : LSp := fun vs σ K => dD wI vs fun s1 r1 => dP (.ptr 0 0 []) r1 fun r2 => dP (.vec 1) r2 fun r3 => dD wI r3 fun s2 r4 => dD wI r4 fun s3 r5 => dD wI r5 fun s4 r6 => dD (.sl w0) r6 fun s5 r7 => dD wI r7 fun s6 r8 => dD wI r8 fun s7 r9 => dD (.sl w5) r9 fun s8 r10 => dD wI r10 fun s9 r11 => dD wI r11 fun s10 r12 => asNil r12 <| dO w1 w1 σ fun s11 r13 => dR .bool false r13 fun s12 r15 => asNil r15 <| l22r11 (fun z1 z2 z3 z4 z5 z6 z7 z8 => K (.exit 4) [(1, I z1), (2, .ptr 0 0 []), (5, .vec 1), (27, I z2), (28, I z3), (31, .d (.sl w0) z4), (32, I z5), (33, I z6)] [.one w1 (.d w1 z7), .row .bool z8 false]) s1 s2 s3 s4 s5 s6 s7 s8 s9 s10 s11 s12
theorem l22r11v : LoopV E wF (E.info 22).keep 0 Try.f22.ntmps 23000011 (body Try.f22 11) ([1, 2, 5, 6, 27, 28, 31, 32, 33, 40, 41, 42], lsl22r11) := by
  intro vs σ K h0
  obtain ⟨s1, s2, r4, rfl, h8⟩ := cDPPD h0
  obtain ⟨s3, s4, s5, s6, r8, rfl, h16⟩ := cDDDD h8
  obtain ⟨s7, s8, s9, s10, r12, rfl, h24⟩ := cDDDD h16
  obtain ⟨rfl, h25⟩ := cN h24
  obtain ⟨s11, r13, rfl, h28⟩ := oD h25
  obtain ⟨s12, r15, rfl, h30⟩ := cR h28
  obtain ⟨rfl, h31⟩ := cN h30
  intro J hJ
  have hp : wH 22 Try.f22 (body Try.f22 11) nL := all_eq (by kernel_rfl) all_nil
  exact h31.of (fun s1 s2 s3 s4 s5 s6 s7 s8 s9 s10 s11 s12 => J [(23000011, .undef), (1, I s1), (2, .ptr 0 0 []), (5, .vec 1), (6, I s2), (27, I s3), (28, I s4), (31, .d (.sl w0) s5), (32, I s6), (33, I s7), (40, .d (.sl w5) s8), (41, I s9), (42, I s10)] [.one w1 (.d w1 s11), .row .bool s12 false]) (fun s1 s2 s3 s4 s5 s6 s7 s8 s9 s10 s11 s12 hb => loop_round2 hSl22r11 (inlOK _) hp hJ (by kernel_rfl) hb)
abbrev Ll22r8 : wL := [(23000011, [1, 2, 5, 6, 27, 28, 31, 32, 33, 40, 41, 42], none, lsl22r11)]
def lsl22r8 : LSp := fun vs σ K => dD wI vs fun s1 r1 => dP (.ptr 0 0 []) r1 fun r2 => dP (.vec 1) r2 fun r3 => dD wI r3 fun s2 r4 => dD wI r4 fun s3 r5 => dD (.sl w0) r5 fun s4 r6 => dD wI r6 fun s5 r7 => dD wI r7 fun s6 r8 => asNil r8 <| dO w1 w1 σ fun s7 r9 => dR .bool false r9 fun s8 r11 => asNil r11 <| l22r8 (fun z1 z2 z3 z4 z5 => K (.exit 2) [(1, I z1), (2, .ptr 0 0 []), (5, .vec 1), (27, I z2), (28, I z3)] [.one w1 (.d w1 z4), .row .bool z5 false]) s1 s2 s3 s4 s5 s6 s7 s8
theorem l22r8v : LoopV E wF (E.info 22).keep 0 Try.f22.ntmps 23000008 (body Try.f22 8) ([1, 2, 5, 27, 28, 31, 32, 33], lsl22r8) := by
  intro vs σ K h0
  obtain ⟨s1, s2, r4, rfl, h8⟩ := cDPPD h0
  obtain ⟨s3, s4, s5, s6, r8, rfl, h16⟩ := cDDDD h8
  obtain ⟨rfl, h17⟩ := cN h16
  obtain ⟨s7, r9, rfl, h20⟩ := oD h17
  obtain ⟨s8, r11, rfl, h22⟩ := cR h20
  obtain ⟨rfl, h23⟩ := cN h22
  intro J hJ
  have hp : wH 22 Try.f22 (body Try.f22 8) Ll22r8 := all_eq (by kernel_rfl : subsOf (E.info 22).keep (body Try.f22 8) = [.loop (body Try.f22 11)]) (all_cons (loopOK_of (mk := 23000011) (sl := [1, 2, 5, 6, 27, 28, 31, 32, 33, 40, 41, 42]) (ss := [([1, 2, 5, 6, 27, 28, 31, 32, 33, 40, 41, 42], lsl22r11)]) (by kernel_rfl) (by kernel_rfl) (all_cons l22r11v all_nil)) all_nil)
  exact h23.of (fun s1 s2 s3 s4 s5 s6 s7 s8 => J [(23000008, .undef), (1, I s1), (2, .ptr 0 0 []), (5, .vec 1), (27, I s2), (28, I s3), (31, .d (.sl w0) s4), (32, I s5), (33, I s6)] [.one w1 (.d w1 s7), .row .bool s8 false]) (fun s1 s2 s3 s4 s5 s6 s7 s8 hb => loop_round2 nS (inlOK _) hp hJ (by kernel_rfl) hb)
abbrev Ll22r6 : wL := [(23000008, [1, 2, 5, 27, 28, 31, 32, 33], none, lsl22r8)]
def lsl22r6 : LSp := fun vs σ K => dD wI vs fun s1 r1 => dP (.ptr 0 0 []) r1 fun r2 => dP (.vec 1) r2 fun r3 => dD wI r3 fun s2 r4 => dD wI r4 fun s3 r5 => asNil r5 <| dO w1 w1 σ fun s4 r6 => dR .bool false r6 fun s5 r8 => asNil r8 <| l22r6 (fun z1 => K (.exit 0) [(5, .vec 0)] [.row .bool z1 false]) s1 s2 s3 s4 s5
theorem l22r6v : LoopV E wF (E.info 22).keep 0 Try.f22.ntmps 23000006 (body Try.f22 6) ([1, 2, 5, 27, 28], lsl22r6) := by
  intro vs σ K h0
  obtain ⟨s1, s2, r4, rfl, h8⟩ := cDPPD h0
  obtain ⟨s3, r5, rfl, h10⟩ := cD h8
  obtain ⟨rfl, h11⟩ := cN h10
  obtain ⟨s4, r6, rfl, h14⟩ := oD h11
  obtain ⟨s5, r8, rfl, h16⟩ := cR h14
  obtain ⟨rfl, h17⟩ := cN h16
  intro J hJ
  have hp : wH 22 Try.f22 (body Try.f22 6) Ll22r6 := all_eq (by kernel_rfl : subsOf (E.info 22).keep (body Try.f22 6) = [.loop (body Try.f22 8)]) (all_cons (loopOK_of (mk := 23000008) (sl := [1, 2, 5, 27, 28, 31, 32, 33]) (ss := [([1, 2, 5, 27, 28, 31, 32, 33], lsl22r8)]) (by kernel_rfl) (by kernel_rfl) (all_cons l22r8v all_nil)) all_nil)
  exact h17.of (fun s1 s2 s3 s4 s5 => J [(23000006, .undef), (1, I s1), (2, .ptr 0 0 []), (5, .vec 1), (27, I s2), (28, I s3)] [.one w1 (.d w1 s4), .row .bool s5 false]) (fun s1 s2 s3 s4 s5 hb => loop_round2 nS (inlOK _) hp hJ (by kernel_rfl) hb)
abbrev L22 : wL := [(23000006, [1, 2, 5, 27, 28], none, lsl22r6)]
def sp22 : Sp := fun args τ K => dD w1 args fun x1 r1 => dD wI r1 fun x2 r2 => asNil r2 <| asNil τ <| c22 x1 x2 (fun z1 => K (.vec 0) [.row .bool z1 false])
theorem h22 : ∀ args τ K, sp22 args τ K → ACall E 22 args τ K := by
  intro args τ K h0
  obtain ⟨x1, x2, r2, rfl, h4⟩ := cDD h0
  obtain ⟨rfl, rfl, h6⟩ := cM h4
  exact ACall.spec2 (fn := Try.f22) (c := codeOf Try.f22) (L := lofL L22) nS (by kernel_rfl) (by kernel_rfl) (inlOK _) (all_eq (by kernel_rfl : subsOf (E.info 22).keep (codeOf Try.f22) = [.loop (body Try.f22 6)]) (all_cons (loopOK_of (mk := 23000006) (sl := [1, 2, 5, 27, 28]) (ss := [([1, 2, 5, 27, 28], lsl22r6)]) (by kernel_rfl) (by kernel_rfl) (all_cons l22r6v all_nil)) all_nil)) (by kernel_rfl) h6.of
def lsl23r6 : LSp := fun vs σ K => dD wI vs fun s1 r1 => dD wI r1 fun s2 r2 => dD wI r2 fun s3 r3 => dD (.sl .bool) r3 fun s4 r4 => dP (.ptr 0 0 []) r4 fun r5 => dD wI r5 fun s5 r6 => dD .bool r6 fun s6 r7 => dD (.sl w0) r7 fun s7 r8 => dD wI r8 fun s8 r9 => dD wI r9 fun s9 r10 => dD (.sl w7) r10 fun s10 r11 => dD wI r11 fun s11 r12 => dD wI r12 fun s12 r13 => asNil r13 <| dO w1 w1 σ fun s13 r14 => asNil r14 <| l23r6 (fun z1 z2 z3 z4 z5 z6 z7 z8 z9 z10 => K (.exit 2) [(1, I z1), (2, I z2), (3, I z3), (4, .d (.sl .bool) z4), (5, .ptr 0 0 []), (11, I z5), (13, B z6), (17, .d (.sl w0) z7), (18, I z8), (19, I z9)] [.one w1 (.d w1 z10)]) s1 s2 s3 s4 s5 s6 s7 s8 s9 s10 s11 s12 s13
theorem l23r6v : LoopV E wF (E.info 23).keep 0 Try.f23.ntmps 24000006 (body Try.f23 6) ([1, 2, 3, 4, 5, 11, 13, 17, 18, 19, 29, 30, 31], lsl23r6) := by
  intro vs σ K h0
  obtain ⟨s1, s2, s3, s4, r4, rfl, h8⟩ := cDDDD h0
  obtain ⟨s5, s6, s7, r8, rfl, h16⟩ := cPDDD h8
  obtain ⟨s8, s9, s10, s11, r12, rfl, h24⟩ := cDDDD h16
  obtain ⟨s12, r13, rfl, h26⟩ := cD h24
  obtain ⟨rfl, h27⟩ := cN h26
  obtain ⟨s13, r14, rfl, h30⟩ := oD h27
  obtain ⟨rfl, h31⟩ := cN h30
  intro J hJ
  have hp : wH 23 Try.f23 (body Try.f23 6) nL := all_eq (by kernel_rfl) all_nil
  exact h31.of (fun s1 s2 s3 s4 s5 s6 s7 s8 s9 s10 s11 s12 s13 => J [(24000006, .undef), (1, I s1), (2, I s2), (3, I s3), (4, .d (.sl .bool) s4), (5, .ptr 0 0 []), (11, I s5), (13, B s6), (17, .d (.sl w0) s7), (18, I s8), (19, I s9), (29, .d (.sl w7) s10), (30, I s11), (31, I s12)] [.one w1 (.d w1 s13)]) (fun s1 s2 s3 s4 s5 s6 s7 s8 s9 s10 s11 s12 s13 hb => loop_round2 nS (inlOK _) hp hJ (by kernel_rfl) hb)
abbrev S41 : wS := [(22, none, sp22)]
theorem hS41 : SpecOK E (ofL S41) := specOK_cons h22 specOK_nil
def sp41 : Sp := fun args τ K => dD w1 args fun x1 r1 => dD wI r1 fun x2 r2 => dD wI r2 fun x3 r3 => asNil r3 <| asNil τ <| c41 x1 x2 x3 (fun z1 => K (B z1) [])
theorem h41 : ∀ args τ K, sp41 args τ K → ACall E 41 args τ K := by
  intro args τ K h0
  obtain ⟨x1, x2, x3, r3, rfl, h6⟩ := cDDD h0
  obtain ⟨rfl, rfl, h8⟩ := cM h6
  exact ACall.spec2 (fn := Try.f41) (c := codeOf Try.f41) (L := lofL nL) hS41 (by kernel_rfl) (by kernel_rfl) (inlOK _) (all_eq (by kernel_rfl) all_nil) (by kernel_rfl) h8.of
abbrev Sl23r2 : wS := [(25, none, sp25), (41, none, sp41)]
theorem hSl23r2 : SpecOK E (ofL Sl23r2) := specOK_cons h25 (specOK_cons h41 specOK_nil)
abbrev Ll23r2 : wL := [(24000006, [1, 2, 3, 4, 5, 11, 13, 17, 18, 19, 29, 30, 31], none, lsl23r6)]
def lsl23r2 : LSp := fun vs σ K => dD wI vs fun s1 r1 => dD wI r1 fun s2 r2 => dD wI r2 fun s3 r3 => dD (.sl .bool) r3 fun s4 r4 => dP (.ptr 0 0 []) r4 fun r5 => dD (.sl w0) r5 fun s5 r6 => dD wI r6 fun s6 r7 => dD wI r7 fun s7 r8 => asNil r8 <| dO w1 w1 σ fun s8 r9 => asNil r9 <| l23r2 (fun z1 => K .ret [(10, B z1)] []) (K (.exit 0) [(10, .undef)] []) s1 s2 s3 s4 s5 s6 s7 s8
theorem l23r2v : LoopV E wF (E.info 23).keep 0 Try.f23.ntmps 24000002 (body Try.f23 2) ([1, 2, 3, 4, 5, 17, 18, 19], lsl23r2) := by
  intro vs σ K h0
  obtain ⟨s1, s2, s3, s4, r4, rfl, h8⟩ := cDDDD h0
  obtain ⟨s5, s6, s7, r8, rfl, h16⟩ := cPDDD h8
  obtain ⟨rfl, h17⟩ := cN h16
  obtain ⟨s8, r9, rfl, h20⟩ := oD h17
  obtain ⟨rfl, h21⟩ := cN h20
  intro J hJ
  have hp : wH 23 Try.f23 (body Try.f23 2) Ll23r2 := all_eq (by kernel_rfl : subsOf (E.info 23).keep (body Try.f23 2) = [.loop (body Try.f23 6)]) (all_cons (loopOK_of (mk := 24000006) (sl := [1, 2, 3, 4, 5, 11, 13, 17, 18, 19, 29, 30, 31]) (ss := [([1, 2, 3, 4, 5, 11, 13, 17, 18, 19, 29, 30, 31], lsl23r6)]) (by kernel_rfl) (by kernel_rfl) (all_cons l23r6v all_nil)) all_nil)
  exact h21.of (fun s1 s2 s3 s4 s5 s6 s7 s8 => J [(24000002, .undef), (1, I s1), (2, I s2), (3, I s3), (4, .d (.sl .bool) s4), (5, .ptr 0 0 []), (17, .d (.sl w0) s5), (18, I s6), (19, I s7)] [.one w1 (.d w1 s8)]) (fun s1 s2 s3 s4 s5 s6 s7 s8 hb => loop_round2 hSl23r2 (inlOK _) hp hJ (by kernel_rfl) hb)
abbrev L23 : wL := [(24000002, [1, 2, 3, 4, 5, 17, 18, 19], none, lsl23r2)]
def sp23 : Sp := fun args τ K => dD w1 args fun x1 r1 => dD wI r1 fun x2 r2 => dD wI r2 fun x3 r3 => dD wI r3 fun x4 r4 => dD (.sl .bool) r4 fun x5 r5 => asNil r5 <| asNil τ <| c23 x1 x2 x3 x4 x5 (fun z1 => K (B z1) [])
theorem h23 : ∀ args τ K, sp23 args τ K → ACall E 23 args τ K := by
  intro args τ K h0
  obtain ⟨x1, x2, x3, x4, r4, rfl, h8⟩ := cDDDD h0
  obtain ⟨x5, r5, rfl, h10⟩ := cD h8
  obtain ⟨rfl, rfl, h12⟩ := cM h10
  exact ACall.spec2 (fn := Try.f23) (c := codeOf Try.f23) (L := lofL L23) nS (by kernel_rfl) (by kernel_rfl) (inlOK _) (all_eq (by kernel_rfl : subsOf (E.info 23).keep (codeOf Try.f23) = [.loop (body Try.f23 2)]) (all_cons (loopOK_of (mk := 24000002) (sl := [1, 2, 3, 4, 5, 17, 18, 19]) (ss := [([1, 2, 3, 4, 5, 17, 18, 19], lsl23r2)]) (by kernel_rfl) (by kernel_rfl) (all_cons l23r2v all_nil)) all_nil)) (by kernel_rfl) h12.of
abbrev Sl9r24 : wS := [(23, none, sp23)]
theorem hSl9r24 : SpecOK E (ofL Sl9r24) := specOK_cons h23 specOK_nil
def lsl9r24 : LSp := fun vs σ K => dP (.ptr 0 0 []) vs fun r1 => dP (.vec 1) r1 fun r2 => dD wI r2 fun s1 r3 => dP (.ptr 2 0 []) r3 fun r4 => dD wI r4 fun s2 r5 => dD (.sl w0) r5 fun s3 r6 => dD wI r6 fun s4 r7 => dD wI r7 fun s5 r8 => dD (.sl w7) r8 fun s6 r9 => dD wI r9 fun s7 r10 => dD wI r10 fun s8 r11 => dD (.sl wI) r11 fun s9 r12 => dD wI r12 fun s10 r13 => dD wI r13 fun s11 r14 => asNil r14 <| dO w1 w1 σ fun s12 r15 => dR .bool false r15 fun s13 r17 => dO w0 w0 r17 fun s14 r18 => asNil r18 <| l9r24 (fun z1 => K .ret [(1, .undef), (2, I z1), (7, .undef), (8, .undef), (9, .undef), (62, .undef), (63, .undef), (64, .undef), (70, .undef), (71, .undef), (72, .undef)] []) (fun z1 z2 z3 z4 z5 z6 z7 z8 z9 z10 => K (.exit 6) [(1, .ptr 0 0 []), (2, .undef), (7, .vec 1), (8, I z1), (9, .ptr 2 0 []), (62, .d (.sl w0) z2), (63, I z3), (64, I z4), (70, .d (.sl w7) z5), (71, I z6), (72, I z7)] [.one w1 (.d w1 z8), .row .bool z9 false, .one w0 (.d w0 z10)]) s1 s2 s3 s4 s5 s6 s7 s8 s9 s10 s11 s12 s13 s14
theorem l9r24v : LoopV E wF (E.info 9).keep 0 Try.f9.ntmps 10000024 (body Try.f9 24) ([1, 7, 8, 9, 10, 62, 63, 64, 70, 71, 72, 78, 79, 80], lsl9r24) := by
  intro vs σ K h0
  obtain ⟨s1, r4, rfl, h8⟩ := cPPDP h0
  obtain ⟨s2, s3, s4, s5, r8, rfl, h16⟩ := cDDDD h8
  obtain ⟨s6, s7, s8, s9, r12, rfl, h24⟩ := cDDDD h16
  obtain ⟨s10, s11, r14, rfl, h28⟩ := cDD h24
  obtain ⟨rfl, h29⟩ := cN h28
  obtain ⟨s12, r15, rfl, h32⟩ := oD h29
  obtain ⟨s13, r17, rfl, h34⟩ := cR h32
  obtain ⟨s14, r18, rfl, h37⟩ := oD h34
  obtain ⟨rfl, h38⟩ := cN h37
  intro J hJ
  have hp : wH 9 Try.f9 (body Try.f9 24) nL := all_eq (by kernel_rfl) all_nil
  exact h38.of (fun s1 s2 s3 s4 s5 s6 s7 s8 s9 s10 s11 s12 s13 s14 => J [(10000024, .undef), (1, .ptr 0 0 []), (7, .vec 1), (8, I s1), (9, .ptr 2 0 []), (10, I s2), (62, .d (.sl w0) s3), (63, I s4), (64, I s5), (70, .d (.sl w7) s6), (71, I s7), (72, I s8), (78, .d (.sl wI) s9), (79, I s10), (80, I s11)] [.one w1 (.d w1 s12), .row .bool s13 false, .one w0 (.d w0 s14)]) (fun s1 s2 s3 s4 s5 s6 s7 s8 s9 s10 s11 s12 s13 s14 hb => loop_round2 hSl9r24 (inlOK _) hp hJ (by kernel_rfl) hb)
abbrev Ll9r21 : wL := [(10000024, [1, 7, 8, 9, 10, 62, 63, 64, 70, 71, 72, 78, 79, 80], none, lsl9r24)]
def lsl9r21 : LSp := fun vs σ K => dP (.ptr 0 0 []) vs fun r1 => dP (.vec 1) r1 fun r2 => dD wI r2 fun s1 r3 => dP (.ptr 2 0 []) r3 fun r4 => dD (.sl w0) r4 fun s2 r5 => dD wI r5 fun s3 r6 => dD wI r6 fun s4 r7 => dD (.sl w7) r7 fun s5 r8 => dD wI r8 fun s6 r9 => dD wI r9 fun s7 r10 => asNil r10 <| dO w1 w1 σ fun s8 r11 => dR .bool false r11 fun s9 r13 => dO w0 w0 r13 fun s10 r14 => asNil r14 <| l9r21 (fun z1 => K .ret [(1, .undef), (2, I z1), (7, .undef), (8, .undef), (9, .undef), (62, .undef), (63, .undef), (64, .undef)] []) (fun z1 z2 z3 z4 z5 z6 z7 => K (.exit 4) [(1, .ptr 0 0 []), (2, .undef), (7, .vec 1), (8, I z1), (9, .ptr 2 0 []), (62, .d (.sl w0) z2), (63, I z3), (64, I z4)] [.one w1 (.d w1 z5), .row .bool z6 false, .one w0 (.d w0 z7)]) s1 s2 s3 s4 s5 s6 s7 s8 s9 s10
theorem l9r21v : LoopV E wF (E.info 9).keep 0 Try.f9.ntmps 10000021 (body Try.f9 21) ([1, 7, 8, 9, 62, 63, 64, 70, 71, 72], lsl9r21) := by
  intro vs σ K h0
  obtain ⟨s1, r4, rfl, h8⟩ := cPPDP h0
  obtain ⟨s2, s3, s4, s5, r8, rfl, h16⟩ := cDDDD h8
  obtain ⟨s6, s7, r10, rfl, h20⟩ := cDD h16
  obtain ⟨rfl, h21⟩ := cN h20
  obtain ⟨s8, r11, rfl, h24⟩ := oD h21
  obtain ⟨s9, r13, rfl, h26⟩ := cR h24
  obtain ⟨s10, r14, rfl, h29⟩ := oD h26
  obtain ⟨rfl, h30⟩ := cN h29
  intro J hJ
  have hp : wH 9 Try.f9 (body Try.f9 21) Ll9r21 := all_eq (by kernel_rfl : subsOf (E.info 9).keep (body Try.f9 21) = [.loop (body Try.f9 24)]) (all_cons (loopOK_of (mk := 10000024) (sl := [1, 7, 8, 9, 10, 62, 63, 64, 70, 71, 72, 78, 79, 80]) (ss := [([1, 7, 8, 9, 10, 62, 63, 64, 70, 71, 72, 78, 79, 80], lsl9r24)]) (by kernel_rfl) (by kernel_rfl) (all_cons l9r24v all_nil)) all_nil)
  exact h30.of (fun s1 s2 s3 s4 s5 s6 s7 s8 s9 s10 => J [(10000021, .undef), (1, .ptr 0 0 []), (7, .vec 1), (8, I s1), (9, .ptr 2 0 []), (62, .d (.sl w0) s2), (63, I s3), (64, I s4), (70, .d (.sl w7) s5), (71, I s6), (72, I s7)] [.one w1 (.d w1 s8), .row .bool s9 false, .one w0 (.d w0 s10)]) (fun s1 s2 s3 s4 s5 s6 s7 s8 s9 s10 hb => loop_round2 nS (inlOK _) hp hJ (by kernel_rfl) hb)
def lsl24r5 : LSp := fun vs σ K => dP (.vec 0) vs fun r1 => dD (.sl w5) r1 fun s1 r2 => dD wI r2 fun s2 r3 => dD wI r3 fun s3 r4 => asNil r4 <| dR wI false σ fun s4 r5 => asNil r5 <| l24r5 (fun z1 => K (.exit 0) [(3, .vec 0)] [.row wI z1 false]) s1 s2 s3 s4
theorem l24r5v : LoopV E wF (E.info 24).keep 0 Try.f24.ntmps 25000005 (body Try.f24 5) ([3, 25, 26, 27], lsl24r5) := by
  intro vs σ K h0
  obtain ⟨s1, s2, s3, r4, rfl, h8⟩ := cPDDD h0
  obtain ⟨rfl, h9⟩ := cN h8
  obtain ⟨s4, r5, rfl, h11⟩ := cR h9
  obtain ⟨rfl, h12⟩ := cN h11
  intro J hJ
  have hp : wH 24 Try.f24 (body Try.f24 5) nL := all_eq (by kernel_rfl) all_nil
  exact h12.of (fun s1 s2 s3 s4 => J [(25000005, .undef), (3, .vec 0), (25, .d (.sl w5) s1), (26, I s2), (27, I s3)] [.row wI s4 false]) (fun s1 s2 s3 s4 hb => loop_round2 nS (inlOK _) hp hJ (by kernel_rfl) hb)
abbrev L24 : wL := [(25000005, [3, 25, 26, 27], none, lsl24r5)]
def sp24 : Sp := fun args τ K => dD w2 args fun x1 r1 => asNil r1 <| asNil τ <| c24 x1 (fun z1 => K (.vec 0) [.row wI z1 false])
theorem h24 : ∀ args τ K, sp24 args τ K → ACall E 24 args τ K := by
  intro args τ K h0
  obtain ⟨x1, r1, rfl, h2⟩ := cD h0
  obtain ⟨rfl, rfl, h4⟩ := cM h2
  exact ACall.spec2 (fn := Try.f24) (c := codeOf Try.f24) (L := lofL L24) nS (by kernel_rfl) (by kernel_rfl) (inlOK _) (all_eq (by kernel_rfl : subsOf (E.info 24).keep (codeOf Try.f24) = [.loop (body Try.f24 5)]) (all_cons (loopOK_of (mk := 25000005) (sl := [3, 25, 26, 27]) (ss := [([3, 25, 26, 27], lsl24r5)]) (by kernel_rfl) (by kernel_rfl) (all_cons l24r5v all_nil)) all_nil)) (by kernel_rfl) h4.of
abbrev Sl9r31 : wS := [(23, none, sp23)]
theorem hSl9r31 : SpecOK E (ofL Sl9r31) := specOK_cons h23 specOK_nil
def lsl9r31 : LSp := fun vs σ K => dP (.ptr 0 0 []) vs fun r1 => dP (.vec 1) r1 fun r2 => dD wI r2 fun s1 r3 => dP (.ptr 2 0 []) r3 fun r4 => dD (.sl w0) r4 fun s2 r5 => dD wI r5 fun s3 r6 => dD wI r6 fun s4 r7 => dP (.vec 3) r7 fun r8 => dD wI r8 fun s5 r9 => dD wI r9 fun s6 r10 => asNil r10 <| dO w1 w1 σ fun s7 r11 => dR .bool false r11 fun s8 r13 => dO w0 w0 r13 fun s9 r14 => dR wI false r14 fun s10 r16 => asNil r16 <| l9r31 (fun z1 => K .ret [(1, .undef), (2, I z1), (7, .undef), (62, .undef), (63, .undef), (64, .undef)] []) (fun z1 z2 z3 z4 z5 => K (.exit 8) [(1, .ptr 0 0 []), (2, .undef), (7, .vec 1), (62, .d (.sl w0) z1), (63, I z2), (64, I z3)] [.one w1 (.d w1 z4), .row .bool z5 false]) s1 s2 s3 s4 s5 s6 s7 s8 s9 s10
theorem l9r31v : LoopV E wF (E.info 9).keep 0 Try.f9.ntmps 10000031 (body Try.f9 31) ([1, 7, 8, 9, 62, 63, 64, 95, 96, 97], lsl9r31) := by
  intro vs σ K h0
  obtain ⟨s1, r4, rfl, h8⟩ := cPPDP h0
  obtain ⟨s2, s3, s4, r8, rfl, h16⟩ := cDDDP h8
  obtain ⟨s5, s6, r10, rfl, h20⟩ := cDD h16
  obtain ⟨rfl, h21⟩ := cN h20
  obtain ⟨s7, r11, rfl, h24⟩ := oD h21
  obtain ⟨s8, r13, rfl, h26⟩ := cR h24
  obtain ⟨s9, r14, rfl, h29⟩ := oD h26
  obtain ⟨s10, r16, rfl, h31⟩ := cR h29
  obtain ⟨rfl, h32⟩ := cN h31
  intro J hJ
  have hp : wH 9 Try.f9 (body Try.f9 31) nL := all_eq (by kernel_rfl) all_nil
  exact h32.of (fun s1 s2 s3 s4 s5 s6 s7 s8 s9 s10 => J [(10000031, .undef), (1, .ptr 0 0 []), (7, .vec 1), (8, I s1), (9, .ptr 2 0 []), (62, .d (.sl w0) s2), (63, I s3), (64, I s4), (95, .vec 3), (96, I s5), (97, I s6)] [.one w1 (.d w1 s7), .row .bool s8 false, .one w0 (.d w0 s9), .row wI s10 false]) (fun s1 s2 s3 s4 s5 s6 s7 s8 s9 s10 hb => loop_round2 hSl9r31 (inlOK _) hp hJ (by kernel_rfl) hb)
abbrev Sl9r18 : wS := [(24, none, sp24)]
theorem hSl9r18 : SpecOK E (ofL Sl9r18) := specOK_cons h24 specOK_nil
abbrev Ll9r18 : wL := [(10000021, [1, 7, 8, 9, 62, 63, 64, 70, 71, 72], none, lsl9r21), (10000031, [1, 7, 8, 9, 62, 63, 64, 95, 96, 97], none, lsl9r31)]
def lsl9r18 : LSp := fun vs σ K => dP (.ptr 0 0 []) vs fun r1 => dP (.vec 1) r1 fun r2 => dD (.sl w0) r2 fun s1 r3 => dD wI r3 fun s2 r4 => dD wI r4 fun s3 r5 => asNil r5 <| dO w1 w1 σ fun s4 r6 => dR .bool false r6 fun s5 r8 => asNil r8 <| l9r18 (fun z1 => K .ret [(2, I z1)] []) (K (.exit 2) [(2, .undef)] []) s1 s2 s3 s4 s5
theorem l9r18v : LoopV E wF (E.info 9).keep 0 Try.f9.ntmps 10000018 (body Try.f9 18) ([1, 7, 62, 63, 64], lsl9r18) := by
  intro vs σ K h0
  obtain ⟨s1, s2, r4, rfl, h8⟩ := cPPDD h0
  obtain ⟨s3, r5, rfl, h10⟩ := cD h8
  obtain ⟨rfl, h11⟩ := cN h10
  obtain ⟨s4, r6, rfl, h14⟩ := oD h11
  obtain ⟨s5, r8, rfl, h16⟩ := cR h14
  obtain ⟨rfl, h17⟩ := cN h16
  intro J hJ
  have hp : wH 9 Try.f9 (body Try.f9 18) Ll9r18 := all_eq (by kernel_rfl : subsOf (E.info 9).keep (body Try.f9 18) = [.loop (body Try.f9 21), .loop (body Try.f9 31)]) (all_cons (loopOK_of (mk := 10000021) (sl := [1, 7, 8, 9, 62, 63, 64, 70, 71, 72]) (ss := [([1, 7, 8, 9, 62, 63, 64, 70, 71, 72], lsl9r21)]) (by kernel_rfl) (by kernel_rfl) (all_cons l9r21v all_nil)) (all_cons (loopOK_of (mk := 10000031) (sl := [1, 7, 8, 9, 62, 63, 64, 95, 96, 97]) (ss := [([1, 7, 8, 9, 62, 63, 64, 95, 96, 97], lsl9r31)]) (by kernel_rfl) (by kernel_rfl) (all_cons l9r31v all_nil)) all_nil))
  exact h17.of (fun s1 s2 s3 s4 s5 => J [(10000018, .undef), (1, .ptr 0 0 []), (7, .vec 1), (62, .d (.sl w0) s1), (63, I s2), (64, I s3)] [.one w1 (.d w1 s4), .row .bool s5 false]) (fun s1 s2 s3 s4 s5 hb => loop_round2 hSl9r18 (inlOK _) hp hJ (by kernel_rfl) hb)
abbrev S9 : wS := [(20, none, sp20), (21, none, sp21), (22, none, sp22)]
theorem hS9 : SpecOK E (ofL S9) := specOK_cons h20 (specOK_cons h21 (specOK_cons h22 specOK_nil))
abbrev L9 : wL := [(10000003, [1, 3, 17, 18, 19], none, lsl9r3), (10000018, [1, 7, 62, 63, 64], none, lsl9r18)]
def sp9 : Sp := fun args τ K => dD w1 args fun x1 r1 => asNil r1 <| asNil τ <| c9 x1 (fun z1 => K (I z1) [])
theorem h9 : ∀ args τ K, sp9 args τ K → ACall E 9 args τ K := by
  intro args τ K h0
  obtain ⟨x1, r1, rfl, h2⟩ := cD h0
  obtain ⟨rfl, rfl, h4⟩ := cM h2
  exact ACall.spec2 (fn := Try.f9) (c := codeOf Try.f9) (L := lofL L9) hS9 (by kernel_rfl) (by kernel_rfl) (inlOK _) (all_eq (by kernel_rfl : subsOf (E.info 9).keep (codeOf Try.f9) = [.loop (body Try.f9 3), .loop (body Try.f9 18)]) (all_cons (loopOK_of (mk := 10000003) (sl := [1, 3, 17, 18, 19]) (ss := [([1, 3, 17, 18, 19], lsl9r3)]) (by kernel_rfl) (by kernel_rfl) (all_cons l9r3v all_nil)) (all_cons (loopOK_of (mk := 10000018) (sl := [1, 7, 62, 63, 64]) (ss := [([1, 7, 62, 63, 64], lsl9r18)]) (by kernel_rfl) (by kernel_rfl) (all_cons l9r18v all_nil)) all_nil))) (by kernel_rfl) h4.of
abbrev Sl10r9 : wS := [(25, none, sp25)]
theorem hSl10r9 : SpecOK E (ofL Sl10r9) := specOK_cons h25 specOK_nil
def lsl10r9 : LSp := fun vs σ K => dD wI vs fun s1 r1 => dP (.ptr 0 0 []) r1 fun r2 => dP (.vec 1) r2 fun r3 => asCons r3 fun a4 r4 => asSl 2 false a4 fun s2 s3 s4 => dP (.ptr 3 0 []) r4 fun r5 => dD .bool r5 fun s5 r6 => dD wI r6 fun s6 r7 => asNil r7 <| dO w1 w1 σ fun s7 r8 => dR .bool false r8 fun s8 r10 => dR w6 false r10 fun s9 r11 => dO w0 w0 r11 fun s10 r12 => asNil r12 <| l10r9 (fun z1 => K .ret [(1, .undef), (4, .undef), (8, B z1), (9, .undef), (10, .undef), (12, .undef), (13, .undef)] []) (fun z1 z2 z3 z4 z5 z6 z7 z8 z9 => K (.exit 2) [(1, I z1), (4, .ptr 0 0 []), (8, .undef), (9, .vec 1), (10, .sl 2 z2 z3 z4 false), (12, .ptr 3 0 []), (13, B z5)] [.one w1 (.d w1 z6), .row .bool z7 false, .row w6 z8 false, .one w0 (.d w0 z9)]) s1 s2 s3 s4 s5 s6 s7 s8 s9 s10
theorem l10r9v : LoopV E wF (E.info 10).keep 0 Try.f10.ntmps 11000009 (body Try.f10 9) ([1, 4, 9, 10, 12, 13, 14], lsl10r9) := by
  intro vs σ K h0
  obtain ⟨s1, r3, rfl, h6⟩ := cDPP h0
  obtain ⟨a4, r4, rfl, h7⟩ := asCons_inv h6
  obtain ⟨s2, s3, s4, rfl, h8⟩ := asSl_inv h7
  obtain ⟨s5, s6, r7, rfl, h14⟩ := cPDD h8
  obtain ⟨rfl, h15⟩ := cN h14
  obtain ⟨s7, r8, rfl, h18⟩ := oD h15
  obtain ⟨s8, r10, rfl, h20⟩ := cR h18
  obtain ⟨s9, r11, rfl, h22⟩ := cR h20
  obtain ⟨s10, r12, rfl, h25⟩ := oD h22
  obtain ⟨rfl, h26⟩ := cN h25
  intro J hJ
  have hp : wH 10 Try.f10 (body Try.f10 9) nL := all_eq (by kernel_rfl) all_nil
  exact h26.of (fun s1 s2 s3 s4 s5 s6 s7 s8 s9 s10 => J [(11000009, .undef), (1, I s1), (4, .ptr 0 0 []), (9, .vec 1), (10, .sl 2 s2 s3 s4 false), (12, .ptr 3 0 []), (13, B s5), (14, I s6)] [.one w1 (.d w1 s7), .row .bool s8 false, .row w6 s9 false, .one w0 (.d w0 s10)]) (fun s1 s2 s3 s4 s5 s6 s7 s8 s9 s10 hb => loop_round2 hSl10r9 (inlOK _) hp hJ (by kernel_rfl) hb)
abbrev Sl10r18 : wS := [(25, none, sp25)]
theorem hSl10r18 : SpecOK E (ofL Sl10r18) := specOK_cons h25 specOK_nil
def lsl10r18 : LSp := fun vs σ K => dD wI vs fun s1 r1 => dP (.ptr 0 0 []) r1 fun r2 => dP (.vec 1) r2 fun r3 => asCons r3 fun a4 r4 => asSl 2 false a4 fun s2 s3 s4 => dD (.sl w5) r4 fun s5 r5 => dD wI r5 fun s6 r6 => dD wI r6 fun s7 r7 => asNil r7 <| dO w1 w1 σ fun s8 r8 => dR .bool false r8 fun s9 r10 => dR w6 false r10 fun s10 r11 => asNil r11 <| l10r18 (fun z1 z2 z3 z4 z5 z6 z7 => K (.exit 4) [(1, I z1), (4, .ptr 0 0 []), (9, .vec 1), (10, .sl 2 z2 z3 z4 false)] [.one w1 (.d w1 z5), .row .bool z6 false, .row w6 z7 false]) (fun z1 z2 z3 z4 => K (.exit 4) [(1, I z1), (4, .ptr 0 0 []), (9, .vec 1), (10, .vec 2)] [.one w1 (.d w1 z2), .row .bool z3 false, .row w6 z4 false]) s1 s2 s3 s4 s5 s6 s7 s8 s9 s10
theorem l10r18v : LoopV E wF (E.info 10).keep 0 Try.f10.ntmps 11000018 (body Try.f10 18) ([1, 4, 9, 10, 82, 83, 84], lsl10r18) := by
  intro vs σ K h0
  obtain ⟨s1, r3, rfl, h6⟩ := cDPP h0
  obtain ⟨a4, r4, rfl, h7⟩ := asCons_inv h6
  obtain ⟨s2, s3, s4, rfl, h8⟩ := asSl_inv h7
  obtain ⟨s5, s6, s7, r7, rfl, h14⟩ := cDDD h8
  obtain ⟨rfl, h15⟩ := cN h14
  obtain ⟨s8, r8, rfl, h18⟩ := oD h15
  obtain ⟨s9, r10, rfl, h20⟩ := cR h18
  obtain ⟨s10, r11, rfl, h22⟩ := cR h20
  obtain ⟨rfl, h23⟩ := cN h22
  intro J hJ
  have hp : wH 10 Try.f10 (body Try.f10 18) nL := all_eq (by kernel_rfl) all_nil
  exact h23.of (fun s1 s2 s3 s4 s5 s6 s7 s8 s9 s10 => J [(11000018, .undef), (1, I s1), (4, .ptr 0 0 []), (9, .vec 1), (10, .sl 2 s2 s3 s4 false), (82, .d (.sl w5) s5), (83, I s6), (84, I s7)] [.one w1 (.d w1 s8), .row .bool s9 false, .row w6 s10 false]) (fun s16 s17 s18 s19 s20 s21 s22 => J [(11000018, .undef), (1, I s16), (4, .ptr 0 0 []), (9, .vec 1), (10, .vec 2), (82, .d (.sl w5) s17), (83, I s18), (84, I s19)] [.one w1 (.d w1 s20), .row .bool s21 false, .row w6 s22 false]) (fun s1 s2 s3 s4 s5 s6 s7 s8 s9 s10 hb => loop_round2 hSl10r18 (inlOK _) hp hJ (by kernel_rfl) hb) (fun s16 s17 s18 s19 s20 s21 s22 hb => loop_round2 hSl10r18 (inlOK _) hp hJ (by kernel_rfl) hb)
abbrev Sl10r3 : wS := [(24, none, sp24), (25, none, sp25)]
theorem hSl10r3 : SpecOK E (ofL Sl10r3) := specOK_cons h24 (specOK_cons h25 specOK_nil)
abbrev Ll10r3 : wL := [(11000009, [1, 4, 9, 10, 12, 13, 14], none, lsl10r9), (11000018, [1, 4, 9, 10, 82, 83, 84], none, lsl10r18)]
def lsl10r3 : LSp := fun vs σ K => dD wI vs fun s1 r1 => dP (.ptr 0 0 []) r1 fun r2 => dP (.vec 1) r2 fun r3 => dP (.vec 2) r3 fun r4 => asNil r4 <| dO w1 w1 σ fun s2 r5 => dR .bool false r5 fun s3 r7 => dR w6 false r7 fun s4 r8 => asNil r8 <| l10r3 (fun z1 => K .ret [(8, B z1)] []) (K (.exit 0) [(8, .undef)] []) s1 s2 s3 s4
theorem l10r3v : LoopV E wF (E.info 10).keep 0 Try.f10.ntmps 11000003 (body Try.f10 3) ([1, 4, 9, 10], lsl10r3) := by
  intro vs σ K h0
  obtain ⟨s1, r4, rfl, h8⟩ := cDPPP h0
  obtain ⟨rfl, h9⟩ := cN h8
  obtain ⟨s2, r5, rfl, h12⟩ := oD h9
  obtain ⟨s3, r7, rfl, h14⟩ := cR h12
  obtain ⟨s4, r8, rfl, h16⟩ := cR h14
  obtain ⟨rfl, h17⟩ := cN h16
  intro J hJ
  have hp : wH 10 Try.f10 (body Try.f10 3) Ll10r3 := all_eq (by kernel_rfl : subsOf (E.info 10).keep (body Try.f10 3) = [.loop (body Try.f10 9), .loop (body Try.f10 18)]) (all_cons (loopOK_of (mk := 11000009) (sl := [1, 4, 9, 10, 12, 13, 14]) (ss := [([1, 4, 9, 10, 12, 13, 14], lsl10r9)]) (by kernel_rfl) (by kernel_rfl) (all_cons l10r9v all_nil)) (all_cons (loopOK_of (mk := 11000018) (sl := [1, 4, 9, 10, 82, 83, 84]) (ss := [([1, 4, 9, 10, 82, 83, 84], lsl10r18)]) (by kernel_rfl) (by kernel_rfl) (all_cons l10r18v all_nil)) all_nil))
  exact h17.of (fun s1 s2 s3 s4 => J [(11000003, .undef), (1, I s1), (4, .ptr 0 0 []), (9, .vec 1), (10, .vec 2)] [.one w1 (.d w1 s2), .row .bool s3 false, .row w6 s4 false]) (fun s30 s31 s32 s33 s34 s35 s36 => J [(11000003, .undef), (1, I s30), (4, .ptr 0 0 []), (9, .vec 1), (10, .sl 2 s31 s32 s33 false)] [.one w1 (.d w1 s34), .row .bool s35 false, .row w6 s36 false]) (fun s1 s2 s3 s4 hb => loop_round2 hSl10r3 (inlOK _) hp hJ (by kernel_rfl) hb) (fun s30 s31 s32 s33 s34 s35 s36 hb => loop_round2 hSl10r3 (inlOK _) hp hJ (by kernel_rfl) hb)
abbrev L10 : wL := [(11000003, [1, 4, 9, 10], none, lsl10r3)]
def sp10 : Sp := fun args τ K => dD w1 args fun x1 r1 => dD wI r1 fun x2 r2 => dD wI r2 fun x3 r3 => dD wI r3 fun x4 r4 => asNil r4 <| asNil τ <| c10 x1 x2 x3 x4 (fun z1 => K (B z1) [])
theorem h10 : ∀ args τ K, sp10 args τ K → ACall E 10 args τ K := by
  intro args τ K h0
  obtain ⟨x1, x2, x3, x4, r4, rfl, h8⟩ := cDDDD h0
  obtain ⟨rfl, rfl, h10⟩ := cM h8
  exact ACall.spec2 (fn := Try.f10) (c := codeOf Try.f10) (L := lofL L10) nS (by kernel_rfl) (by kernel_rfl) (inlOK _) (all_eq (by kernel_rfl : subsOf (E.info 10).keep (codeOf Try.f10) = [.loop (body Try.f10 3)]) (all_cons (loopOK_of (mk := 11000003) (sl := [1, 4, 9, 10]) (ss := [([1, 4, 9, 10], lsl10r3)]) (by kernel_rfl) (by kernel_rfl) (all_cons l10r3v all_nil)) all_nil)) (by kernel_rfl) h10.of
abbrev Sl3r18 : wS := [(10, none, sp10)]
theorem hSl3r18 : SpecOK E (ofL Sl3r18) := specOK_cons h10 specOK_nil
def lsl3r18 : LSp := fun vs σ K => dD wI vs fun s1 r1 => dD wI r1 fun s2 r2 => dP (.ptr 0 0 []) r2 fun r3 => dP (.vec 1) r3 fun r4 => dP (.vec 2) r4 fun r5 => dD .bool r5 fun s3 r6 => dD wI r6 fun s4 r7 => dD .bool r7 fun s5 r8 => dD wI r8 fun s6 r9 => dP (.ptr 3 0 []) r9 fun r10 => dP (.vec 4) r10 fun r11 => dP (.vec 5) r11 fun r12 => dD (.sl w0) r12 fun s7 r13 => dD wI r13 fun s8 r14 => dD wI r14 fun s9 r15 => dD wI r15 fun s10 r16 => dD wI r16 fun s11 r17 => asNil r17 <| dO w1 w1 σ fun s12 r18 => asCons r18 fun a20 r20 => asDeep wI a20 fun s13 l21 => asNil l21 <| asCons r20 fun a22 r22 => asDeep wI a22 fun s14 l23 => asNil l23 <| dO w0 w0 r22 fun s15 r24 => dR wI false r24 fun s16 r26 => dR wI false r26 fun s17 r27 => asNil r27 <| l3r18 (fun z1 z2 z3 z4 z5 z6 z7 z8 z9 z10 z11 z12 z13 z14 z15 => K (.exit 2) [(1, I z1), (2, I z2), (3, .ptr 0 0 []), (7, .vec 1), (8, .vec 2), (10, B z3), (11, I z4), (13, B z5), (14, I z6), (15, .ptr 3 0 []), (16, .vec 4), (17, .vec 5), (86, .d (.sl w0) z7), (87, I z8), (88, I z9)] [.one w1 (.d w1 z10), .deep wI z11 [], .deep wI z12 [], .one w0 (.d w0 z13), .row wI z14 false, .row wI z15 false]) s1 s2 s3 s4 s5 s6 s7 s8 s9 s10 s11 s12 s13 s14 s15 s16 s17
theorem l3r18v : LoopV E wF (E.info 3).keep 0 Try.f3.ntmps 4000018 (body Try.f3 18) ([1, 2, 3, 7, 8, 10, 11, 13, 14, 15, 16, 17, 86, 87, 88, 94, 95], lsl3r18) := by
  intro vs σ K h0
  obtain ⟨s1, s2, r4, rfl, h8⟩ := cDDPP h0
  obtain ⟨s3, s4, s5, r8, rfl, h16⟩ := cPDDD h8
  obtain ⟨s6, r12, rfl, h24⟩ := cDPPP h16
  obtain ⟨s7, s8, s9, s10, r16, rfl, h32⟩ := cDDDD h24
  obtain ⟨s11, r17, rfl, h34⟩ := cD h32
  obtain ⟨rfl, h35⟩ := cN h34
  obtain ⟨s12, r18, rfl, h38⟩ := oD h35
  obtain ⟨a20, r20, rfl, h39⟩ := asCons_inv h38
  obtain ⟨s13, l21, rfl, h40⟩ := asDeep_inv h39
  obtain ⟨rfl, h41⟩ := cN h40
  obtain ⟨a22, r22, rfl, h42⟩ := asCons_inv h41
  obtain ⟨s14, l23, rfl, h43⟩ := asDeep_inv h42
  obtain ⟨rfl, h44⟩ := cN h43
  obtain ⟨s15, r24, rfl, h47⟩ := oD h44
  obtain ⟨s16, r26, rfl, h49⟩ := cR h47
  obtain ⟨s17, r27, rfl, h51⟩ := cR h49
  obtain ⟨rfl, h52⟩ := cN h51
  intro J hJ
  have hp : wH 3 Try.f3 (body Try.f3 18) nL := all_eq (by kernel_rfl) all_nil
  exact h52.of (fun s1 s2 s3 s4 s5 s6 s7 s8 s9 s10 s11 s12 s13 s14 s15 s16 s17 => J [(4000018, .undef), (1, I s1), (2, I s2), (3, .ptr 0 0 []), (7, .vec 1), (8, .vec 2), (10, B s3), (11, I s4), (13, B s5), (14, I s6), (15, .ptr 3 0 []), (16, .vec 4), (17, .vec 5), (86, .d (.sl w0) s7), (87, I s8), (88, I s9), (94, I s10), (95, I s11)] [.one w1 (.d w1 s12), .deep wI s13 [], .deep wI s14 [], .one w0 (.d w0 s15), .row wI s16 false, .row wI s17 false]) (fun s1 s2 s3 s4 s5 s6 s7 s8 s9 s10 s11 s12 s13 s14 s15 s16 s17 hb => loop_round2 hSl3r18 (inlOK _) hp hJ (by kernel_rfl) hb)
abbrev Sl3r26 : wS := [(10, none, sp10)]
theorem hSl3r26 : SpecOK E (ofL Sl3r26) := specOK_cons h10 specOK_nil
def lsl3r26 : LSp := fun vs σ K => dD wI vs fun s1 r1 => dD wI r1 fun s2 r2 => dP (.ptr 0 0 []) r2 fun r3 => dP (.vec 1) r3 fun r4 => dP (.vec 2) r4 fun r5 => dD .bool r5 fun s3 r6 => dD wI r6 fun s4 r7 => dD .bool r7 fun s5 r8 => dD wI r8 fun s6 r9 => dP (.ptr 3 0 []) r9 fun r10 => dP (.vec 4) r10 fun r11 => dP (.vec 5) r11 fun r12 => dD wI r12 fun s7 r13 => dD (.sl w0) r13 fun s8 r14 => dD wI r14 fun s9 r15 => dD wI r15 fun s10 r16 => asNil r16 <| dO w1 w1 σ fun s11 r17 => asCons r17 fun a19 r19 => asDeep wI a19 fun s12 l20 => asNil l20 <| asCons r19 fun a21 r21 => asDeep wI a21 fun s13 l22 => asNil l22 <| dO w0 w0 r21 fun s14 r23 => dR wI false r23 fun s15 r25 => dR wI false r25 fun s16 r26 => asNil r26 <| l3r26 (fun z1 z2 z3 z4 z5 z6 z7 z8 z9 z10 z11 z12 z13 z14 => K (.exit 4) [(1, I z1), (2, I z2), (3, .ptr 0 0 []), (7, .vec 1), (8, .vec 2), (10, B z3), (11, I z4), (13, B z5), (14, I z6), (16, .vec 3), (17, .vec 4), (86, .d (.sl w0) z7), (87, I z8), (88, I z9)] [.one w1 (.d w1 z10), .deep wI z11 [], .deep wI z12 [], .row wI z13 false, .row wI z14 false]) s1 s2 s3 s4 s5 s6 s7 s8 s9 s10 s11 s12 s13 s14 s15 s16
theorem l3r26v : LoopV E wF (E.info 3).keep 0 Try.f3.ntmps 4000026 (body Try.f3 26) ([1, 2, 3, 7, 8, 10, 11, 13, 14, 15, 16, 17, 19, 86, 87, 88], lsl3r26) := by
  intro vs σ K h0
  obtain ⟨s1, s2, r4, rfl, h8⟩ := cDDPP h0
  obtain ⟨s3, s4, s5, r8, rfl, h16⟩ := cPDDD h8
  obtain ⟨s6, r12, rfl, h24⟩ := cDPPP h16
  obtain ⟨s7, s8, s9, s10, r16, rfl, h32⟩ := cDDDD h24
  obtain ⟨rfl, h33⟩ := cN h32
  obtain ⟨s11, r17, rfl, h36⟩ := oD h33
  obtain ⟨a19, r19, rfl, h37⟩ := asCons_inv h36
  obtain ⟨s12, l20, rfl, h38⟩ := asDeep_inv h37
  obtain ⟨rfl, h39⟩ := cN h38
  obtain ⟨a21, r21, rfl, h40⟩ := asCons_inv h39
  obtain ⟨s13, l22, rfl, h41⟩ := asDeep_inv h40
  obtain ⟨rfl, h42⟩ := cN h41
  obtain ⟨s14, r23, rfl, h45⟩ := oD h42
  obtain ⟨s15, r25, rfl, h47⟩ := cR h45
  obtain ⟨s16, r26, rfl, h49⟩ := cR h47
  obtain ⟨rfl, h50⟩ := cN h49
  intro J hJ
  have hp : wH 3 Try.f3 (body Try.f3 26) nL := all_eq (by kernel_rfl) all_nil
  exact h50.of (fun s1 s2 s3 s4 s5 s6 s7 s8 s9 s10 s11 s12 s13 s14 s15 s16 => J [(4000026, .undef), (1, I s1), (2, I s2), (3, .ptr 0 0 []), (7, .vec 1), (8, .vec 2), (10, B s3), (11, I s4), (13, B s5), (14, I s6), (15, .ptr 3 0 []), (16, .vec 4), (17, .vec 5), (19, I s7), (86, .d (.sl w0) s8), (87, I s9), (88, I s10)] [.one w1 (.d w1 s11), .deep wI s12 [], .deep wI s13 [], .one w0 (.d w0 s14), .row wI s15 false, .row wI s16 false]) (fun s1 s2 s3 s4 s5 s6 s7 s8 s9 s10 s11 s12 s13 s14 s15 s16 hb => loop_round2 hSl3r26 (inlOK _) hp hJ (by kernel_rfl) hb)
abbrev Sl3r14 : wS := [(6, none, sp6), (11, none, sp11)]
theorem hSl3r14 : SpecOK E (ofL Sl3r14) := specOK_cons h6 (specOK_cons h11 specOK_nil)
abbrev Ll3r14 : wL := [(4000018, [1, 2, 3, 7, 8, 10, 11, 13, 14, 15, 16, 17, 86, 87, 88, 94, 95], none, lsl3r18), (4000026, [1, 2, 3, 7, 8, 10, 11, 13, 14, 15, 16, 17, 19, 86, 87, 88], none, lsl3r26)]
def lsl3r14 : LSp := fun vs σ K => dD wI vs fun s1 r1 => dD wI r1 fun s2 r2 => dP (.ptr 0 0 []) r2 fun r3 => dP (.vec 1) r3 fun r4 => dP (.vec 2) r4 fun r5 => dD .bool r5 fun s3 r6 => dD wI r6 fun s4 r7 => dD .bool r7 fun s5 r8 => dD (.sl w0) r8 fun s6 r9 => dD wI r9 fun s7 r10 => dD wI r10 fun s8 r11 => asNil r11 <| dO w1 w1 σ fun s9 r12 => asCons r12 fun a14 r14 => asDeep wI a14 fun s10 l15 => asNil l15 <| asCons r14 fun a16 r16 => asDeep wI a16 fun s11 l17 => asNil l17 <| asNil r16 <| l3r14 (fun z1 => K .ret [(1, .undef), (2, .undef), (3, .undef), (6, B z1), (10, .undef), (11, .undef), (13, .undef)] []) (fun z1 z2 z3 z4 z5 z6 => K (.exit 0) [(1, I z1), (2, I z2), (3, .ptr 0 0 []), (6, .undef), (10, B z3), (11, I z4), (13, B z5)] [.one w1 (.d w1 z6)]) s1 s2 s3 s4 s5 s6 s7 s8 s9 s10 s11
theorem l3r14v : LoopV E wF (E.info 3).keep 0 Try.f3.ntmps 4000014 (body Try.f3 14) ([1, 2, 3, 7, 8, 10, 11, 13, 86, 87, 88], lsl3r14) := by
  intro vs σ K h0
  obtain ⟨s1, s2, r4, rfl, h8⟩ := cDDPP h0
  obtain ⟨s3, s4, s5, r8, rfl, h16⟩ := cPDDD h8
  obtain ⟨s6, s7, s8, r11, rfl, h22⟩ := cDDD h16
  obtain ⟨rfl, h23⟩ := cN h22
  obtain ⟨s9, r12, rfl, h26⟩ := oD h23
  obtain ⟨a14, r14, rfl, h27⟩ := asCons_inv h26
  obtain ⟨s10, l15, rfl, h28⟩ := asDeep_inv h27
  obtain ⟨rfl, h29⟩ := cN h28
  obtain ⟨a16, r16, rfl, h30⟩ := asCons_inv h29
  obtain ⟨s11, l17, rfl, h31⟩ := asDeep_inv h30
  obtain ⟨rfl, rfl, h33⟩ := cM h31
  intro J hJ
  have hp : wH 3 Try.f3 (body Try.f3 14) Ll3r14 := all_eq (by kernel_rfl : subsOf (E.info 3).keep (body Try.f3 14) = [.loop (body Try.f3 18), .loop (body Try.f3 26)]) (all_cons (loopOK_of (mk := 4000018) (sl := [1, 2, 3, 7, 8, 10, 11, 13, 14, 15, 16, 17, 86, 87, 88, 94, 95]) (ss := [([1, 2, 3, 7, 8, 10, 11, 13, 14, 15, 16, 17, 86, 87, 88, 94, 95], lsl3r18)]) (by kernel_rfl) (by kernel_rfl) (all_cons l3r18v all_nil)) (all_cons (loopOK_of (mk := 4000026) (sl := [1, 2, 3, 7, 8, 10, 11, 13, 14, 15, 16, 17, 19, 86, 87, 88]) (ss := [([1, 2, 3, 7, 8, 10, 11, 13, 14, 15, 16, 17, 19, 86, 87, 88], lsl3r26)]) (by kernel_rfl) (by kernel_rfl) (all_cons l3r26v all_nil)) all_nil))
  exact h33.of (fun s1 s2 s3 s4 s5 s6 s7 s8 s9 s10 s11 => J [(4000014, .undef), (1, I s1), (2, I s2), (3, .ptr 0 0 []), (7, .vec 1), (8, .vec 2), (10, B s3), (11, I s4), (13, B s5), (86, .d (.sl w0) s6), (87, I s7), (88, I s8)] [.one w1 (.d w1 s9), .deep wI s10 [], .deep wI s11 []]) (fun s1 s2 s3 s4 s5 s6 s7 s8 s9 s10 s11 hb => loop_round2 hSl3r14 (inlOK _) hp hJ (by kernel_rfl) hb)
def lsl12r7 : LSp := fun vs σ K => dD wI vs fun s1 r1 => dD (.sl w0) r1 fun s2 r2 => dD wI r2 fun s3 r3 => dD wI r3 fun s4 r4 => dD (.sl w7) r4 fun s5 r5 => dD wI r5 fun s6 r6 => dD wI r6 fun s7 r7 => asNil r7 <| asNil σ <| l12r7 (fun z1 => K .ret [(1, .undef), (4, B z1), (10, .undef), (11, .undef), (12, .undef)] []) (fun z1 z2 z3 z4 => K (.exit 2) [(1, I z1), (4, .undef), (10, .d (.sl w0) z2), (11, I z3), (12, I z4)] []) s1 s2 s3 s4 s5 s6 s7
theorem l12r7v : LoopV E wF (E.info 12).keep 0 Try.f12.ntmps 13000007 (body Try.f12 7) ([1, 10, 11, 12, 21, 22, 23], lsl12r7) := by
  intro vs σ K h0
  obtain ⟨s1, s2, s3, s4, r4, rfl, h8⟩ := cDDDD h0
  obtain ⟨s5, s6, s7, r7, rfl, h14⟩ := cDDD h8
  obtain ⟨rfl, rfl, h16⟩ := cM h14
  intro J hJ
  have hp : wH 12 Try.f12 (body Try.f12 7) nL := all_eq (by kernel_rfl) all_nil
  exact h16.of (fun s1 s2 s3 s4 s5 s6 s7 => J [(13000007, .undef), (1, I s1), (10, .d (.sl w0) s2), (11, I s3), (12, I s4), (21, .d (.sl w7) s5), (22, I s6), (23, I s7)] []) (fun s1 s2 s3 s4 s5 s6 s7 hb => loop_round2 nS (inlOK _) hp hJ (by kernel_rfl) hb)
abbrev Sl12r2 : wS := [(25, none, sp25)]
theorem hSl12r2 : SpecOK E (ofL Sl12r2) := specOK_cons h25 specOK_nil
abbrev Ll12r2 : wL := [(13000007, [1, 10, 11, 12, 21, 22, 23], none, lsl12r7)]
def lsl12r2 : LSp := fun vs σ K => dD wI vs fun s1 r1 => dD (.sl w0) r1 fun s2 r2 => dD wI r2 fun s3 r3 => dD wI r3 fun s4 r4 => asNil r4 <| asNil σ <| l12r2 (fun z1 => K .ret [(4, B z1)] []) (K (.exit 0) [(4, .undef)] []) s1 s2 s3 s4
theorem l12r2v : LoopV E wF (E.info 12).keep 0 Try.f12.ntmps 13000002 (body Try.f12 2) ([1, 10, 11, 12], lsl12r2) := by
  intro vs σ K h0
  obtain ⟨s1, s2, s3, s4, r4, rfl, h8⟩ := cDDDD h0
  obtain ⟨rfl, rfl, h10⟩ := cM h8
  intro J hJ
  have hp : wH 12 Try.f12 (body Try.f12 2) Ll12r2 := all_eq (by kernel_rfl : subsOf (E.info 12).keep (body Try.f12 2) = [.loop (body Try.f12 7)]) (all_cons (loopOK_of (mk := 13000007) (sl := [1, 10, 11, 12, 21, 22, 23]) (ss := [([1, 10, 11, 12, 21, 22, 23], lsl12r7)]) (by kernel_rfl) (by kernel_rfl) (all_cons l12r7v all_nil)) all_nil)
  exact h10.of (fun s1 s2 s3 s4 => J [(13000002, .undef), (1, I s1), (10, .d (.sl w0) s2), (11, I s3), (12, I s4)] []) (fun s1 s2 s3 s4 hb => loop_round2 hSl12r2 (inlOK _) hp hJ (by kernel_rfl) hb)
abbrev L12 : wL := [(13000002, [1, 10, 11, 12], none, lsl12r2)]
def sp12 : Sp := fun args τ K => dD w1 args fun x1 r1 => dD wI r1 fun x2 r2 => asNil r2 <| asNil τ <| c12 x1 x2 (fun z1 => K (B z1) [])
theorem h12 : ∀ args τ K, sp12 args τ K → ACall E 12 args τ K := by
  intro args τ K h0
  obtain ⟨x1, x2, r2, rfl, h4⟩ := cDD h0
  obtain ⟨rfl, rfl, h6⟩ := cM h4
  exact ACall.spec2 (fn := Try.f12) (c := codeOf Try.f12) (L := lofL L12) nS (by kernel_rfl) (by kernel_rfl) (inlOK _) (all_eq (by kernel_rfl : subsOf (E.info 12).keep (codeOf Try.f12) = [.loop (body Try.f12 2)]) (all_cons (loopOK_of (mk := 13000002) (sl := [1, 10, 11, 12]) (ss := [([1, 10, 11, 12], lsl12r2)]) (by kernel_rfl) (by kernel_rfl) (all_cons l12r2v all_nil)) all_nil)) (by kernel_rfl) h6.of
abbrev S3 : wS := [(4, none, sp4), (5, none, sp5), (6, none, sp6), (7, none, sp7v2), (8, none, sp8), (9, none, sp9), (12, none, sp12)]
theorem hS3 : SpecOK E (ofL S3) := specOK_cons h4 (specOK_cons h5 (specOK_cons h6 (specOK_cons h7v2 (specOK_cons h8 (specOK_cons h9 (specOK_cons h12 specOK_nil))))))
abbrev L3 : wL := [(4000014, [1, 2, 3, 7, 8, 10, 11, 13, 86, 87, 88], none, lsl3r14)]
def sp3 : Sp := fun args τ K => dD w1 args fun x1 r1 => dD wI r1 fun x2 r2 => dD wI r2 fun x3 r3 => asNil r3 <| asNil τ <| c3 x1 x2 x3 (fun z1 => K (B z1) [])
theorem h3 : ∀ args τ K, sp3 args τ K → ACall E 3 args τ K := by
  intro args τ K h0
  obtain ⟨x1, x2, x3, r3, rfl, h6⟩ := cDDD h0
  obtain ⟨rfl, rfl, h8⟩ := cM h6
  exact ACall.spec2 (fn := Try.f3) (c := codeOf Try.f3) (L := lofL L3) hS3 (by kernel_rfl) (by kernel_rfl) (inlOK _) (all_eq (by kernel_rfl : subsOf (E.info 3).keep (codeOf Try.f3) = [.loop (body Try.f3 14)]) (all_cons (loopOK_of (mk := 4000014) (sl := [1, 2, 3, 7, 8, 10, 11, 13, 86, 87, 88]) (ss := [([1, 2, 3, 7, 8, 10, 11, 13, 86, 87, 88], lsl3r14)]) (by kernel_rfl) (by kernel_rfl) (all_cons l3r14v all_nil)) all_nil)) (by kernel_rfl) h8.of
end Go.Proofs.Ytlbdabijclkhnaa
