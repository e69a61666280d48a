/- The functions compute that (printed by a program). -/
import Derived.Test.YtgbmfhchieahjaaAD3
import Derived.Test.YtgbmfhchieahjaaAEnvC
import Derived.Test.YtgbmfhchieahjaaAW3a
import Derived.KernelRfl
namespace Go.Proofs.Ytgbmfhchieahjaa
open Go.Abs
set_option maxRecDepth 100000
set_option maxHeartbeats 4000000
set_option linter.unusedVariables false
abbrev L12v2 : wL := [(13000004, [1, 12, 13, 14], none, lsl12r4v2)]
def sp12v2 : Sp := fun args τ K => dP (.vec 0) args fun r1 => dP (.vec 1) r1 fun r2 => asNil r2 <| asCons τ fun a3 r3 => asDeep wI a3 fun x1 l4 => asNil l4 <| asCons r3 fun a5 r5 => asDeep wI a5 fun x2 l6 => asCons l6 fun a7 r7 => asHole 2 a7 fun x3 => asNil r7 <| dR wI true r5 fun x4 r8 => asNil r8 <| c12v2 x1 x2 x3 x4 (fun z1 z2 z3 z4 z5 => K (B z1) [.deep wI z2 [], .deep wI z3 [(z4, 2)], .row wI z5 false])
theorem h12v2 : ∀ args τ K, sp12v2 args τ K → ACall E 12 args τ K := by
  intro args τ K h0
  obtain ⟨r2, rfl, h4⟩ := cPP h0
  obtain ⟨rfl, h5⟩ := cN h4
  obtain ⟨a3, r3, rfl, h6⟩ := asCons_inv h5
  obtain ⟨x1, l4, rfl, h7⟩ := asDeep_inv h6
  obtain ⟨rfl, h8⟩ := cN h7
  obtain ⟨a5, r5, rfl, h9⟩ := asCons_inv h8
  obtain ⟨x2, l6, rfl, h10⟩ := asDeep_inv h9
  obtain ⟨a7, r7, rfl, h11⟩ := asCons_inv h10
  obtain ⟨x3, rfl, h12⟩ := asHole_inv h11
  obtain ⟨rfl, h13⟩ := cN h12
  obtain ⟨x4, r8, rfl, h15⟩ := cR h13
  obtain ⟨rfl, h16⟩ := cN h15
  exact ACall.spec2 (fn := Try.f12) (c := codeOf Try.f12) (L := lofL L12v2) nS (by kernel_rfl) (by kernel_rfl) (inlOK _) (all_eq (by kernel_rfl : subsOf (E.info 12).keep (codeOf Try.f12) = [.loop (body Try.f12 4)]) (all_cons (loopOK_of (mk := 13000004) (sl := [1, 12, 13, 14]) (ss := [([1, 12, 13, 14], lsl12r4v2)]) (by kernel_rfl) (by kernel_rfl) (all_cons l12r4v2v all_nil)) all_nil)) (by kernel_rfl) h16.of
abbrev S4 : wS := [(11, none, sp11), (8, none, sp8), (12, some ([.fix (.vec 0), .fix (.vec 1)], [.deep wI [], .deep wI []]), sp12), (12, some ([.fix (.vec 0), .fix (.vec 1)], [.deep wI [], .deep wI [2], .row wI true]), sp12v2)]
theorem hS4 : SpecOK E (ofL S4) := specOK_cons h11 (specOK_cons h8 (specOK_cons h12 (specOK_cons h12v2 specOK_nil)))
def sp4 : Sp := fun args τ K => asNil args <| asNil τ <| c4  (fun z1 => K (B z1) [])
theorem h4 : ∀ args τ K, sp4 args τ K → ACall E 4 args τ K := by
  intro args τ K h0
  obtain ⟨rfl, rfl, h2⟩ := cM h0
  exact ACall.spec2 (fn := Try.f4) (c := codeOf Try.f4) (L := lofL nL) hS4 (by kernel_rfl) (by kernel_rfl) (inlOK _) (all_eq (by kernel_rfl) all_nil) (by kernel_rfl) h2.of
def lsl6r6 : LSp := fun vs σ K => dD wI vs fun s1 r1 => dP (.ptr 0 0 []) r1 fun r2 => dD (.sl w0) r2 fun s2 r3 => dD wI r3 fun s3 r4 => dD wI r4 fun s4 r5 => dD (.sl wI) r5 fun s5 r6 => dD wI r6 fun s6 r7 => dD wI r7 fun s7 r8 => asNil r8 <| dO w0 w0 σ fun s8 r9 => asNil r9 <| l6r6 (fun z1 z2 z3 z4 z5 => K (.exit 2) [(3, I z1), (5, .ptr 0 0 []), (11, .d (.sl w0) z2), (12, I z3), (13, I z4)] [.one w0 (.d w0 z5)]) s1 s2 s3 s4 s5 s6 s7 s8
theorem l6r6v : LoopV E wF (E.info 6).keep 0 Try.f6.ntmps 7000006 (body Try.f6 6) ([3, 5, 11, 12, 13, 18, 19, 20], lsl6r6) := by
  intro vs σ K h0
  obtain ⟨s1, s2, s3, r4, rfl, h8⟩ := cDPDD h0
  obtain ⟨s4, s5, s6, s7, r8, rfl, h16⟩ := cDDDD h8
  obtain ⟨rfl, h17⟩ := cN h16
  obtain ⟨s8, r9, rfl, h20⟩ := oD h17
  obtain ⟨rfl, h21⟩ := cN h20
  intro J hJ
  have hp : wH 6 Try.f6 (body Try.f6 6) nL := all_eq (by kernel_rfl) all_nil
  exact h21.of (fun s1 s2 s3 s4 s5 s6 s7 s8 => J [(7000006, .undef), (3, I s1), (5, .ptr 0 0 []), (11, .d (.sl w0) s2), (12, I s3), (13, I s4), (18, .d (.sl wI) s5), (19, I s6), (20, I s7)] [.one w0 (.d w0 s8)]) (fun s1 s2 s3 s4 s5 s6 s7 s8 hb => loop_round2 nS (inlOK _) hp hJ (by kernel_rfl) hb)
def lsl6r11 : LSp := fun vs σ K => dD wI vs fun s1 r1 => dD (.sl w0) r1 fun s2 r2 => dD wI r2 fun s3 r3 => dD wI r3 fun s4 r4 => dD (.sl (.pair wI (.pair wI w5))) r4 fun s5 r5 => dD wI r5 fun s6 r6 => dD wI r6 fun s7 r7 => asNil r7 <| asNil σ <| l6r11 (fun z1 z2 z3 z4 => K (.exit 4) [(3, I z1), (11, .d (.sl w0) z2), (12, I z3), (13, I z4)] []) s1 s2 s3 s4 s5 s6 s7
theorem l6r11v : LoopV E wF (E.info 6).keep 0 Try.f6.ntmps 7000011 (body Try.f6 11) ([3, 11, 12, 13, 30, 31, 32], lsl6r11) := by
  intro vs σ K h0
  obtain ⟨s1, s2, s3, s4, r4, rfl, h8⟩ := cDDDD h0
  obtain ⟨s5, s6, s7, r7, rfl, h14⟩ := cDDD h8
  obtain ⟨rfl, rfl, h16⟩ := cM h14
  intro J hJ
  have hp : wH 6 Try.f6 (body Try.f6 11) nL := all_eq (by kernel_rfl) all_nil
  exact h16.of (fun s1 s2 s3 s4 s5 s6 s7 => J [(7000011, .undef), (3, I s1), (11, .d (.sl w0) s2), (12, I s3), (13, I s4), (30, .d (.sl (.pair wI (.pair wI w5))) s5), (31, I s6), (32, I s7)] []) (fun s1 s2 s3 s4 s5 s6 s7 hb => loop_round2 nS (inlOK _) hp hJ (by kernel_rfl) hb)
abbrev Ll6r3 : wL := [(7000006, [3, 5, 11, 12, 13, 18, 19, 20], none, lsl6r6), (7000011, [3, 11, 12, 13, 30, 31, 32], none, lsl6r11)]
def lsl6r3 : LSp := fun vs σ K => dD wI vs fun s1 r1 => dD (.sl w0) r1 fun s2 r2 => dD wI r2 fun s3 r3 => dD wI r3 fun s4 r4 => asNil r4 <| asNil σ <| l6r3 (fun z1 => K (.exit 0) [(3, I z1)] []) s1 s2 s3 s4
theorem l6r3v : LoopV E wF (E.info 6).keep 0 Try.f6.ntmps 7000003 (body Try.f6 3) ([3, 11, 12, 13], lsl6r3) := by
  intro vs σ K h0
  obtain ⟨s1, s2, s3, s4, r4, rfl, h8⟩ := cDDDD h0
  obtain ⟨rfl, rfl, h10⟩ := cM h8
  intro J hJ
  have hp : wH 6 Try.f6 (body Try.f6 3) Ll6r3 := all_eq (by kernel_rfl : subsOf (E.info 6).keep (body Try.f6 3) = [.loop (body Try.f6 6), .loop (body Try.f6 11)]) (all_cons (loopOK_of (mk := 7000006) (sl := [3, 5, 11, 12, 13, 18, 19, 20]) (ss := [([3, 5, 11, 12, 13, 18, 19, 20], lsl6r6)]) (by kernel_rfl) (by kernel_rfl) (all_cons l6r6v all_nil)) (all_cons (loopOK_of (mk := 7000011) (sl := [3, 11, 12, 13, 30, 31, 32]) (ss := [([3, 11, 12, 13, 30, 31, 32], lsl6r11)]) (by kernel_rfl) (by kernel_rfl) (all_cons l6r11v all_nil)) all_nil))
  exact h10.of (fun s1 s2 s3 s4 => J [(7000003, .undef), (3, I s1), (11, .d (.sl w0) s2), (12, I s3), (13, I s4)] []) (fun s1 s2 s3 s4 hb => loop_round2 nS (inlOK _) hp hJ (by kernel_rfl) hb)
abbrev L6 : wL := [(7000003, [3, 11, 12, 13], none, lsl6r3)]
def sp6 : Sp := fun args τ K => dD w1 args fun x1 r1 => asNil r1 <| asNil τ <| c6 x1 (fun z1 => K (I z1) [])
theorem h6 : ∀ args τ K, sp6 args τ K → ACall E 6 args τ K := by
  intro args τ K h0
  obtain ⟨x1, r1, rfl, h2⟩ := cD h0
  obtain ⟨rfl, rfl, h4⟩ := cM h2
  exact ACall.spec2 (fn := Try.f6) (c := codeOf Try.f6) (L := lofL L6) nS (by kernel_rfl) (by kernel_rfl) (inlOK _) (all_eq (by kernel_rfl : subsOf (E.info 6).keep (codeOf Try.f6) = [.loop (body Try.f6 3)]) (all_cons (loopOK_of (mk := 7000003) (sl := [3, 11, 12, 13]) (ss := [([3, 11, 12, 13], lsl6r3)]) (by kernel_rfl) (by kernel_rfl) (all_cons l6r3v all_nil)) all_nil)) (by kernel_rfl) h4.of
abbrev S5 : wS := [(6, none, sp6)]
theorem hS5 : SpecOK E (ofL S5) := specOK_cons h6 specOK_nil
def sp5 : Sp := fun args τ K => dD w1 args fun x1 r1 => asNil r1 <| asNil τ <| c5 x1 (fun z1 => K (B z1) [])
theorem h5 : ∀ args τ K, sp5 args τ K → ACall E 5 args τ K := by
  intro args τ K h0
  obtain ⟨x1, r1, rfl, h2⟩ := cD h0
  obtain ⟨rfl, rfl, h4⟩ := cM h2
  exact ACall.spec2 (fn := Try.f5) (c := codeOf Try.f5) (L := lofL nL) hS5 (by kernel_rfl) (by kernel_rfl) (inlOK _) (all_eq (by kernel_rfl) all_nil) (by kernel_rfl) h4.of
def lsl7r3 : LSp := fun vs σ K => dP (.ptr 0 0 []) vs fun r1 => dD wI r1 fun s1 r2 => dD (.sl w0) r2 fun s2 r3 => dD wI r3 fun s3 r4 => dD wI r4 fun s4 r5 => asNil r5 <| dO w1 w1 σ fun s5 r6 => asNil r6 <| l7r3 (fun z1 z2 => K (.exit 0) [(1, .ptr 0 0 []), (3, I z1)] [.one w1 (.d w1 z2)]) s1 s2 s3 s4 s5
theorem l7r3v : LoopV E wF (E.info 7).keep 0 Try.f7.ntmps 8000003 (body Try.f7 3) ([1, 3, 17, 18, 19], lsl7r3) := by
  intro vs σ K h0
  obtain ⟨s1, s2, s3, r4, rfl, h8⟩ := cPDDD h0
  obtain ⟨s4, r5, rfl, h10⟩ := cD h8
  obtain ⟨rfl, h11⟩ := cN h10
  obtain ⟨s5, r6, rfl, h14⟩ := oD h11
  obtain ⟨rfl, h15⟩ := cN h14
  intro J hJ
  have hp : wH 7 Try.f7 (body Try.f7 3) nL := all_eq (by kernel_rfl) all_nil
  exact h15.of (fun s1 s2 s3 s4 s5 => J [(8000003, .undef), (1, .ptr 0 0 []), (3, I s1), (17, .d (.sl w0) s2), (18, I s3), (19, I s4)] [.one w1 (.d w1 s5)]) (fun s1 s2 s3 s4 s5 hb => loop_round2 nS (inlOK _) hp hJ (by kernel_rfl) hb)
def sp13 : Sp := fun args τ K => dD wI args fun x1 r1 => dD wI r1 fun x2 r2 => dD wI r2 fun x3 r3 => asNil r3 <| asNil τ <| c13 x1 x2 x3 (fun z1 => K (B z1) [])
theorem h13 : ∀ args τ K, sp13 args τ K → ACall E 13 args τ K := by
  intro args τ K h0
  obtain ⟨x1, x2, x3, r3, rfl, h6⟩ := cDDD h0
  obtain ⟨rfl, rfl, h8⟩ := cM h6
  exact ACall.spec2 (fn := Try.f13) (c := codeOf Try.f13) (L := lofL nL) nS (by kernel_rfl) (by kernel_rfl) (inlOK _) (all_eq (by kernel_rfl) all_nil) (by kernel_rfl) h8.of
def lsl24r2 : LSp := fun vs σ K => dD wI vs fun s1 r1 => dD (.sl wI) r1 fun s2 r2 => dD wI r2 fun s3 r3 => dD wI r3 fun s4 r4 => asNil r4 <| asNil σ <| l24r2 (fun z1 => K .ret [(4, B z1)] []) (K (.exit 0) [(4, .undef)] []) s1 s2 s3 s4
theorem l24r2v : LoopV E wF (E.info 24).keep 0 Try.f24.ntmps 25000002 (body Try.f24 2) ([1, 7, 8, 9], lsl24r2) := by
  intro vs σ K h0
  obtain ⟨s1, s2, s3, s4, r4, rfl, h8⟩ := cDDDD h0
  obtain ⟨rfl, rfl, h10⟩ := cM h8
  intro J hJ
  have hp : wH 24 Try.f24 (body Try.f24 2) nL := all_eq (by kernel_rfl) all_nil
  exact h10.of (fun s1 s2 s3 s4 => J [(25000002, .undef), (1, I s1), (7, .d (.sl wI) s2), (8, I s3), (9, I s4)] []) (fun s1 s2 s3 s4 hb => loop_round2 nS (inlOK _) hp hJ (by kernel_rfl) hb)
abbrev L24 : wL := [(25000002, [1, 7, 8, 9], none, lsl24r2)]
def sp24 : Sp := fun args τ K => dD (.sl wI) args fun x1 r1 => dD wI r1 fun x2 r2 => asNil r2 <| asNil τ <| c24 x1 x2 (fun z1 => K (B z1) [])
theorem h24 : ∀ args τ K, sp24 args τ K → ACall E 24 args τ K := by
  intro args τ K h0
  obtain ⟨x1, x2, r2, rfl, h4⟩ := cDD h0
  obtain ⟨rfl, rfl, h6⟩ := cM h4
  exact ACall.spec2 (fn := Try.f24) (c := codeOf Try.f24) (L := lofL L24) nS (by kernel_rfl) (by kernel_rfl) (inlOK _) (all_eq (by kernel_rfl : subsOf (E.info 24).keep (codeOf Try.f24) = [.loop (body Try.f24 2)]) (all_cons (loopOK_of (mk := 25000002) (sl := [1, 7, 8, 9]) (ss := [([1, 7, 8, 9], lsl24r2)]) (by kernel_rfl) (by kernel_rfl) (all_cons l24r2v all_nil)) all_nil)) (by kernel_rfl) h6.of
abbrev S26 : wS := [(13, none, sp13), (24, none, sp24)]
theorem hS26 : SpecOK E (ofL S26) := specOK_cons h13 (specOK_cons h24 specOK_nil)
def sp26 : Sp := fun args τ K => dD wI args fun x1 r1 => dD (.sl wI) r1 fun x2 r2 => asNil r2 <| asNil τ <| c26 x1 x2 (fun z1 => K (I z1) [])
theorem h26 : ∀ args τ K, sp26 args τ K → ACall E 26 args τ K := by
  intro args τ K h0
  obtain ⟨x1, x2, r2, rfl, h4⟩ := cDD h0
  obtain ⟨rfl, rfl, h6⟩ := cM h4
  exact ACall.spec2 (fn := Try.f26) (c := codeOf Try.f26) (L := lofL nL) hS26 (by kernel_rfl) (by kernel_rfl) (inlOK _) (all_eq (by kernel_rfl) all_nil) (by kernel_rfl) h6.of
abbrev Sl14r6 : wS := [(26, none, sp26)]
theorem hSl14r6 : SpecOK E (ofL Sl14r6) := specOK_cons h26 specOK_nil
def lsl14r6 : LSp := fun vs σ K => dP (.ptr 0 0 []) vs fun r1 => dP (.vec 1) r1 fun r2 => dP (.ptr 2 0 []) r2 fun r3 => dD (.sl w0) r3 fun s1 r4 => dD wI r4 fun s2 r5 => dD wI r5 fun s3 r6 => dD (.sl wI) r6 fun s4 r7 => dD wI r7 fun s5 r8 => dD wI r8 fun s6 r9 => asNil r9 <| dO w1 w1 σ fun s7 r10 => dR wI false r10 fun s8 r12 => dO w0 w0 r12 fun s9 r13 => asNil r13 <| l14r6 (fun z1 => K .ret [(1, .undef), (2, I z1), (3, .undef), (5, .undef), (15, .undef), (16, .undef), (17, .undef)] []) (fun z1 z2 z3 z4 z5 z6 => K (.exit 2) [(1, .ptr 0 0 []), (2, .undef), (3, .vec 1), (5, .ptr 2 0 []), (15, .d (.sl w0) z1), (16, I z2), (17, I z3)] [.one w1 (.d w1 z4), .row wI z5 false, .one w0 (.d w0 z6)]) s1 s2 s3 s4 s5 s6 s7 s8 s9
theorem l14r6v : LoopV E wF (E.info 14).keep 0 Try.f14.ntmps 15000006 (body Try.f14 6) ([1, 3, 5, 15, 16, 17, 22, 23, 24], lsl14r6) := by
  intro vs σ K h0
  obtain ⟨s1, r4, rfl, h8⟩ := cPPPD h0
  obtain ⟨s2, s3, s4, s5, r8, rfl, h16⟩ := cDDDD h8
  obtain ⟨s6, r9, rfl, h18⟩ := cD h16
  obtain ⟨rfl, h19⟩ := cN h18
  obtain ⟨s7, r10, rfl, h22⟩ := oD h19
  obtain ⟨s8, r12, rfl, h24⟩ := cR h22
  obtain ⟨s9, r13, rfl, h27⟩ := oD h24
  obtain ⟨rfl, h28⟩ := cN h27
  intro J hJ
  have hp : wH 14 Try.f14 (body Try.f14 6) nL := all_eq (by kernel_rfl) all_nil
  exact h28.of (fun s1 s2 s3 s4 s5 s6 s7 s8 s9 => J [(15000006, .undef), (1, .ptr 0 0 []), (3, .vec 1), (5, .ptr 2 0 []), (15, .d (.sl w0) s1), (16, I s2), (17, I s3), (22, .d (.sl wI) s4), (23, I s5), (24, I s6)] [.one w1 (.d w1 s7), .row wI s8 false, .one w0 (.d w0 s9)]) (fun s1 s2 s3 s4 s5 s6 s7 s8 s9 hb => loop_round2 hSl14r6 (inlOK _) hp hJ (by kernel_rfl) hb)
def sp36 : Sp := fun args τ K => dD (.pair wI (.pair wI w5)) args fun x1 r1 => asNil r1 <| asNil τ <| c36 x1 (fun z1 => K (I z1) [])
theorem h36 : ∀ args τ K, sp36 args τ K → ACall E 36 args τ K := by
  intro args τ K h0
  obtain ⟨x1, r1, rfl, h2⟩ := cD h0
  obtain ⟨rfl, rfl, h4⟩ := cM h2
  exact ACall.spec2 (fn := Try.f36) (c := codeOf Try.f36) (L := lofL nL) nS (by kernel_rfl) (by kernel_rfl) (inlOK _) (all_eq (by kernel_rfl) all_nil) (by kernel_rfl) h4.of
def lsj27s4 : LSp := fun vs σ K => dP (.ptr 0 0 []) vs fun r1 => dD .bool r1 fun s1 r2 => asNil r2 <| dO (.pair wI (.pair wI w5)) (.pair wI (.pair wI w5)) σ fun s2 r3 => asNil r3 <| j27s4 (fun z1 => K .ret [(1, .undef), (2, I z1)] []) (fun z1 => K .normal [(1, .ptr 0 0 []), (2, .undef)] [.one (.pair wI (.pair wI w5)) (.d (.pair wI (.pair wI w5)) z1)]) s1 s2
theorem j27s4v : JoinV E wF (E.info 27).keep 0 Try.f27.ntmps 28500004 5000004 (jbody Try.f27 5000004) ([1, 60], lsj27s4) := by
  intro vs σ K h0
  obtain ⟨s1, r2, rfl, h4⟩ := cPD h0
  obtain ⟨rfl, h5⟩ := cN h4
  obtain ⟨s2, r3, rfl, h8⟩ := oD h5
  obtain ⟨rfl, h9⟩ := cN h8
  exact join_round2 (L := lofL nL) nS (inlOK _) (all_eq (by kernel_rfl) all_nil) (by kernel_rfl) h9.of
abbrev S37 : wS := [(13, none, sp13)]
theorem hS37 : SpecOK E (ofL S37) := specOK_cons h13 specOK_nil
def sp37 : Sp := fun args τ K => dD wI args fun x1 r1 => asNil r1 <| asNil τ <| c37 x1 (fun z1 => K (B z1) [])
theorem h37 : ∀ args τ K, sp37 args τ K → ACall E 37 args τ K := by
  intro args τ K h0
  obtain ⟨x1, r1, rfl, h2⟩ := cD h0
  obtain ⟨rfl, rfl, h4⟩ := cM h2
  exact ACall.spec2 (fn := Try.f37) (c := codeOf Try.f37) (L := lofL nL) hS37 (by kernel_rfl) (by kernel_rfl) (inlOK _) (all_eq (by kernel_rfl) all_nil) (by kernel_rfl) h4.of
abbrev Sj27r6 : wS := [(37, none, sp37), (13, none, sp13)]
theorem hSj27r6 : SpecOK E (ofL Sj27r6) := specOK_cons h37 (specOK_cons h13 specOK_nil)
def lsj27r6 : LSp := fun vs σ K => dP (.ptr 0 0 []) vs fun r1 => asNil r1 <| dO (.pair wI (.pair wI w5)) (.pair wI (.pair wI w5)) σ fun s1 r2 => asNil r2 <| j27r6 (fun z1 => K .ret [(2, I z1)] []) s1
theorem j27r6v : JoinV E wF (E.info 27).keep 0 Try.f27.ntmps 28400006 4000006 (jbody Try.f27 4000006) ([1], lsj27r6) := by
  intro vs σ K h0
  obtain ⟨r1, rfl, h2⟩ := cP h0
  obtain ⟨rfl, h3⟩ := cN h2
  obtain ⟨s1, r2, rfl, h6⟩ := oD h3
  obtain ⟨rfl, h7⟩ := cN h6
  exact join_round2 (L := lofL nL) hSj27r6 (inlOK _) (all_eq (by kernel_rfl) all_nil) (by kernel_rfl) h7.of
abbrev Lj27r4 : wL := [(28500004, [1, 60], none, lsj27s4), (28400006, [1], none, lsj27r6)]
def lsj27r4 : LSp := fun vs σ K => dP (.ptr 0 0 []) vs fun r1 => asNil r1 <| dO (.pair wI (.pair wI w5)) (.pair wI (.pair wI w5)) σ fun s1 r2 => asNil r2 <| j27r4 (fun z1 => K .ret [(2, I z1)] []) s1
theorem j27r4v : JoinV E wF (E.info 27).keep 0 Try.f27.ntmps 28400004 4000004 (jbody Try.f27 4000004) ([1], lsj27r4) := by
  intro vs σ K h0
  obtain ⟨r1, rfl, h2⟩ := cP h0
  obtain ⟨rfl, h3⟩ := cN h2
  obtain ⟨s1, r2, rfl, h6⟩ := oD h3
  obtain ⟨rfl, h7⟩ := cN h6
  exact join_round2 (L := lofL Lj27r4) nS (inlOK _) (all_eq (by kernel_rfl : subsOf (E.info 27).keep (jbody Try.f27 4000004) = [.join 4000006 (jbody Try.f27 4000006), .join 5000004 (jbody Try.f27 5000004)]) (all_cons (joinOK_of (mk := 28400006) (sl := [1]) (ss := [([1], lsj27r6)]) (by kernel_rfl) (by kernel_rfl) (all_cons j27r6v all_nil)) (all_cons (joinOK_of (mk := 28500004) (sl := [1, 60]) (ss := [([1, 60], lsj27s4)]) (by kernel_rfl) (by kernel_rfl) (all_cons j27s4v all_nil)) all_nil))) (by kernel_rfl) h7.of
abbrev S27 : wS := [(36, none, sp36)]
theorem hS27 : SpecOK E (ofL S27) := specOK_cons h36 specOK_nil
abbrev L27 : wL := [(28400004, [1], none, lsj27r4)]
def sp27 : Sp := fun args τ K => dD (.pair wI (.pair wI w5)) args fun x1 r1 => asNil r1 <| asNil τ <| c27 x1 (fun z1 => K (I z1) [])
theorem h27 : ∀ args τ K, sp27 args τ K → ACall E 27 args τ K := by
  intro args τ K h0
  obtain ⟨x1, r1, rfl, h2⟩ := cD h0
  obtain ⟨rfl, rfl, h4⟩ := cM h2
  exact ACall.spec2 (fn := Try.f27) (c := codeOf Try.f27) (L := lofL L27) hS27 (by kernel_rfl) (by kernel_rfl) (inlOK _) (all_eq (by kernel_rfl : subsOf (E.info 27).keep (codeOf Try.f27) = [.join 4000004 (jbody Try.f27 4000004)]) (all_cons (joinOK_of (mk := 28400004) (sl := [1]) (ss := [([1], lsj27r4)]) (by kernel_rfl) (by kernel_rfl) (all_cons j27r4v all_nil)) all_nil)) (by kernel_rfl) h4.of
abbrev Sl14r14 : wS := [(26, none, sp26), (27, none, sp27)]
theorem hSl14r14 : SpecOK E (ofL Sl14r14) := specOK_cons h26 (specOK_cons h27 specOK_nil)
def lsl14r14 : LSp := fun vs σ K => dP (.ptr 0 0 []) vs fun r1 => dP (.vec 1) r1 fun r2 => dP (.ptr 2 0 []) r2 fun r3 => dD (.sl w0) r3 fun s1 r4 => dD wI r4 fun s2 r5 => dD wI r5 fun s3 r6 => dD (.sl (.pair wI (.pair wI w5))) r6 fun s4 r7 => dD wI r7 fun s5 r8 => dD wI r8 fun s6 r9 => asNil r9 <| dO w1 w1 σ fun s7 r10 => dR wI false r10 fun s8 r12 => dO w0 w0 r12 fun s9 r13 => asNil r13 <| l14r14 (fun z1 => K .ret [(1, .undef), (2, I z1), (3, .undef), (5, .undef), (15, .undef), (16, .undef), (17, .undef)] []) (fun z1 z2 z3 z4 z5 z6 => K (.exit 4) [(1, .ptr 0 0 []), (2, .undef), (3, .vec 1), (5, .ptr 2 0 []), (15, .d (.sl w0) z1), (16, I z2), (17, I z3)] [.one w1 (.d w1 z4), .row wI z5 false, .one w0 (.d w0 z6)]) s1 s2 s3 s4 s5 s6 s7 s8 s9
theorem l14r14v : LoopV E wF (E.info 14).keep 0 Try.f14.ntmps 15000014 (body Try.f14 14) ([1, 3, 5, 15, 16, 17, 40, 41, 42], lsl14r14) := by
  intro vs σ K h0
  obtain ⟨s1, r4, rfl, h8⟩ := cPPPD h0
  obtain ⟨s2, s3, s4, s5, r8, rfl, h16⟩ := cDDDD h8
  obtain ⟨s6, r9, rfl, h18⟩ := cD h16
  obtain ⟨rfl, h19⟩ := cN h18
  obtain ⟨s7, r10, rfl, h22⟩ := oD h19
  obtain ⟨s8, r12, rfl, h24⟩ := cR h22
  obtain ⟨s9, r13, rfl, h27⟩ := oD h24
  obtain ⟨rfl, h28⟩ := cN h27
  intro J hJ
  have hp : wH 14 Try.f14 (body Try.f14 14) nL := all_eq (by kernel_rfl) all_nil
  exact h28.of (fun s1 s2 s3 s4 s5 s6 s7 s8 s9 => J [(15000014, .undef), (1, .ptr 0 0 []), (3, .vec 1), (5, .ptr 2 0 []), (15, .d (.sl w0) s1), (16, I s2), (17, I s3), (40, .d (.sl (.pair wI (.pair wI w5))) s4), (41, I s5), (42, I s6)] [.one w1 (.d w1 s7), .row wI s8 false, .one w0 (.d w0 s9)]) (fun s1 s2 s3 s4 s5 s6 s7 s8 s9 hb => loop_round2 hSl14r14 (inlOK _) hp hJ (by kernel_rfl) hb)
def lsj28s4 : LSp := fun vs σ K => dP (.ptr 0 0 []) vs fun r1 => dP (.ptr 1 0 []) r1 fun r2 => dD .bool r2 fun s1 r3 => asNil r3 <| dO w1 w1 σ fun s2 r4 => dO w3 w3 r4 fun s3 r6 => asNil r6 <| j28s4 (fun z1 => K .ret [(2, .undef), (3, .undef), (4, I z1)] []) (fun z1 z2 => K .normal [(2, .ptr 0 0 []), (3, .ptr 1 0 []), (4, .undef)] [.one w1 (.d w1 z1), .one w3 (.d w3 z2)]) s1 s2 s3
theorem j28s4v : JoinV E wF (E.info 28).keep 0 Try.f28.ntmps 29500004 5000004 (jbody Try.f28 5000004) ([2, 3, 63], lsj28s4) := by
  intro vs σ K h0
  obtain ⟨s1, r3, rfl, h6⟩ := cPPD h0
  obtain ⟨rfl, h7⟩ := cN h6
  obtain ⟨s2, r4, rfl, h10⟩ := oD h7
  obtain ⟨s3, r6, rfl, h13⟩ := oD h10
  obtain ⟨rfl, h14⟩ := cN h13
  exact join_round2 (L := lofL nL) nS (inlOK _) (all_eq (by kernel_rfl) all_nil) (by kernel_rfl) h14.of
abbrev Sl28r11 : wS := [(37, none, sp37), (24, none, sp24)]
theorem hSl28r11 : SpecOK E (ofL Sl28r11) := specOK_cons h37 (specOK_cons h24 specOK_nil)
def lsl28r11 : LSp := fun vs σ K => dP (.ptr 0 0 []) vs fun r1 => dP (.ptr 1 0 []) r1 fun r2 => dD (.sl wI) r2 fun s1 r3 => dD wI r3 fun s2 r4 => dD wI r4 fun s3 r5 => asNil r5 <| dO w1 w1 σ fun s4 r6 => dO w3 w3 r6 fun s5 r8 => asNil r8 <| l28r11 (fun z1 => K .ret [(2, .undef), (3, .undef), (4, I z1)] []) (fun z1 z2 => K (.exit 0) [(2, .ptr 0 0 []), (3, .ptr 1 0 []), (4, .undef)] [.one w1 (.d w1 z1), .one w3 (.d w3 z2)]) s1 s2 s3 s4 s5
theorem l28r11v : LoopV E wF (E.info 28).keep 0 Try.f28.ntmps 29000011 (body Try.f28 11) ([2, 3, 78, 79, 80], lsl28r11) := by
  intro vs σ K h0
  obtain ⟨s1, s2, r4, rfl, h8⟩ := cPPDD h0
  obtain ⟨s3, r5, rfl, h10⟩ := cD h8
  obtain ⟨rfl, h11⟩ := cN h10
  obtain ⟨s4, r6, rfl, h14⟩ := oD h11
  obtain ⟨s5, r8, rfl, h17⟩ := oD h14
  obtain ⟨rfl, h18⟩ := cN h17
  intro J hJ
  have hp : wH 28 Try.f28 (body Try.f28 11) nL := all_eq (by kernel_rfl) all_nil
  exact h18.of (fun s1 s2 s3 s4 s5 => J [(29000011, .undef), (2, .ptr 0 0 []), (3, .ptr 1 0 []), (78, .d (.sl wI) s1), (79, I s2), (80, I s3)] [.one w1 (.d w1 s4), .one w3 (.d w3 s5)]) (fun s1 s2 s3 s4 s5 hb => loop_round2 hSl28r11 (inlOK _) hp hJ (by kernel_rfl) hb)
abbrev Sl28r19 : wS := [(13, none, sp13)]
theorem hSl28r19 : SpecOK E (ofL Sl28r19) := specOK_cons h13 specOK_nil
def lsl28r19 : LSp := fun vs σ K => dP (.ptr 0 0 []) vs fun r1 => dD (.sl w5) r1 fun s1 r2 => dD wI r2 fun s2 r3 => dD wI r3 fun s3 r4 => asNil r4 <| dO w1 w1 σ fun s4 r5 => asNil r5 <| l28r19 (fun z1 => K .ret [(4, I z1)] []) (K (.exit 2) [(4, .undef)] []) s1 s2 s3 s4
theorem l28r19v : LoopV E wF (E.info 28).keep 0 Try.f28.ntmps 29000019 (body Try.f28 19) ([2, 96, 97, 98], lsl28r19) := by
  intro vs σ K h0
  obtain ⟨s1, s2, s3, r4, rfl, h8⟩ := cPDDD h0
  obtain ⟨rfl, h9⟩ := cN h8
  obtain ⟨s4, r5, rfl, h12⟩ := oD h9
  obtain ⟨rfl, h13⟩ := cN h12
  intro J hJ
  have hp : wH 28 Try.f28 (body Try.f28 19) nL := all_eq (by kernel_rfl) all_nil
  exact h13.of (fun s1 s2 s3 s4 => J [(29000019, .undef), (2, .ptr 0 0 []), (96, .d (.sl w5) s1), (97, I s2), (98, I s3)] [.one w1 (.d w1 s4)]) (fun s1 s2 s3 s4 hb => loop_round2 hSl28r19 (inlOK _) hp hJ (by kernel_rfl) hb)
abbrev Sj28r6 : wS := [(13, none, sp13)]
theorem hSj28r6 : SpecOK E (ofL Sj28r6) := specOK_cons h13 specOK_nil
abbrev Lj28r6 : wL := [(29000011, [2, 3, 78, 79, 80], none, lsl28r11), (29000019, [2, 96, 97, 98], none, lsl28r19)]
def lsj28r6 : LSp := fun vs σ K => dP (.ptr 0 0 []) vs fun r1 => dP (.ptr 1 0 []) r1 fun r2 => asNil r2 <| dO w1 w1 σ fun s1 r3 => dO w3 w3 r3 fun s2 r5 => asNil r5 <| j28r6 (fun z1 => K .ret [(4, I z1)] []) s1 s2
theorem j28r6v : JoinV E wF (E.info 28).keep 0 Try.f28.ntmps 29400006 4000006 (jbody Try.f28 4000006) ([2, 3], lsj28r6) := by
  intro vs σ K h0
  obtain ⟨r2, rfl, h4⟩ := cPP h0
  obtain ⟨rfl, h5⟩ := cN h4
  obtain ⟨s1, r3, rfl, h8⟩ := oD h5
  obtain ⟨s2, r5, rfl, h11⟩ := oD h8
  obtain ⟨rfl, h12⟩ := cN h11
  exact join_round2 (L := lofL Lj28r6) hSj28r6 (inlOK _) (all_eq (by kernel_rfl : subsOf (E.info 28).keep (jbody Try.f28 4000006) = [.loop (body Try.f28 11), .loop (body Try.f28 19)]) (all_cons (loopOK_of (mk := 29000011) (sl := [2, 3, 78, 79, 80]) (ss := [([2, 3, 78, 79, 80], lsl28r11)]) (by kernel_rfl) (by kernel_rfl) (all_cons l28r11v all_nil)) (all_cons (loopOK_of (mk := 29000019) (sl := [2, 96, 97, 98]) (ss := [([2, 96, 97, 98], lsl28r19)]) (by kernel_rfl) (by kernel_rfl) (all_cons l28r19v all_nil)) all_nil))) (by kernel_rfl) h12.of
abbrev S28 : wS := [(13, none, sp13)]
theorem hS28 : SpecOK E (ofL S28) := specOK_cons h13 specOK_nil
abbrev L28 : wL := [(29500004, [2, 3, 63], none, lsj28s4), (29400006, [2, 3], none, lsj28r6)]
def sp28 : Sp := fun args τ K => dD w1 args fun x1 r1 => dD w3 r1 fun x2 r2 => asNil r2 <| asNil τ <| c28 x1 x2 (fun z1 => K (I z1) [])
theorem h28 : ∀ args τ K, sp28 args τ K → ACall E 28 args τ K := by
  intro args τ K h0
  obtain ⟨x1, x2, r2, rfl, h4⟩ := cDD h0
  obtain ⟨rfl, rfl, h6⟩ := cM h4
  exact ACall.spec2 (fn := Try.f28) (c := codeOf Try.f28) (L := lofL L28) hS28 (by kernel_rfl) (by kernel_rfl) (inlOK _) (all_eq (by kernel_rfl : subsOf (E.info 28).keep (codeOf Try.f28) = [.join 4000006 (jbody Try.f28 4000006), .join 5000004 (jbody Try.f28 5000004)]) (all_cons (joinOK_of (mk := 29400006) (sl := [2, 3]) (ss := [([2, 3], lsj28r6)]) (by kernel_rfl) (by kernel_rfl) (all_cons j28r6v all_nil)) (all_cons (joinOK_of (mk := 29500004) (sl := [2, 3, 63]) (ss := [([2, 3, 63], lsj28s4)]) (by kernel_rfl) (by kernel_rfl) (all_cons j28s4v all_nil)) all_nil))) (by kernel_rfl) h6.of
abbrev Sl14r3 : wS := [(28, none, sp28)]
theorem hSl14r3 : SpecOK E (ofL Sl14r3) := specOK_cons h28 specOK_nil
abbrev Ll14r3 : wL := [(15000006, [1, 3, 5, 15, 16, 17, 22, 23, 24], none, lsl14r6), (15000014, [1, 3, 5, 15, 16, 17, 40, 41, 42], none, lsl14r14)]
def lsl14r3 : LSp := fun vs σ K => dP (.ptr 0 0 []) vs fun r1 => dP (.vec 1) r1 fun r2 => dD (.sl w0) r2 fun s1 r3 => dD wI r3 fun s2 r4 => dD wI r4 fun s3 r5 => asNil r5 <| dO w1 w1 σ fun s4 r6 => dR wI false r6 fun s5 r8 => asNil r8 <| l14r3 (fun z1 => K .ret [(2, I z1)] []) (K (.exit 0) [(2, .undef)] []) s1 s2 s3 s4 s5
theorem l14r3v : LoopV E wF (E.info 14).keep 0 Try.f14.ntmps 15000003 (body Try.f14 3) ([1, 3, 15, 16, 17], lsl14r3) := by
  intro vs σ K h0
  obtain ⟨s1, s2, r4, rfl, h8⟩ := cPPDD h0
  obtain ⟨s3, r5, rfl, h10⟩ := cD h8
  obtain ⟨rfl, h11⟩ := cN h10
  obtain ⟨s4, r6, rfl, h14⟩ := oD h11
  obtain ⟨s5, r8, rfl, h16⟩ := cR h14
  obtain ⟨rfl, h17⟩ := cN h16
  intro J hJ
  have hp : wH 14 Try.f14 (body Try.f14 3) Ll14r3 := all_eq (by kernel_rfl : subsOf (E.info 14).keep (body Try.f14 3) = [.loop (body Try.f14 6), .loop (body Try.f14 14)]) (all_cons (loopOK_of (mk := 15000006) (sl := [1, 3, 5, 15, 16, 17, 22, 23, 24]) (ss := [([1, 3, 5, 15, 16, 17, 22, 23, 24], lsl14r6)]) (by kernel_rfl) (by kernel_rfl) (all_cons l14r6v all_nil)) (all_cons (loopOK_of (mk := 15000014) (sl := [1, 3, 5, 15, 16, 17, 40, 41, 42]) (ss := [([1, 3, 5, 15, 16, 17, 40, 41, 42], lsl14r14)]) (by kernel_rfl) (by kernel_rfl) (all_cons l14r14v all_nil)) all_nil))
  exact h17.of (fun s1 s2 s3 s4 s5 => J [(15000003, .undef), (1, .ptr 0 0 []), (3, .vec 1), (15, .d (.sl w0) s1), (16, I s2), (17, I s3)] [.one w1 (.d w1 s4), .row wI s5 false]) (fun s1 s2 s3 s4 s5 hb => loop_round2 hSl14r3 (inlOK _) hp hJ (by kernel_rfl) hb)
abbrev L14 : wL := [(15000003, [1, 3, 15, 16, 17], none, lsl14r3)]
def sp14 : Sp := fun args τ K => dD w1 args fun x1 r1 => asNil r1 <| asNil τ <| c14 x1 (fun z1 => K (I z1) [])
theorem h14 : ∀ args τ K, sp14 args τ K → ACall E 14 args τ K := by
  intro args τ K h0
  obtain ⟨x1, r1, rfl, h2⟩ := cD h0
  obtain ⟨rfl, rfl, h4⟩ := cM h2
  exact ACall.spec2 (fn := Try.f14) (c := codeOf Try.f14) (L := lofL L14) nS (by kernel_rfl) (by kernel_rfl) (inlOK _) (all_eq (by kernel_rfl : subsOf (E.info 14).keep (codeOf Try.f14) = [.loop (body Try.f14 3)]) (all_cons (loopOK_of (mk := 15000003) (sl := [1, 3, 15, 16, 17]) (ss := [([1, 3, 15, 16, 17], lsl14r3)]) (by kernel_rfl) (by kernel_rfl) (all_cons l14r3v all_nil)) all_nil)) (by kernel_rfl) h4.of
abbrev Sl15r11 : wS := [(13, none, sp13)]
theorem hSl15r11 : SpecOK E (ofL Sl15r11) := specOK_cons h13 specOK_nil
def lsl15r11 : LSp := fun vs σ K => dD wI vs fun s1 r1 => dP (.ptr 0 0 []) r1 fun r2 => dP (.vec 1) r2 fun r3 => dD wI r3 fun s2 r4 => dD wI r4 fun s3 r5 => dD wI r5 fun s4 r6 => dD (.sl w0) r6 fun s5 r7 => dD wI r7 fun s6 r8 => dD wI r8 fun s7 r9 => dD (.sl w5) r9 fun s8 r10 => dD wI r10 fun s9 r11 => dD wI r11 fun s10 r12 => asNil r12 <| dO w1 w1 σ fun s11 r13 => dR .bool false r13 fun s12 r15 => asNil r15 <| l15r11 (fun z1 z2 z3 z4 z5 z6 z7 z8 => K (.exit 4) [(1, I z1), (2, .ptr 0 0 []), (5, .vec 1), (27, I z2), (28, I z3), (31, .d (.sl w0) z4), (32, I z5), (33, I z6)] [.one w1 (.d w1 z7), .row .bool z8 false]) s1 s2 s3 s4 s5 s6 s7 s8 s9 s10 s11 s12
theorem l15r11v : LoopV E wF (E.info 15).keep 0 Try.f15.ntmps 16000011 (body Try.f15 11) ([1, 2, 5, 6, 27, 28, 31, 32, 33, 40, 41, 42], lsl15r11) := by
  intro vs σ K h0
  obtain ⟨s1, s2, r4, rfl, h8⟩ := cDPPD h0
  obtain ⟨s3, s4, s5, s6, r8, rfl, h16⟩ := cDDDD h8
  obtain ⟨s7, s8, s9, s10, r12, rfl, h24⟩ := cDDDD h16
  obtain ⟨rfl, h25⟩ := cN h24
  obtain ⟨s11, r13, rfl, h28⟩ := oD h25
  obtain ⟨s12, r15, rfl, h30⟩ := cR h28
  obtain ⟨rfl, h31⟩ := cN h30
  intro J hJ
  have hp : wH 15 Try.f15 (body Try.f15 11) nL := all_eq (by kernel_rfl) all_nil
  exact h31.of (fun s1 s2 s3 s4 s5 s6 s7 s8 s9 s10 s11 s12 => J [(16000011, .undef), (1, I s1), (2, .ptr 0 0 []), (5, .vec 1), (6, I s2), (27, I s3), (28, I s4), (31, .d (.sl w0) s5), (32, I s6), (33, I s7), (40, .d (.sl w5) s8), (41, I s9), (42, I s10)] [.one w1 (.d w1 s11), .row .bool s12 false]) (fun s1 s2 s3 s4 s5 s6 s7 s8 s9 s10 s11 s12 hb => loop_round2 hSl15r11 (inlOK _) hp hJ (by kernel_rfl) hb)
abbrev Ll15r8 : wL := [(16000011, [1, 2, 5, 6, 27, 28, 31, 32, 33, 40, 41, 42], none, lsl15r11)]
def lsl15r8 : LSp := fun vs σ K => dD wI vs fun s1 r1 => dP (.ptr 0 0 []) r1 fun r2 => dP (.vec 1) r2 fun r3 => dD wI r3 fun s2 r4 => dD wI r4 fun s3 r5 => dD (.sl w0) r5 fun s4 r6 => dD wI r6 fun s5 r7 => dD wI r7 fun s6 r8 => asNil r8 <| dO w1 w1 σ fun s7 r9 => dR .bool false r9 fun s8 r11 => asNil r11 <| l15r8 (fun z1 z2 z3 z4 z5 => K (.exit 2) [(1, I z1), (2, .ptr 0 0 []), (5, .vec 1), (27, I z2), (28, I z3)] [.one w1 (.d w1 z4), .row .bool z5 false]) s1 s2 s3 s4 s5 s6 s7 s8
theorem l15r8v : LoopV E wF (E.info 15).keep 0 Try.f15.ntmps 16000008 (body Try.f15 8) ([1, 2, 5, 27, 28, 31, 32, 33], lsl15r8) := by
  intro vs σ K h0
  obtain ⟨s1, s2, r4, rfl, h8⟩ := cDPPD h0
  obtain ⟨s3, s4, s5, s6, r8, rfl, h16⟩ := cDDDD h8
  obtain ⟨rfl, h17⟩ := cN h16
  obtain ⟨s7, r9, rfl, h20⟩ := oD h17
  obtain ⟨s8, r11, rfl, h22⟩ := cR h20
  obtain ⟨rfl, h23⟩ := cN h22
  intro J hJ
  have hp : wH 15 Try.f15 (body Try.f15 8) Ll15r8 := all_eq (by kernel_rfl : subsOf (E.info 15).keep (body Try.f15 8) = [.loop (body Try.f15 11)]) (all_cons (loopOK_of (mk := 16000011) (sl := [1, 2, 5, 6, 27, 28, 31, 32, 33, 40, 41, 42]) (ss := [([1, 2, 5, 6, 27, 28, 31, 32, 33, 40, 41, 42], lsl15r11)]) (by kernel_rfl) (by kernel_rfl) (all_cons l15r11v all_nil)) all_nil)
  exact h23.of (fun s1 s2 s3 s4 s5 s6 s7 s8 => J [(16000008, .undef), (1, I s1), (2, .ptr 0 0 []), (5, .vec 1), (27, I s2), (28, I s3), (31, .d (.sl w0) s4), (32, I s5), (33, I s6)] [.one w1 (.d w1 s7), .row .bool s8 false]) (fun s1 s2 s3 s4 s5 s6 s7 s8 hb => loop_round2 nS (inlOK _) hp hJ (by kernel_rfl) hb)
abbrev Ll15r6 : wL := [(16000008, [1, 2, 5, 27, 28, 31, 32, 33], none, lsl15r8)]
def lsl15r6 : LSp := fun vs σ K => dD wI vs fun s1 r1 => dP (.ptr 0 0 []) r1 fun r2 => dP (.vec 1) r2 fun r3 => dD wI r3 fun s2 r4 => dD wI r4 fun s3 r5 => asNil r5 <| dO w1 w1 σ fun s4 r6 => dR .bool false r6 fun s5 r8 => asNil r8 <| l15r6 (fun z1 => K (.exit 0) [(5, .vec 0)] [.row .bool z1 false]) s1 s2 s3 s4 s5
theorem l15r6v : LoopV E wF (E.info 15).keep 0 Try.f15.ntmps 16000006 (body Try.f15 6) ([1, 2, 5, 27, 28], lsl15r6) := by
  intro vs σ K h0
  obtain ⟨s1, s2, r4, rfl, h8⟩ := cDPPD h0
  obtain ⟨s3, r5, rfl, h10⟩ := cD h8
  obtain ⟨rfl, h11⟩ := cN h10
  obtain ⟨s4, r6, rfl, h14⟩ := oD h11
  obtain ⟨s5, r8, rfl, h16⟩ := cR h14
  obtain ⟨rfl, h17⟩ := cN h16
  intro J hJ
  have hp : wH 15 Try.f15 (body Try.f15 6) Ll15r6 := all_eq (by kernel_rfl : subsOf (E.info 15).keep (body Try.f15 6) = [.loop (body Try.f15 8)]) (all_cons (loopOK_of (mk := 16000008) (sl := [1, 2, 5, 27, 28, 31, 32, 33]) (ss := [([1, 2, 5, 27, 28, 31, 32, 33], lsl15r8)]) (by kernel_rfl) (by kernel_rfl) (all_cons l15r8v all_nil)) all_nil)
  exact h17.of (fun s1 s2 s3 s4 s5 => J [(16000006, .undef), (1, I s1), (2, .ptr 0 0 []), (5, .vec 1), (27, I s2), (28, I s3)] [.one w1 (.d w1 s4), .row .bool s5 false]) (fun s1 s2 s3 s4 s5 hb => loop_round2 nS (inlOK _) hp hJ (by kernel_rfl) hb)
abbrev L15 : wL := [(16000006, [1, 2, 5, 27, 28], none, lsl15r6)]
def sp15 : Sp := fun args τ K => dD w1 args fun x1 r1 => dD wI r1 fun x2 r2 => asNil r2 <| asNil τ <| c15 x1 x2 (fun z1 => K (.vec 0) [.row .bool z1 false])
theorem h15 : ∀ args τ K, sp15 args τ K → ACall E 15 args τ K := by
  intro args τ K h0
  obtain ⟨x1, x2, r2, rfl, h4⟩ := cDD h0
  obtain ⟨rfl, rfl, h6⟩ := cM h4
  exact ACall.spec2 (fn := Try.f15) (c := codeOf Try.f15) (L := lofL L15) nS (by kernel_rfl) (by kernel_rfl) (inlOK _) (all_eq (by kernel_rfl : subsOf (E.info 15).keep (codeOf Try.f15) = [.loop (body Try.f15 6)]) (all_cons (loopOK_of (mk := 16000006) (sl := [1, 2, 5, 27, 28]) (ss := [([1, 2, 5, 27, 28], lsl15r6)]) (by kernel_rfl) (by kernel_rfl) (all_cons l15r6v all_nil)) all_nil)) (by kernel_rfl) h6.of
def lsl16r6 : LSp := fun vs σ K => dD wI vs fun s1 r1 => dD wI r1 fun s2 r2 => dD wI r2 fun s3 r3 => dD (.sl .bool) r3 fun s4 r4 => dP (.ptr 0 0 []) r4 fun r5 => dD wI r5 fun s5 r6 => dD .bool r6 fun s6 r7 => dD (.sl w0) r7 fun s7 r8 => dD wI r8 fun s8 r9 => dD wI r9 fun s9 r10 => dD (.sl (.pair wI (.pair wI w5))) r10 fun s10 r11 => dD wI r11 fun s11 r12 => dD wI r12 fun s12 r13 => asNil r13 <| dO w1 w1 σ fun s13 r14 => asNil r14 <| l16r6 (fun z1 z2 z3 z4 z5 z6 z7 z8 z9 z10 => K (.exit 2) [(1, I z1), (2, I z2), (3, I z3), (4, .d (.sl .bool) z4), (5, .ptr 0 0 []), (11, I z5), (13, B z6), (17, .d (.sl w0) z7), (18, I z8), (19, I z9)] [.one w1 (.d w1 z10)]) s1 s2 s3 s4 s5 s6 s7 s8 s9 s10 s11 s12 s13
theorem l16r6v : LoopV E wF (E.info 16).keep 0 Try.f16.ntmps 17000006 (body Try.f16 6) ([1, 2, 3, 4, 5, 11, 13, 17, 18, 19, 29, 30, 31], lsl16r6) := by
  intro vs σ K h0
  obtain ⟨s1, s2, s3, s4, r4, rfl, h8⟩ := cDDDD h0
  obtain ⟨s5, s6, s7, r8, rfl, h16⟩ := cPDDD h8
  obtain ⟨s8, s9, s10, s11, r12, rfl, h24⟩ := cDDDD h16
  obtain ⟨s12, r13, rfl, h26⟩ := cD h24
  obtain ⟨rfl, h27⟩ := cN h26
  obtain ⟨s13, r14, rfl, h30⟩ := oD h27
  obtain ⟨rfl, h31⟩ := cN h30
  intro J hJ
  have hp : wH 16 Try.f16 (body Try.f16 6) nL := all_eq (by kernel_rfl) all_nil
  exact h31.of (fun s1 s2 s3 s4 s5 s6 s7 s8 s9 s10 s11 s12 s13 => J [(17000006, .undef), (1, I s1), (2, I s2), (3, I s3), (4, .d (.sl .bool) s4), (5, .ptr 0 0 []), (11, I s5), (13, B s6), (17, .d (.sl w0) s7), (18, I s8), (19, I s9), (29, .d (.sl (.pair wI (.pair wI w5))) s10), (30, I s11), (31, I s12)] [.one w1 (.d w1 s13)]) (fun s1 s2 s3 s4 s5 s6 s7 s8 s9 s10 s11 s12 s13 hb => loop_round2 nS (inlOK _) hp hJ (by kernel_rfl) hb)
abbrev S29 : wS := [(15, none, sp15)]
theorem hS29 : SpecOK E (ofL S29) := specOK_cons h15 specOK_nil
def sp29 : Sp := fun args τ K => dD w1 args fun x1 r1 => dD wI r1 fun x2 r2 => dD wI r2 fun x3 r3 => asNil r3 <| asNil τ <| c29 x1 x2 x3 (fun z1 => K (B z1) [])
theorem h29 : ∀ args τ K, sp29 args τ K → ACall E 29 args τ K := by
  intro args τ K h0
  obtain ⟨x1, x2, x3, r3, rfl, h6⟩ := cDDD h0
  obtain ⟨rfl, rfl, h8⟩ := cM h6
  exact ACall.spec2 (fn := Try.f29) (c := codeOf Try.f29) (L := lofL nL) hS29 (by kernel_rfl) (by kernel_rfl) (inlOK _) (all_eq (by kernel_rfl) all_nil) (by kernel_rfl) h8.of
abbrev Sl16r2 : wS := [(24, none, sp24), (29, none, sp29)]
theorem hSl16r2 : SpecOK E (ofL Sl16r2) := specOK_cons h24 (specOK_cons h29 specOK_nil)
abbrev Ll16r2 : wL := [(17000006, [1, 2, 3, 4, 5, 11, 13, 17, 18, 19, 29, 30, 31], none, lsl16r6)]
def lsl16r2 : LSp := fun vs σ K => dD wI vs fun s1 r1 => dD wI r1 fun s2 r2 => dD wI r2 fun s3 r3 => dD (.sl .bool) r3 fun s4 r4 => dP (.ptr 0 0 []) r4 fun r5 => dD (.sl w0) r5 fun s5 r6 => dD wI r6 fun s6 r7 => dD wI r7 fun s7 r8 => asNil r8 <| dO w1 w1 σ fun s8 r9 => asNil r9 <| l16r2 (fun z1 => K .ret [(10, B z1)] []) (K (.exit 0) [(10, .undef)] []) s1 s2 s3 s4 s5 s6 s7 s8
theorem l16r2v : LoopV E wF (E.info 16).keep 0 Try.f16.ntmps 17000002 (body Try.f16 2) ([1, 2, 3, 4, 5, 17, 18, 19], lsl16r2) := by
  intro vs σ K h0
  obtain ⟨s1, s2, s3, s4, r4, rfl, h8⟩ := cDDDD h0
  obtain ⟨s5, s6, s7, r8, rfl, h16⟩ := cPDDD h8
  obtain ⟨rfl, h17⟩ := cN h16
  obtain ⟨s8, r9, rfl, h20⟩ := oD h17
  obtain ⟨rfl, h21⟩ := cN h20
  intro J hJ
  have hp : wH 16 Try.f16 (body Try.f16 2) Ll16r2 := all_eq (by kernel_rfl : subsOf (E.info 16).keep (body Try.f16 2) = [.loop (body Try.f16 6)]) (all_cons (loopOK_of (mk := 17000006) (sl := [1, 2, 3, 4, 5, 11, 13, 17, 18, 19, 29, 30, 31]) (ss := [([1, 2, 3, 4, 5, 11, 13, 17, 18, 19, 29, 30, 31], lsl16r6)]) (by kernel_rfl) (by kernel_rfl) (all_cons l16r6v all_nil)) all_nil)
  exact h21.of (fun s1 s2 s3 s4 s5 s6 s7 s8 => J [(17000002, .undef), (1, I s1), (2, I s2), (3, I s3), (4, .d (.sl .bool) s4), (5, .ptr 0 0 []), (17, .d (.sl w0) s5), (18, I s6), (19, I s7)] [.one w1 (.d w1 s8)]) (fun s1 s2 s3 s4 s5 s6 s7 s8 hb => loop_round2 hSl16r2 (inlOK _) hp hJ (by kernel_rfl) hb)
abbrev L16 : wL := [(17000002, [1, 2, 3, 4, 5, 17, 18, 19], none, lsl16r2)]
def sp16 : Sp := fun args τ K => dD w1 args fun x1 r1 => dD wI r1 fun x2 r2 => dD wI r2 fun x3 r3 => dD wI r3 fun x4 r4 => dD (.sl .bool) r4 fun x5 r5 => asNil r5 <| asNil τ <| c16 x1 x2 x3 x4 x5 (fun z1 => K (B z1) [])
theorem h16 : ∀ args τ K, sp16 args τ K → ACall E 16 args τ K := by
  intro args τ K h0
  obtain ⟨x1, x2, x3, x4, r4, rfl, h8⟩ := cDDDD h0
  obtain ⟨x5, r5, rfl, h10⟩ := cD h8
  obtain ⟨rfl, rfl, h12⟩ := cM h10
  exact ACall.spec2 (fn := Try.f16) (c := codeOf Try.f16) (L := lofL L16) nS (by kernel_rfl) (by kernel_rfl) (inlOK _) (all_eq (by kernel_rfl : subsOf (E.info 16).keep (codeOf Try.f16) = [.loop (body Try.f16 2)]) (all_cons (loopOK_of (mk := 17000002) (sl := [1, 2, 3, 4, 5, 17, 18, 19]) (ss := [([1, 2, 3, 4, 5, 17, 18, 19], lsl16r2)]) (by kernel_rfl) (by kernel_rfl) (all_cons l16r2v all_nil)) all_nil)) (by kernel_rfl) h12.of
abbrev Sl7r24 : wS := [(16, none, sp16)]
theorem hSl7r24 : SpecOK E (ofL Sl7r24) := specOK_cons h16 specOK_nil
def lsl7r24 : LSp := fun vs σ K => dP (.ptr 0 0 []) vs fun r1 => dP (.vec 1) r1 fun r2 => dD wI r2 fun s1 r3 => dP (.ptr 2 0 []) r3 fun r4 => dD wI r4 fun s2 r5 => dD (.sl w0) r5 fun s3 r6 => dD wI r6 fun s4 r7 => dD wI r7 fun s5 r8 => dD (.sl (.pair wI (.pair wI w5))) r8 fun s6 r9 => dD wI r9 fun s7 r10 => dD wI r10 fun s8 r11 => dD (.sl wI) r11 fun s9 r12 => dD wI r12 fun s10 r13 => dD wI r13 fun s11 r14 => asNil r14 <| dO w1 w1 σ fun s12 r15 => dR .bool false r15 fun s13 r17 => dO w0 w0 r17 fun s14 r18 => asNil r18 <| l7r24 (fun z1 => K .ret [(1, .undef), (2, I z1), (7, .undef), (8, .undef), (9, .undef), (62, .undef), (63, .undef), (64, .undef), (70, .undef), (71, .undef), (72, .undef)] []) (fun z1 z2 z3 z4 z5 z6 z7 z8 z9 z10 => K (.exit 6) [(1, .ptr 0 0 []), (2, .undef), (7, .vec 1), (8, I z1), (9, .ptr 2 0 []), (62, .d (.sl w0) z2), (63, I z3), (64, I z4), (70, .d (.sl (.pair wI (.pair wI w5))) z5), (71, I z6), (72, I z7)] [.one w1 (.d w1 z8), .row .bool z9 false, .one w0 (.d w0 z10)]) s1 s2 s3 s4 s5 s6 s7 s8 s9 s10 s11 s12 s13 s14
theorem l7r24v : LoopV E wF (E.info 7).keep 0 Try.f7.ntmps 8000024 (body Try.f7 24) ([1, 7, 8, 9, 10, 62, 63, 64, 70, 71, 72, 78, 79, 80], lsl7r24) := by
  intro vs σ K h0
  obtain ⟨s1, r4, rfl, h8⟩ := cPPDP h0
  obtain ⟨s2, s3, s4, s5, r8, rfl, h16⟩ := cDDDD h8
  obtain ⟨s6, s7, s8, s9, r12, rfl, h24⟩ := cDDDD h16
  obtain ⟨s10, s11, r14, rfl, h28⟩ := cDD h24
  obtain ⟨rfl, h29⟩ := cN h28
  obtain ⟨s12, r15, rfl, h32⟩ := oD h29
  obtain ⟨s13, r17, rfl, h34⟩ := cR h32
  obtain ⟨s14, r18, rfl, h37⟩ := oD h34
  obtain ⟨rfl, h38⟩ := cN h37
  intro J hJ
  have hp : wH 7 Try.f7 (body Try.f7 24) nL := all_eq (by kernel_rfl) all_nil
  exact h38.of (fun s1 s2 s3 s4 s5 s6 s7 s8 s9 s10 s11 s12 s13 s14 => J [(8000024, .undef), (1, .ptr 0 0 []), (7, .vec 1), (8, I s1), (9, .ptr 2 0 []), (10, I s2), (62, .d (.sl w0) s3), (63, I s4), (64, I s5), (70, .d (.sl (.pair wI (.pair wI w5))) s6), (71, I s7), (72, I s8), (78, .d (.sl wI) s9), (79, I s10), (80, I s11)] [.one w1 (.d w1 s12), .row .bool s13 false, .one w0 (.d w0 s14)]) (fun s1 s2 s3 s4 s5 s6 s7 s8 s9 s10 s11 s12 s13 s14 hb => loop_round2 hSl7r24 (inlOK _) hp hJ (by kernel_rfl) hb)
abbrev Ll7r21 : wL := [(8000024, [1, 7, 8, 9, 10, 62, 63, 64, 70, 71, 72, 78, 79, 80], none, lsl7r24)]
def lsl7r21 : LSp := fun vs σ K => dP (.ptr 0 0 []) vs fun r1 => dP (.vec 1) r1 fun r2 => dD wI r2 fun s1 r3 => dP (.ptr 2 0 []) r3 fun r4 => dD (.sl w0) r4 fun s2 r5 => dD wI r5 fun s3 r6 => dD wI r6 fun s4 r7 => dD (.sl (.pair wI (.pair wI w5))) r7 fun s5 r8 => dD wI r8 fun s6 r9 => dD wI r9 fun s7 r10 => asNil r10 <| dO w1 w1 σ fun s8 r11 => dR .bool false r11 fun s9 r13 => dO w0 w0 r13 fun s10 r14 => asNil r14 <| l7r21 (fun z1 => K .ret [(1, .undef), (2, I z1), (7, .undef), (8, .undef), (9, .undef), (62, .undef), (63, .undef), (64, .undef)] []) (fun z1 z2 z3 z4 z5 z6 z7 => K (.exit 4) [(1, .ptr 0 0 []), (2, .undef), (7, .vec 1), (8, I z1), (9, .ptr 2 0 []), (62, .d (.sl w0) z2), (63, I z3), (64, I z4)] [.one w1 (.d w1 z5), .row .bool z6 false, .one w0 (.d w0 z7)]) s1 s2 s3 s4 s5 s6 s7 s8 s9 s10
theorem l7r21v : LoopV E wF (E.info 7).keep 0 Try.f7.ntmps 8000021 (body Try.f7 21) ([1, 7, 8, 9, 62, 63, 64, 70, 71, 72], lsl7r21) := by
  intro vs σ K h0
  obtain ⟨s1, r4, rfl, h8⟩ := cPPDP h0
  obtain ⟨s2, s3, s4, s5, r8, rfl, h16⟩ := cDDDD h8
  obtain ⟨s6, s7, r10, rfl, h20⟩ := cDD h16
  obtain ⟨rfl, h21⟩ := cN h20
  obtain ⟨s8, r11, rfl, h24⟩ := oD h21
  obtain ⟨s9, r13, rfl, h26⟩ := cR h24
  obtain ⟨s10, r14, rfl, h29⟩ := oD h26
  obtain ⟨rfl, h30⟩ := cN h29
  intro J hJ
  have hp : wH 7 Try.f7 (body Try.f7 21) Ll7r21 := all_eq (by kernel_rfl : subsOf (E.info 7).keep (body Try.f7 21) = [.loop (body Try.f7 24)]) (all_cons (loopOK_of (mk := 8000024) (sl := [1, 7, 8, 9, 10, 62, 63, 64, 70, 71, 72, 78, 79, 80]) (ss := [([1, 7, 8, 9, 10, 62, 63, 64, 70, 71, 72, 78, 79, 80], lsl7r24)]) (by kernel_rfl) (by kernel_rfl) (all_cons l7r24v all_nil)) all_nil)
  exact h30.of (fun s1 s2 s3 s4 s5 s6 s7 s8 s9 s10 => J [(8000021, .undef), (1, .ptr 0 0 []), (7, .vec 1), (8, I s1), (9, .ptr 2 0 []), (62, .d (.sl w0) s2), (63, I s3), (64, I s4), (70, .d (.sl (.pair wI (.pair wI w5))) s5), (71, I s6), (72, I s7)] [.one w1 (.d w1 s8), .row .bool s9 false, .one w0 (.d w0 s10)]) (fun s1 s2 s3 s4 s5 s6 s7 s8 s9 s10 hb => loop_round2 nS (inlOK _) hp hJ (by kernel_rfl) hb)
def lsl17r5 : LSp := fun vs σ K => dP (.vec 0) vs fun r1 => dD (.sl w5) r1 fun s1 r2 => dD wI r2 fun s2 r3 => dD wI r3 fun s3 r4 => asNil r4 <| dR wI false σ fun s4 r5 => asNil r5 <| l17r5 (fun z1 => K (.exit 0) [(3, .vec 0)] [.row wI z1 false]) s1 s2 s3 s4
theorem l17r5v : LoopV E wF (E.info 17).keep 0 Try.f17.ntmps 18000005 (body Try.f17 5) ([3, 25, 26, 27], lsl17r5) := by
  intro vs σ K h0
  obtain ⟨s1, s2, s3, r4, rfl, h8⟩ := cPDDD h0
  obtain ⟨rfl, h9⟩ := cN h8
  obtain ⟨s4, r5, rfl, h11⟩ := cR h9
  obtain ⟨rfl, h12⟩ := cN h11
  intro J hJ
  have hp : wH 17 Try.f17 (body Try.f17 5) nL := all_eq (by kernel_rfl) all_nil
  exact h12.of (fun s1 s2 s3 s4 => J [(18000005, .undef), (3, .vec 0), (25, .d (.sl w5) s1), (26, I s2), (27, I s3)] [.row wI s4 false]) (fun s1 s2 s3 s4 hb => loop_round2 nS (inlOK _) hp hJ (by kernel_rfl) hb)
abbrev L17 : wL := [(18000005, [3, 25, 26, 27], none, lsl17r5)]
def sp17 : Sp := fun args τ K => dD w3 args fun x1 r1 => asNil r1 <| asNil τ <| c17 x1 (fun z1 => K (.vec 0) [.row wI z1 false])
theorem h17 : ∀ args τ K, sp17 args τ K → ACall E 17 args τ K := by
  intro args τ K h0
  obtain ⟨x1, r1, rfl, h2⟩ := cD h0
  obtain ⟨rfl, rfl, h4⟩ := cM h2
  exact ACall.spec2 (fn := Try.f17) (c := codeOf Try.f17) (L := lofL L17) nS (by kernel_rfl) (by kernel_rfl) (inlOK _) (all_eq (by kernel_rfl : subsOf (E.info 17).keep (codeOf Try.f17) = [.loop (body Try.f17 5)]) (all_cons (loopOK_of (mk := 18000005) (sl := [3, 25, 26, 27]) (ss := [([3, 25, 26, 27], lsl17r5)]) (by kernel_rfl) (by kernel_rfl) (all_cons l17r5v all_nil)) all_nil)) (by kernel_rfl) h4.of
abbrev Sl7r31 : wS := [(16, none, sp16)]
theorem hSl7r31 : SpecOK E (ofL Sl7r31) := specOK_cons h16 specOK_nil
def lsl7r31 : LSp := fun vs σ K => dP (.ptr 0 0 []) vs fun r1 => dP (.vec 1) r1 fun r2 => dD wI r2 fun s1 r3 => dP (.ptr 2 0 []) r3 fun r4 => dD (.sl w0) r4 fun s2 r5 => dD wI r5 fun s3 r6 => dD wI r6 fun s4 r7 => dP (.vec 3) r7 fun r8 => dD wI r8 fun s5 r9 => dD wI r9 fun s6 r10 => asNil r10 <| dO w1 w1 σ fun s7 r11 => dR .bool false r11 fun s8 r13 => dO w0 w0 r13 fun s9 r14 => dR wI false r14 fun s10 r16 => asNil r16 <| l7r31 (fun z1 => K .ret [(1, .undef), (2, I z1), (7, .undef), (62, .undef), (63, .undef), (64, .undef)] []) (fun z1 z2 z3 z4 z5 => K (.exit 8) [(1, .ptr 0 0 []), (2, .undef), (7, .vec 1), (62, .d (.sl w0) z1), (63, I z2), (64, I z3)] [.one w1 (.d w1 z4), .row .bool z5 false]) s1 s2 s3 s4 s5 s6 s7 s8 s9 s10
theorem l7r31v : LoopV E wF (E.info 7).keep 0 Try.f7.ntmps 8000031 (body Try.f7 31) ([1, 7, 8, 9, 62, 63, 64, 95, 96, 97], lsl7r31) := by
  intro vs σ K h0
  obtain ⟨s1, r4, rfl, h8⟩ := cPPDP h0
  obtain ⟨s2, s3, s4, r8, rfl, h16⟩ := cDDDP h8
  obtain ⟨s5, s6, r10, rfl, h20⟩ := cDD h16
  obtain ⟨rfl, h21⟩ := cN h20
  obtain ⟨s7, r11, rfl, h24⟩ := oD h21
  obtain ⟨s8, r13, rfl, h26⟩ := cR h24
  obtain ⟨s9, r14, rfl, h29⟩ := oD h26
  obtain ⟨s10, r16, rfl, h31⟩ := cR h29
  obtain ⟨rfl, h32⟩ := cN h31
  intro J hJ
  have hp : wH 7 Try.f7 (body Try.f7 31) nL := all_eq (by kernel_rfl) all_nil
  exact h32.of (fun s1 s2 s3 s4 s5 s6 s7 s8 s9 s10 => J [(8000031, .undef), (1, .ptr 0 0 []), (7, .vec 1), (8, I s1), (9, .ptr 2 0 []), (62, .d (.sl w0) s2), (63, I s3), (64, I s4), (95, .vec 3), (96, I s5), (97, I s6)] [.one w1 (.d w1 s7), .row .bool s8 false, .one w0 (.d w0 s9), .row wI s10 false]) (fun s1 s2 s3 s4 s5 s6 s7 s8 s9 s10 hb => loop_round2 hSl7r31 (inlOK _) hp hJ (by kernel_rfl) hb)
abbrev Sl7r18 : wS := [(17, none, sp17)]
theorem hSl7r18 : SpecOK E (ofL Sl7r18) := specOK_cons h17 specOK_nil
abbrev Ll7r18 : wL := [(8000021, [1, 7, 8, 9, 62, 63, 64, 70, 71, 72], none, lsl7r21), (8000031, [1, 7, 8, 9, 62, 63, 64, 95, 96, 97], none, lsl7r31)]
def lsl7r18 : LSp := fun vs σ K => dP (.ptr 0 0 []) vs fun r1 => dP (.vec 1) r1 fun r2 => dD (.sl w0) r2 fun s1 r3 => dD wI r3 fun s2 r4 => dD wI r4 fun s3 r5 => asNil r5 <| dO w1 w1 σ fun s4 r6 => dR .bool false r6 fun s5 r8 => asNil r8 <| l7r18 (fun z1 => K .ret [(2, I z1)] []) (K (.exit 2) [(2, .undef)] []) s1 s2 s3 s4 s5
theorem l7r18v : LoopV E wF (E.info 7).keep 0 Try.f7.ntmps 8000018 (body Try.f7 18) ([1, 7, 62, 63, 64], lsl7r18) := by
  intro vs σ K h0
  obtain ⟨s1, s2, r4, rfl, h8⟩ := cPPDD h0
  obtain ⟨s3, r5, rfl, h10⟩ := cD h8
  obtain ⟨rfl, h11⟩ := cN h10
  obtain ⟨s4, r6, rfl, h14⟩ := oD h11
  obtain ⟨s5, r8, rfl, h16⟩ := cR h14
  obtain ⟨rfl, h17⟩ := cN h16
  intro J hJ
  have hp : wH 7 Try.f7 (body Try.f7 18) Ll7r18 := all_eq (by kernel_rfl : subsOf (E.info 7).keep (body Try.f7 18) = [.loop (body Try.f7 21), .loop (body Try.f7 31)]) (all_cons (loopOK_of (mk := 8000021) (sl := [1, 7, 8, 9, 62, 63, 64, 70, 71, 72]) (ss := [([1, 7, 8, 9, 62, 63, 64, 70, 71, 72], lsl7r21)]) (by kernel_rfl) (by kernel_rfl) (all_cons l7r21v all_nil)) (all_cons (loopOK_of (mk := 8000031) (sl := [1, 7, 8, 9, 62, 63, 64, 95, 96, 97]) (ss := [([1, 7, 8, 9, 62, 63, 64, 95, 96, 97], lsl7r31)]) (by kernel_rfl) (by kernel_rfl) (all_cons l7r31v all_nil)) all_nil))
  exact h17.of (fun s1 s2 s3 s4 s5 => J [(8000018, .undef), (1, .ptr 0 0 []), (7, .vec 1), (62, .d (.sl w0) s1), (63, I s2), (64, I s3)] [.one w1 (.d w1 s4), .row .bool s5 false]) (fun s1 s2 s3 s4 s5 hb => loop_round2 hSl7r18 (inlOK _) hp hJ (by kernel_rfl) hb)
abbrev S7 : wS := [(13, none, sp13), (14, none, sp14), (15, none, sp15)]
theorem hS7 : SpecOK E (ofL S7) := specOK_cons h13 (specOK_cons h14 (specOK_cons h15 specOK_nil))
abbrev L7 : wL := [(8000003, [1, 3, 17, 18, 19], none, lsl7r3), (8000018, [1, 7, 62, 63, 64], none, lsl7r18)]
def sp7 : Sp := fun args τ K => dD w1 args fun x1 r1 => asNil r1 <| asNil τ <| c7 x1 (fun z1 => K (I z1) [])
theorem h7 : ∀ args τ K, sp7 args τ K → ACall E 7 args τ K := by
  intro args τ K h0
  obtain ⟨x1, r1, rfl, h2⟩ := cD h0
  obtain ⟨rfl, rfl, h4⟩ := cM h2
  exact ACall.spec2 (fn := Try.f7) (c := codeOf Try.f7) (L := lofL L7) hS7 (by kernel_rfl) (by kernel_rfl) (inlOK _) (all_eq (by kernel_rfl : subsOf (E.info 7).keep (codeOf Try.f7) = [.loop (body Try.f7 3), .loop (body Try.f7 18)]) (all_cons (loopOK_of (mk := 8000003) (sl := [1, 3, 17, 18, 19]) (ss := [([1, 3, 17, 18, 19], lsl7r3)]) (by kernel_rfl) (by kernel_rfl) (all_cons l7r3v all_nil)) (all_cons (loopOK_of (mk := 8000018) (sl := [1, 7, 62, 63, 64]) (ss := [([1, 7, 62, 63, 64], lsl7r18)]) (by kernel_rfl) (by kernel_rfl) (all_cons l7r18v all_nil)) all_nil))) (by kernel_rfl) h4.of
abbrev Sl32r7v2 : wS := [(43, none, sp43)]
theorem hSl32r7v2 : SpecOK E (ofL Sl32r7v2) := specOK_cons h43 specOK_nil
def lsl32r7v2 : LSp := fun vs σ K => dP (.ptr 0 0 []) vs fun r1 => dP (.vec 2) r1 fun r2 => dP (.ptr 4 0 []) r2 fun r3 => dP (.vec 5) r3 fun r4 => dP (.ptr 6 0 []) r4 fun r5 => dD (.sl w5) r5 fun s1 r6 => dD wI r6 fun s2 r7 => dD wI r7 fun s3 r8 => dP (.vec 3) r8 fun r9 => dD wI r9 fun s4 r10 => dD wI r10 fun s5 r11 => asNil r11 <| asCons σ fun a12 r12 => asOne w4 a12 fun a13 => asAgL a13 fun l14 => dD w1 l14 fun s6 r15 => dD wI r15 fun s7 r16 => dP (.vec 1) r16 fun r17 => asNil r17 <| asCons r12 fun a18 r18 => asDeep .bool a18 fun s8 l19 => asNil l19 <| asCons r18 fun a20 r20 => asDeep .bool a20 fun s9 l21 => asCons l21 fun a22 r22 => asHole 3 a22 fun s10 => asNil r22 <| dR .bool false r20 fun s11 r23 => dO w3 w3 r23 fun s12 r24 => dR .bool false r24 fun s13 r26 => dO w5 w5 r26 fun s14 r27 => asNil r27 <| l32r7v2 (fun z1 z2 z3 z4 z5 z6 z7 z8 z9 => K (.exit 2) [(0, .ptr 0 0 []), (2, .vec 2), (7, .ptr 3 0 []), (8, .vec 4), (32, .d (.sl w5) z1), (33, I z2), (34, I z3)] [.one w4 (.agg [.d w1 z4, I z5, .vec 1]), .deep .bool z6 [], .deep .bool z7 [], .one w3 (.d w3 z8), .row .bool z9 false]) s1 s2 s3 s4 s5 s6 s7 s8 s9 s10 s11 s12 s13 s14
theorem l32r7v2v : LoopV E wF (E.info 32).keep 3 Try.f32.ntmps 33000007 (body Try.f32 7) ([0, 2, 7, 8, 10, 32, 33, 34, 42, 43, 44], lsl32r7v2) := by
  intro vs σ K h0
  obtain ⟨r4, rfl, h8⟩ := cPPPP h0
  obtain ⟨s1, s2, s3, r8, rfl, h16⟩ := cPDDD h8
  obtain ⟨s4, s5, r11, rfl, h22⟩ := cPDD h16
  obtain ⟨rfl, h23⟩ := cN h22
  obtain ⟨a12, r12, rfl, h24⟩ := asCons_inv h23
  obtain ⟨a13, rfl, h25⟩ := asOne_inv h24
  obtain ⟨l14, rfl, h26⟩ := asAgL_inv h25
  obtain ⟨s6, s7, r17, rfl, h32⟩ := cDDP h26
  obtain ⟨rfl, h33⟩ := cN h32
  obtain ⟨a18, r18, rfl, h34⟩ := asCons_inv h33
  obtain ⟨s8, l19, rfl, h35⟩ := asDeep_inv h34
  obtain ⟨rfl, h36⟩ := cN h35
  obtain ⟨a20, r20, rfl, h37⟩ := asCons_inv h36
  obtain ⟨s9, l21, rfl, h38⟩ := asDeep_inv h37
  obtain ⟨a22, r22, rfl, h39⟩ := asCons_inv h38
  obtain ⟨s10, rfl, h40⟩ := asHole_inv h39
  obtain ⟨rfl, h41⟩ := cN h40
  obtain ⟨s11, r23, rfl, h43⟩ := cR h41
  obtain ⟨s12, r24, rfl, h46⟩ := oD h43
  obtain ⟨s13, r26, rfl, h48⟩ := cR h46
  obtain ⟨s14, r27, rfl, h51⟩ := oD h48
  obtain ⟨rfl, h52⟩ := cN h51
  intro J hJ
  have hp : ∀ c' ∈ subsOf (E.info 32).keep (body Try.f32 7), SubOK E wF (E.info 32).keep 3 Try.f32.ntmps (lofL nL) c' := all_eq (by kernel_rfl) all_nil
  exact h52.of (fun s1 s2 s3 s4 s5 s6 s7 s8 s9 s10 s11 s12 s13 s14 => J [(33000007, .undef), (0, .ptr 0 0 []), (2, .vec 2), (7, .ptr 4 0 []), (8, .vec 5), (10, .ptr 6 0 []), (32, .d (.sl w5) s1), (33, I s2), (34, I s3), (42, .vec 3), (43, I s4), (44, I s5)] [.one w4 (.agg [.d w1 s6, I s7, .vec 1]), .deep .bool s8 [], .deep .bool s9 [(s10, 3)], .row .bool s11 false, .one w3 (.d w3 s12), .row .bool s13 false, .one w5 (.d w5 s14)]) (fun s1 s2 s3 s4 s5 s6 s7 s8 s9 s10 s11 s12 s13 s14 hb => loop_round2 hSl32r7v2 (inlOK _) hp hJ (by kernel_rfl) hb)
abbrev Ll32r4v2 : wL := [(33000007, [0, 2, 7, 8, 10, 32, 33, 34, 42, 43, 44], none, lsl32r7v2)]
def lsl32r4v2 : LSp := fun vs σ K => dP (.ptr 0 0 []) vs fun r1 => dP (.vec 2) r1 fun r2 => dP (.ptr 3 0 []) r2 fun r3 => dP (.vec 4) r3 fun r4 => dD (.sl w5) r4 fun s1 r5 => dD wI r5 fun s2 r6 => dD wI r6 fun s3 r7 => asNil r7 <| asCons σ fun a8 r8 => asOne w4 a8 fun a9 => asAgL a9 fun l10 => dD w1 l10 fun s4 r11 => dD wI r11 fun s5 r12 => dP (.vec 1) r12 fun r13 => asNil r13 <| asCons r8 fun a14 r14 => asDeep .bool a14 fun s6 l15 => asNil l15 <| asCons r14 fun a16 r16 => asDeep .bool a16 fun s7 l17 => asNil l17 <| dO w3 w3 r16 fun s8 r18 => dR .bool false r18 fun s9 r20 => asNil r20 <| l32r4v2 (fun z1 z2 z3 z4 z5 z6 => K (.exit 0) [(7, .ptr 3 0 []), (8, .vec 4)] [.one w4 (.agg [.d w1 z1, I z2, .vec 1]), .deep .bool z3 [], .deep .bool z4 [], .one w3 (.d w3 z5), .row .bool z6 false]) s1 s2 s3 s4 s5 s6 s7 s8 s9
theorem l32r4v2v : LoopV E wF (E.info 32).keep 3 Try.f32.ntmps 33000004 (body Try.f32 4) ([0, 2, 7, 8, 32, 33, 34], lsl32r4v2) := by
  intro vs σ K h0
  obtain ⟨r4, rfl, h8⟩ := cPPPP h0
  obtain ⟨s1, s2, s3, r7, rfl, h14⟩ := cDDD h8
  obtain ⟨rfl, h15⟩ := cN h14
  obtain ⟨a8, r8, rfl, h16⟩ := asCons_inv h15
  obtain ⟨a9, rfl, h17⟩ := asOne_inv h16
  obtain ⟨l10, rfl, h18⟩ := asAgL_inv h17
  obtain ⟨s4, s5, r13, rfl, h24⟩ := cDDP h18
  obtain ⟨rfl, h25⟩ := cN h24
  obtain ⟨a14, r14, rfl, h26⟩ := asCons_inv h25
  obtain ⟨s6, l15, rfl, h27⟩ := asDeep_inv h26
  obtain ⟨rfl, h28⟩ := cN h27
  obtain ⟨a16, r16, rfl, h29⟩ := asCons_inv h28
  obtain ⟨s7, l17, rfl, h30⟩ := asDeep_inv h29
  obtain ⟨rfl, h31⟩ := cN h30
  obtain ⟨s8, r18, rfl, h34⟩ := oD h31
  obtain ⟨s9, r20, rfl, h36⟩ := cR h34
  obtain ⟨rfl, h37⟩ := cN h36
  intro J hJ
  have hp : ∀ c' ∈ subsOf (E.info 32).keep (body Try.f32 4), SubOK E wF (E.info 32).keep 3 Try.f32.ntmps (lofL Ll32r4v2) c' := all_eq (by kernel_rfl : subsOf (E.info 32).keep (body Try.f32 4) = [.loop (body Try.f32 7)]) (all_cons (loopOK_of (mk := 33000007) (sl := [0, 2, 7, 8, 10, 32, 33, 34, 42, 43, 44]) (ss := [([0, 2, 7, 8, 10, 32, 33, 34, 42, 43, 44], lsl32r7v2)]) (by kernel_rfl) (by kernel_rfl) (all_cons l32r7v2v all_nil)) all_nil)
  exact h37.of (fun s1 s2 s3 s4 s5 s6 s7 s8 s9 => J [(33000004, .undef), (0, .ptr 0 0 []), (2, .vec 2), (7, .ptr 3 0 []), (8, .vec 4), (32, .d (.sl w5) s1), (33, I s2), (34, I s3)] [.one w4 (.agg [.d w1 s4, I s5, .vec 1]), .deep .bool s6 [], .deep .bool s7 [], .one w3 (.d w3 s8), .row .bool s9 false]) (fun s1 s2 s3 s4 s5 s6 s7 s8 s9 hb => loop_round2 nS (inlOK _) hp hJ (by kernel_rfl) hb)
def lsl32r19v2 : LSp := fun vs σ K => dP (.vec 3) vs fun r1 => dD (.sl w5) r1 fun s1 r2 => dD wI r2 fun s2 r3 => dD wI r3 fun s3 r4 => dD (.sl wI) r4 fun s4 r5 => dD wI r5 fun s5 r6 => dD wI r6 fun s6 r7 => asNil r7 <| asCons σ fun a8 r8 => asOne w4 a8 fun a9 => asAgL a9 fun l10 => dD w1 l10 fun s7 r11 => dD wI r11 fun s8 r12 => dP (.vec 1) r12 fun r13 => asNil r13 <| asCons r8 fun a14 r14 => asDeep .bool a14 fun s9 l15 => asNil l15 <| asCons r14 fun a16 r16 => asDeep .bool a16 fun s10 l17 => asNil l17 <| dR .bool false r16 fun s11 r18 => asNil r18 <| l32r19v2 (fun z1 z2 z3 z4 z5 z6 z7 z8 => K (.exit 6) [(8, .vec 3), (83, .d (.sl w5) z1), (84, I z2), (85, I z3)] [.one w4 (.agg [.d w1 z4, I z5, .vec 1]), .deep .bool z6 [], .deep .bool z7 [], .row .bool z8 false]) s1 s2 s3 s4 s5 s6 s7 s8 s9 s10 s11
theorem l32r19v2v : LoopV E wF (E.info 32).keep 3 Try.f32.ntmps 33000019 (body Try.f32 19) ([8, 83, 84, 85, 90, 91, 92], lsl32r19v2) := by
  intro vs σ K h0
  obtain ⟨s1, s2, s3, r4, rfl, h8⟩ := cPDDD h0
  obtain ⟨s4, s5, s6, r7, rfl, h14⟩ := cDDD h8
  obtain ⟨rfl, h15⟩ := cN h14
  obtain ⟨a8, r8, rfl, h16⟩ := asCons_inv h15
  obtain ⟨a9, rfl, h17⟩ := asOne_inv h16
  obtain ⟨l10, rfl, h18⟩ := asAgL_inv h17
  obtain ⟨s7, s8, r13, rfl, h24⟩ := cDDP h18
  obtain ⟨rfl, h25⟩ := cN h24
  obtain ⟨a14, r14, rfl, h26⟩ := asCons_inv h25
  obtain ⟨s9, l15, rfl, h27⟩ := asDeep_inv h26
  obtain ⟨rfl, h28⟩ := cN h27
  obtain ⟨a16, r16, rfl, h29⟩ := asCons_inv h28
  obtain ⟨s10, l17, rfl, h30⟩ := asDeep_inv h29
  obtain ⟨rfl, h31⟩ := cN h30
  obtain ⟨s11, r18, rfl, h33⟩ := cR h31
  obtain ⟨rfl, h34⟩ := cN h33
  intro J hJ
  have hp : ∀ c' ∈ subsOf (E.info 32).keep (body Try.f32 19), SubOK E wF (E.info 32).keep 3 Try.f32.ntmps (lofL nL) c' := all_eq (by kernel_rfl) all_nil
  exact h34.of (fun s1 s2 s3 s4 s5 s6 s7 s8 s9 s10 s11 => J [(33000019, .undef), (8, .vec 3), (83, .d (.sl w5) s1), (84, I s2), (85, I s3), (90, .d (.sl wI) s4), (91, I s5), (92, I s6)] [.one w4 (.agg [.d w1 s7, I s8, .vec 1]), .deep .bool s9 [], .deep .bool s10 [], .row .bool s11 false]) (fun s1 s2 s3 s4 s5 s6 s7 s8 s9 s10 s11 hb => loop_round2 nS (inlOK _) hp hJ (by kernel_rfl) hb)
abbrev Ll32r16v2 : wL := [(33000019, [8, 83, 84, 85, 90, 91, 92], none, lsl32r19v2)]
def lsl32r16v2 : LSp := fun vs σ K => dP (.vec 3) vs fun r1 => dD (.sl w5) r1 fun s1 r2 => dD wI r2 fun s2 r3 => dD wI r3 fun s3 r4 => asNil r4 <| asCons σ fun a5 r5 => asOne w4 a5 fun a6 => asAgL a6 fun l7 => dD w1 l7 fun s4 r8 => dD wI r8 fun s5 r9 => dP (.vec 1) r9 fun r10 => asNil r10 <| asCons r5 fun a11 r11 => asDeep .bool a11 fun s6 l12 => asNil l12 <| asCons r11 fun a13 r13 => asDeep .bool a13 fun s7 l14 => asNil l14 <| dR .bool false r13 fun s8 r15 => asNil r15 <| l32r16v2 (fun z1 z2 z3 z4 z5 => K (.exit 4) [(8, .vec 3)] [.one w4 (.agg [.d w1 z1, I z2, .vec 1]), .deep .bool z3 [], .deep .bool z4 [], .row .bool z5 false]) s1 s2 s3 s4 s5 s6 s7 s8
theorem l32r16v2v : LoopV E wF (E.info 32).keep 3 Try.f32.ntmps 33000016 (body Try.f32 16) ([8, 83, 84, 85], lsl32r16v2) := by
  intro vs σ K h0
  obtain ⟨s1, s2, s3, r4, rfl, h8⟩ := cPDDD h0
  obtain ⟨rfl, h9⟩ := cN h8
  obtain ⟨a5, r5, rfl, h10⟩ := asCons_inv h9
  obtain ⟨a6, rfl, h11⟩ := asOne_inv h10
  obtain ⟨l7, rfl, h12⟩ := asAgL_inv h11
  obtain ⟨s4, s5, r10, rfl, h18⟩ := cDDP h12
  obtain ⟨rfl, h19⟩ := cN h18
  obtain ⟨a11, r11, rfl, h20⟩ := asCons_inv h19
  obtain ⟨s6, l12, rfl, h21⟩ := asDeep_inv h20
  obtain ⟨rfl, h22⟩ := cN h21
  obtain ⟨a13, r13, rfl, h23⟩ := asCons_inv h22
  obtain ⟨s7, l14, rfl, h24⟩ := asDeep_inv h23
  obtain ⟨rfl, h25⟩ := cN h24
  obtain ⟨s8, r15, rfl, h27⟩ := cR h25
  obtain ⟨rfl, h28⟩ := cN h27
  intro J hJ
  have hp : ∀ c' ∈ subsOf (E.info 32).keep (body Try.f32 16), SubOK E wF (E.info 32).keep 3 Try.f32.ntmps (lofL Ll32r16v2) c' := all_eq (by kernel_rfl : subsOf (E.info 32).keep (body Try.f32 16) = [.loop (body Try.f32 19)]) (all_cons (loopOK_of (mk := 33000019) (sl := [8, 83, 84, 85, 90, 91, 92]) (ss := [([8, 83, 84, 85, 90, 91, 92], lsl32r19v2)]) (by kernel_rfl) (by kernel_rfl) (all_cons l32r19v2v all_nil)) all_nil)
  exact h28.of (fun s1 s2 s3 s4 s5 s6 s7 s8 => J [(33000016, .undef), (8, .vec 3), (83, .d (.sl w5) s1), (84, I s2), (85, I s3)] [.one w4 (.agg [.d w1 s4, I s5, .vec 1]), .deep .bool s6 [], .deep .bool s7 [], .row .bool s8 false]) (fun s1 s2 s3 s4 s5 s6 s7 s8 hb => loop_round2 nS (inlOK _) hp hJ (by kernel_rfl) hb)
abbrev L32v2 : wL := [(33000004, [0, 2, 7, 8, 32, 33, 34], none, lsl32r4v2), (33000016, [8, 83, 84, 85], none, lsl32r16v2)]
def sp32v2 : Sp := fun args τ K => dP (.ptr 0 0 []) args fun r1 => dD wI r1 fun x1 r2 => dP (.vec 2) r2 fun r3 => asNil r3 <| asCons τ fun a4 r4 => asOne w4 a4 fun a5 => asAgL a5 fun l6 => dD w1 l6 fun x2 r7 => dD wI r7 fun x3 r8 => dP (.vec 1) r8 fun r9 => asNil r9 <| asCons r4 fun a10 r10 => asDeep .bool a10 fun x4 l11 => asNil l11 <| asCons r10 fun a12 r12 => asDeep .bool a12 fun x5 l13 => asNil l13 <| asNil r12 <| c32v2 x1 x2 x3 x4 x5 (fun z1 z2 z3 z4 z5 => K (.vec 3) [.one w4 (.agg [.d w1 z1, I z2, .vec 1]), .deep .bool z3 [], .deep .bool z4 [], .row .bool z5 false])
theorem h32v2 : ∀ args τ K, sp32v2 args τ K → ACall E 32 args τ K := by
  intro args τ K h0
  obtain ⟨x1, r3, rfl, h6⟩ := cPDP h0
  obtain ⟨rfl, h7⟩ := cN h6
  obtain ⟨a4, r4, rfl, h8⟩ := asCons_inv h7
  obtain ⟨a5, rfl, h9⟩ := asOne_inv h8
  obtain ⟨l6, rfl, h10⟩ := asAgL_inv h9
  obtain ⟨x2, x3, r9, rfl, h16⟩ := cDDP h10
  obtain ⟨rfl, h17⟩ := cN h16
  obtain ⟨a10, r10, rfl, h18⟩ := asCons_inv h17
  obtain ⟨x4, l11, rfl, h19⟩ := asDeep_inv h18
  obtain ⟨rfl, h20⟩ := cN h19
  obtain ⟨a12, r12, rfl, h21⟩ := asCons_inv h20
  obtain ⟨x5, l13, rfl, h22⟩ := asDeep_inv h21
  obtain ⟨rfl, rfl, h24⟩ := cM h22
  exact ACall.spec2 (fn := Try.f32) (c := codeOf Try.f32) (L := lofL L32v2) nS (by kernel_rfl) (by kernel_rfl) (inlOK _) (all_eq (by kernel_rfl : subsOf (E.info 32).keep (codeOf Try.f32) = [.loop (body Try.f32 4), .loop (body Try.f32 16)]) (all_cons (loopOK_of (mk := 33000004) (sl := [0, 2, 7, 8, 32, 33, 34]) (ss := [([0, 2, 7, 8, 32, 33, 34], lsl32r4v2)]) (by kernel_rfl) (by kernel_rfl) (all_cons l32r4v2v all_nil)) (all_cons (loopOK_of (mk := 33000016) (sl := [8, 83, 84, 85]) (ss := [([8, 83, 84, 85], lsl32r16v2)]) (by kernel_rfl) (by kernel_rfl) (all_cons l32r16v2v all_nil)) all_nil))) (by kernel_rfl) h24.of
def lsl19r12v3 : LSp := fun vs σ K => dD (.opq .func) vs fun s1 r1 => dP (.ptr 2 0 []) r1 fun r2 => dP (.vec 3) r2 fun r3 => dD wI r3 fun s2 r4 => dD (.sl wI) r4 fun s3 r5 => dD wI r5 fun s4 r6 => dD wI r6 fun s5 r7 => asNil r7 <| asCons σ fun a8 r8 => asOne w4 a8 fun a9 => asAgL a9 fun l10 => dD w1 l10 fun s6 r11 => dD wI r11 fun s7 r12 => dP (.vec 1) r12 fun r13 => asNil r13 <| asCons r8 fun a14 r14 => asDeep .bool a14 fun s8 l15 => asNil l15 <| dO w0 w0 r14 fun s9 r16 => dR .bool false r16 fun s10 r18 => asNil r18 <| l19r12v3 (fun z1 z2 z3 z4 z5 z6 z7 => K (.exit 2) [(2, .d (.opq .func) z1), (7, .ptr 2 0 []), (8, .vec 3), (9, I z2)] [.one w4 (.agg [.d w1 z3, I z4, .vec 1]), .deep .bool z5 [], .one w0 (.d w0 z6), .row .bool z7 false]) s1 s2 s3 s4 s5 s6 s7 s8 s9 s10
theorem l19r12v3v : LoopV E wF (E.info 19).keep 2 Try.f19.ntmps 20000012 (body Try.f19 12) ([2, 7, 8, 9, 54, 55, 56], lsl19r12v3) := by
  intro vs σ K h0
  obtain ⟨s1, s2, r4, rfl, h8⟩ := cDPPD h0
  obtain ⟨s3, s4, s5, r7, rfl, h14⟩ := cDDD h8
  obtain ⟨rfl, h15⟩ := cN h14
  obtain ⟨a8, r8, rfl, h16⟩ := asCons_inv h15
  obtain ⟨a9, rfl, h17⟩ := asOne_inv h16
  obtain ⟨l10, rfl, h18⟩ := asAgL_inv h17
  obtain ⟨s6, s7, r13, rfl, h24⟩ := cDDP h18
  obtain ⟨rfl, h25⟩ := cN h24
  obtain ⟨a14, r14, rfl, h26⟩ := asCons_inv h25
  obtain ⟨s8, l15, rfl, h27⟩ := asDeep_inv h26
  obtain ⟨rfl, h28⟩ := cN h27
  obtain ⟨s9, r16, rfl, h31⟩ := oD h28
  obtain ⟨s10, r18, rfl, h33⟩ := cR h31
  obtain ⟨rfl, h34⟩ := cN h33
  intro J hJ
  have hp : ∀ c' ∈ subsOf (E.info 19).keep (body Try.f19 12), SubOK E wF (E.info 19).keep 2 Try.f19.ntmps (lofL nL) c' := all_eq (by kernel_rfl) all_nil
  exact h34.of (fun s1 s2 s3 s4 s5 s6 s7 s8 s9 s10 => J [(20000012, .undef), (2, .d (.opq .func) s1), (7, .ptr 2 0 []), (8, .vec 3), (9, I s2), (54, .d (.sl wI) s3), (55, I s4), (56, I s5)] [.one w4 (.agg [.d w1 s6, I s7, .vec 1]), .deep .bool s8 [], .one w0 (.d w0 s9), .row .bool s10 false]) (fun s1 s2 s3 s4 s5 s6 s7 s8 s9 s10 hb => loop_round2 nS (inlOK _) hp hJ (by kernel_rfl) hb)
abbrev Ll19r5v3 : wL := [(20000012, [2, 7, 8, 9, 54, 55, 56], none, lsl19r12v3)]
def lsl19r5v3 : LSp := fun vs σ K => dD (.opq .func) vs fun s1 r1 => dP (.ptr 2 0 []) r1 fun r2 => dP (.vec 3) r2 fun r3 => dD wI r3 fun s2 r4 => asNil r4 <| asCons σ fun a5 r5 => asOne w4 a5 fun a6 => asAgL a6 fun l7 => dD w1 l7 fun s3 r8 => dD wI r8 fun s4 r9 => dP (.vec 1) r9 fun r10 => asNil r10 <| asCons r5 fun a11 r11 => asDeep .bool a11 fun s5 l12 => asNil l12 <| dO w0 w0 r11 fun s6 r13 => dR .bool false r13 fun s7 r15 => asNil r15 <| l19r5v3 (fun z1 z2 z3 z4 => K .ret [(6, .vec 2)] [.one w4 (.agg [.d w1 z1, I z2, .vec 1]), .deep .bool z3 [], .row .bool z4 false]) s1 s2 s3 s4 s5 s6 s7
theorem l19r5v3v : LoopV E wF (E.info 19).keep 2 Try.f19.ntmps 20000005 (body Try.f19 5) ([2, 7, 8, 9], lsl19r5v3) := by
  intro vs σ K h0
  obtain ⟨s1, s2, r4, rfl, h8⟩ := cDPPD h0
  obtain ⟨rfl, h9⟩ := cN h8
  obtain ⟨a5, r5, rfl, h10⟩ := asCons_inv h9
  obtain ⟨a6, rfl, h11⟩ := asOne_inv h10
  obtain ⟨l7, rfl, h12⟩ := asAgL_inv h11
  obtain ⟨s3, s4, r10, rfl, h18⟩ := cDDP h12
  obtain ⟨rfl, h19⟩ := cN h18
  obtain ⟨a11, r11, rfl, h20⟩ := asCons_inv h19
  obtain ⟨s5, l12, rfl, h21⟩ := asDeep_inv h20
  obtain ⟨rfl, h22⟩ := cN h21
  obtain ⟨s6, r13, rfl, h25⟩ := oD h22
  obtain ⟨s7, r15, rfl, h27⟩ := cR h25
  obtain ⟨rfl, h28⟩ := cN h27
  intro J hJ
  have hp : ∀ c' ∈ subsOf (E.info 19).keep (body Try.f19 5), SubOK E wF (E.info 19).keep 2 Try.f19.ntmps (lofL Ll19r5v3) c' := all_eq (by kernel_rfl : subsOf (E.info 19).keep (body Try.f19 5) = [.loop (body Try.f19 12)]) (all_cons (loopOK_of (mk := 20000012) (sl := [2, 7, 8, 9, 54, 55, 56]) (ss := [([2, 7, 8, 9, 54, 55, 56], lsl19r12v3)]) (by kernel_rfl) (by kernel_rfl) (all_cons l19r12v3v all_nil)) all_nil)
  exact h28.of (fun s1 s2 s3 s4 s5 s6 s7 => J [(20000005, .undef), (2, .d (.opq .func) s1), (7, .ptr 2 0 []), (8, .vec 3), (9, I s2)] [.one w4 (.agg [.d w1 s3, I s4, .vec 1]), .deep .bool s5 [], .one w0 (.d w0 s6), .row .bool s7 false]) (fun s1 s2 s3 s4 s5 s6 s7 hb => loop_round2 nS (inlOK _) hp hJ (by kernel_rfl) hb)
abbrev S19v3 : wS := [(34, none, sp34)]
theorem hS19v3 : SpecOK E (ofL S19v3) := specOK_cons h34 specOK_nil
abbrev L19v3 : wL := [(20000005, [2, 7, 8, 9], none, lsl19r5v3)]
def sp19v3 : Sp := fun args τ K => dP (.ptr 0 0 []) args fun r1 => dD wI r1 fun x1 r2 => dD (.opq .func) r2 fun x2 r3 => asNil r3 <| asCons τ fun a4 r4 => asOne w4 a4 fun a5 => asAgL a5 fun l6 => dD w1 l6 fun x3 r7 => dD wI r7 fun x4 r8 => dP (.vec 1) r8 fun r9 => asNil r9 <| asCons r4 fun a10 r10 => asDeep .bool a10 fun x5 l11 => asNil l11 <| asNil r10 <| c19v3 x1 x2 x3 x4 x5 (fun z1 z2 z3 z4 => K (.vec 2) [.one w4 (.agg [.d w1 z1, I z2, .vec 1]), .deep .bool z3 [], .row .bool z4 false])
theorem h19v3 : ∀ args τ K, sp19v3 args τ K → ACall E 19 args τ K := by
  intro args τ K h0
  obtain ⟨x1, x2, r3, rfl, h6⟩ := cPDD h0
  obtain ⟨rfl, h7⟩ := cN h6
  obtain ⟨a4, r4, rfl, h8⟩ := asCons_inv h7
  obtain ⟨a5, rfl, h9⟩ := asOne_inv h8
  obtain ⟨l6, rfl, h10⟩ := asAgL_inv h9
  obtain ⟨x3, x4, r9, rfl, h16⟩ := cDDP h10
  obtain ⟨rfl, h17⟩ := cN h16
  obtain ⟨a10, r10, rfl, h18⟩ := asCons_inv h17
  obtain ⟨x5, l11, rfl, h19⟩ := asDeep_inv h18
  obtain ⟨rfl, rfl, h21⟩ := cM h19
  exact ACall.spec2 (fn := Try.f19) (c := codeOf Try.f19) (L := lofL L19v3) hS19v3 (by kernel_rfl) (by kernel_rfl) (inlOK _) (all_eq (by kernel_rfl : subsOf (E.info 19).keep (codeOf Try.f19) = [.loop (body Try.f19 5)]) (all_cons (loopOK_of (mk := 20000005) (sl := [2, 7, 8, 9]) (ss := [([2, 7, 8, 9], lsl19r5v3)]) (by kernel_rfl) (by kernel_rfl) (all_cons l19r5v3v all_nil)) all_nil)) (by kernel_rfl) h21.of
abbrev Sl18r10v2 : wS := [(32, none, sp32v2), (19, none, sp19v3), (33, none, sp33)]
theorem hSl18r10v2 : SpecOK E (ofL Sl18r10v2) := specOK_cons h32v2 (specOK_cons h19v3 (specOK_cons h33 specOK_nil))
def lsl18r10v2 : LSp := fun vs σ K => dP (.ptr 0 0 []) vs fun r1 => dP (.ptr 1 0 []) r1 fun r2 => dP (.vec 3) r2 fun r3 => dD .bool r3 fun s1 r4 => dD wI r4 fun s2 r5 => asNil r5 <| dO w1 w1 σ fun s3 r6 => asCons r6 fun a8 r8 => asOne w4 a8 fun a9 => asAgL a9 fun l10 => dD w1 l10 fun s4 r11 => dD wI r11 fun s5 r12 => dP (.vec 2) r12 fun r13 => asNil r13 <| asCons r8 fun a14 r14 => asDeep .bool a14 fun s6 l15 => asNil l15 <| asCons r14 fun a16 r16 => asDeep .bool a16 fun s7 l17 => asNil l17 <| asNil r16 <| l18r10v2 (fun z1 z2 z3 z4 z5 z6 => K (.exit 2) [(1, .ptr 0 0 []), (6, .ptr 1 0 []), (7, .vec 3), (8, B z1)] [.one w1 (.d w1 z2), .one w4 (.agg [.d w1 z3, I z4, .vec 2]), .deep .bool z5 [], .deep .bool z6 []]) s1 s2 s3 s4 s5 s6 s7
theorem l18r10v2v : LoopV E wF (E.info 18).keep 0 Try.f18.ntmps 19000010 (body Try.f18 10) ([1, 6, 7, 8, 9], lsl18r10v2) := by
  intro vs σ K h0
  obtain ⟨s1, r4, rfl, h8⟩ := cPPPD h0
  obtain ⟨s2, r5, rfl, h10⟩ := cD h8
  obtain ⟨rfl, h11⟩ := cN h10
  obtain ⟨s3, r6, rfl, h14⟩ := oD h11
  obtain ⟨a8, r8, rfl, h15⟩ := asCons_inv h14
  obtain ⟨a9, rfl, h16⟩ := asOne_inv h15
  obtain ⟨l10, rfl, h17⟩ := asAgL_inv h16
  obtain ⟨s4, s5, r13, rfl, h23⟩ := cDDP h17
  obtain ⟨rfl, h24⟩ := cN h23
  obtain ⟨a14, r14, rfl, h25⟩ := asCons_inv h24
  obtain ⟨s6, l15, rfl, h26⟩ := asDeep_inv h25
  obtain ⟨rfl, h27⟩ := cN h26
  obtain ⟨a16, r16, rfl, h28⟩ := asCons_inv h27
  obtain ⟨s7, l17, rfl, h29⟩ := asDeep_inv h28
  obtain ⟨rfl, rfl, h31⟩ := cM h29
  intro J hJ
  have hp : wH 18 Try.f18 (body Try.f18 10) nL := all_eq (by kernel_rfl) all_nil
  exact h31.of (fun s1 s2 s3 s4 s5 s6 s7 => J [(19000010, .undef), (1, .ptr 0 0 []), (6, .ptr 1 0 []), (7, .vec 3), (8, B s1), (9, I s2)] [.one w1 (.d w1 s3), .one w4 (.agg [.d w1 s4, I s5, .vec 2]), .deep .bool s6 [], .deep .bool s7 []]) (fun s1 s2 s3 s4 s5 s6 s7 hb => loop_round2 hSl18r10v2 (inlOK _) hp hJ (by kernel_rfl) hb)
abbrev Ll18r7v2 : wL := [(19000010, [1, 6, 7, 8, 9], none, lsl18r10v2)]
def lsl18r7v2 : LSp := fun vs σ K => dP (.ptr 0 0 []) vs fun r1 => dP (.ptr 1 0 []) r1 fun r2 => dP (.vec 3) r2 fun r3 => dD .bool r3 fun s1 r4 => asNil r4 <| dO w1 w1 σ fun s2 r5 => asCons r5 fun a7 r7 => asOne w4 a7 fun a8 => asAgL a8 fun l9 => dD w1 l9 fun s3 r10 => dD wI r10 fun s4 r11 => dP (.vec 2) r11 fun r12 => asNil r12 <| asCons r7 fun a13 r13 => asDeep .bool a13 fun s5 l14 => asNil l14 <| asCons r13 fun a15 r15 => asDeep .bool a15 fun s6 l16 => asNil l16 <| asNil r15 <| l18r7v2 (fun z1 z2 z3 z4 => K (.exit 0) [(6, .ptr 0 0 []), (7, .vec 2)] [.one w4 (.agg [.d w1 z1, I z2, .vec 1]), .deep .bool z3 [], .deep .bool z4 []]) s1 s2 s3 s4 s5 s6
theorem l18r7v2v : LoopV E wF (E.info 18).keep 0 Try.f18.ntmps 19000007 (body Try.f18 7) ([1, 6, 7, 8], lsl18r7v2) := by
  intro vs σ K h0
  obtain ⟨s1, r4, rfl, h8⟩ := cPPPD h0
  obtain ⟨rfl, h9⟩ := cN h8
  obtain ⟨s2, r5, rfl, h12⟩ := oD h9
  obtain ⟨a7, r7, rfl, h13⟩ := asCons_inv h12
  obtain ⟨a8, rfl, h14⟩ := asOne_inv h13
  obtain ⟨l9, rfl, h15⟩ := asAgL_inv h14
  obtain ⟨s3, s4, r12, rfl, h21⟩ := cDDP h15
  obtain ⟨rfl, h22⟩ := cN h21
  obtain ⟨a13, r13, rfl, h23⟩ := asCons_inv h22
  obtain ⟨s5, l14, rfl, h24⟩ := asDeep_inv h23
  obtain ⟨rfl, h25⟩ := cN h24
  obtain ⟨a15, r15, rfl, h26⟩ := asCons_inv h25
  obtain ⟨s6, l16, rfl, h27⟩ := asDeep_inv h26
  obtain ⟨rfl, rfl, h29⟩ := cM h27
  intro J hJ
  have hp : wH 18 Try.f18 (body Try.f18 7) Ll18r7v2 := all_eq (by kernel_rfl : subsOf (E.info 18).keep (body Try.f18 7) = [.loop (body Try.f18 10)]) (all_cons (loopOK_of (mk := 19000010) (sl := [1, 6, 7, 8, 9]) (ss := [([1, 6, 7, 8, 9], lsl18r10v2)]) (by kernel_rfl) (by kernel_rfl) (all_cons l18r10v2v all_nil)) all_nil)
  exact h29.of (fun s1 s2 s3 s4 s5 s6 => J [(19000007, .undef), (1, .ptr 0 0 []), (6, .ptr 1 0 []), (7, .vec 3), (8, B s1)] [.one w1 (.d w1 s2), .one w4 (.agg [.d w1 s3, I s4, .vec 2]), .deep .bool s5 [], .deep .bool s6 []]) (fun s1 s2 s3 s4 s5 s6 hb => loop_round2 nS (inlOK _) hp hJ (by kernel_rfl) hb)
abbrev S18v2 : wS := [(30, none, sp30), (31, none, sp31)]
theorem hS18v2 : SpecOK E (ofL S18v2) := specOK_cons h30 (specOK_cons h31 specOK_nil)
abbrev L18v2 : wL := [(19000007, [1, 6, 7, 8], none, lsl18r7v2)]
def sp18v2 : Sp := fun args τ K => dD w1 args fun x1 r1 => asNil r1 <| asNil τ <| c18v2 x1 (fun z1 z2 z3 => K (.tup [.d (.opq .ptr) z1, .vec 0, I z2]) [.deep .bool z3 []]) (fun z1 z2 z3 z4 z5 => K (.tup [.ptr 0 0 [], .vec 2, I z1]) [.one w4 (.agg [.d w1 z2, I z3, .vec 1]), .deep .bool z4 [], .deep .bool z5 []])
theorem h18v2 : ∀ args τ K, sp18v2 args τ K → ACall E 18 args τ K := by
  intro args τ K h0
  obtain ⟨x1, r1, rfl, h2⟩ := cD h0
  obtain ⟨rfl, rfl, h4⟩ := cM h2
  exact ACall.spec2 (fn := Try.f18) (c := codeOf Try.f18) (L := lofL L18v2) hS18v2 (by kernel_rfl) (by kernel_rfl) (inlOK _) (all_eq (by kernel_rfl : subsOf (E.info 18).keep (codeOf Try.f18) = [.loop (body Try.f18 7)]) (all_cons (loopOK_of (mk := 19000007) (sl := [1, 6, 7, 8]) (ss := [([1, 6, 7, 8], lsl18r7v2)]) (by kernel_rfl) (by kernel_rfl) (all_cons l18r7v2v all_nil)) all_nil)) (by kernel_rfl) h4.of
def lsl19r12v4 : LSp := fun vs σ K => asCons vs fun a1 r1 => asFn 20 a1 fun l2 l3 => asNil l2 <| dP (.ptr 2 0 []) l3 fun r4 => dP (.ptr 4 0 []) r4 fun r5 => asNil r5 <| dP (.ptr 5 0 []) r1 fun r6 => dP (.vec 6) r6 fun r7 => dD wI r7 fun s1 r8 => dD (.sl wI) r8 fun s2 r9 => dD wI r9 fun s3 r10 => dD wI r10 fun s4 r11 => asNil r11 <| asCons σ fun a12 r12 => asOne w4 a12 fun a13 => asAgL a13 fun l14 => dD w1 l14 fun s5 r15 => dD wI r15 fun s6 r16 => dP (.vec 1) r16 fun r17 => asNil r17 <| asCons r12 fun a18 r18 => asDeep .bool a18 fun s7 l19 => asNil l19 <| dQ (.sl (.sl w2)) (.vec 3) r18 fun r20 => asCons r20 fun a22 r22 => asDeep w2 a22 fun s8 l23 => asNil l23 <| dO wI wI r22 fun s9 r24 => dO w0 w0 r24 fun s10 r26 => dR .bool false r26 fun s11 r28 => asNil r28 <| l19r12v4 (fun z1 z2 z3 z4 z5 z6 z7 z8 => K (.exit 2) [(2, .fn 20 [] [.ptr 2 0 [], .ptr 4 0 []]), (7, .ptr 5 0 []), (8, .vec 6), (9, I z1)] [.one w4 (.agg [.d w1 z2, I z3, .vec 1]), .deep .bool z4 [], .one (.sl (.sl w2)) (.vec 3), .deep w2 z5 [], .one wI (I z6), .one w0 (.d w0 z7), .row .bool z8 false]) s1 s2 s3 s4 s5 s6 s7 s8 s9 s10 s11
theorem l19r12v4v : LoopV E wF (E.info 19).keep 5 Try.f19.ntmps 20000012 (body Try.f19 12) ([2, 7, 8, 9, 54, 55, 56], lsl19r12v4) := by
  intro vs σ K h0
  obtain ⟨a1, r1, rfl, h1⟩ := asCons_inv h0
  obtain ⟨l2, l3, rfl, h2⟩ := asFn_inv h1
  obtain ⟨rfl, h3⟩ := cN h2
  obtain ⟨r5, rfl, h7⟩ := cPP h3
  obtain ⟨rfl, h8⟩ := cN h7
  obtain ⟨s1, s2, r9, rfl, h16⟩ := cPPDD h8
  obtain ⟨s3, s4, r11, rfl, h20⟩ := cDD h16
  obtain ⟨rfl, h21⟩ := cN h20
  obtain ⟨a12, r12, rfl, h22⟩ := asCons_inv h21
  obtain ⟨a13, rfl, h23⟩ := asOne_inv h22
  obtain ⟨l14, rfl, h24⟩ := asAgL_inv h23
  obtain ⟨s5, s6, r17, rfl, h30⟩ := cDDP h24
  obtain ⟨rfl, h31⟩ := cN h30
  obtain ⟨a18, r18, rfl, h32⟩ := asCons_inv h31
  obtain ⟨s7, l19, rfl, h33⟩ := asDeep_inv h32
  obtain ⟨rfl, h34⟩ := cN h33
  obtain ⟨r20, rfl, h37⟩ := oP h34
  obtain ⟨a22, r22, rfl, h38⟩ := asCons_inv h37
  obtain ⟨s8, l23, rfl, h39⟩ := asDeep_inv h38
  obtain ⟨rfl, h40⟩ := cN h39
  obtain ⟨s9, r24, rfl, h43⟩ := oD h40
  obtain ⟨s10, r26, rfl, h46⟩ := oD h43
  obtain ⟨s11, r28, rfl, h48⟩ := cR h46
  obtain ⟨rfl, h49⟩ := cN h48
  intro J hJ
  have hp : ∀ c' ∈ subsOf (E.info 19).keep (body Try.f19 12), SubOK E wF (E.info 19).keep 5 Try.f19.ntmps (lofL nL) c' := all_eq (by kernel_rfl) all_nil
  exact h49.of (fun s1 s2 s3 s4 s5 s6 s7 s8 s9 s10 s11 => J [(20000012, .undef), (2, .fn 20 [] [.ptr 2 0 [], .ptr 4 0 []]), (7, .ptr 5 0 []), (8, .vec 6), (9, I s1), (54, .d (.sl wI) s2), (55, I s3), (56, I s4)] [.one w4 (.agg [.d w1 s5, I s6, .vec 1]), .deep .bool s7 [], .one (.sl (.sl w2)) (.vec 3), .deep w2 s8 [], .one wI (I s9), .one w0 (.d w0 s10), .row .bool s11 false]) (fun s1 s2 s3 s4 s5 s6 s7 s8 s9 s10 s11 hb => loop_round2 nS (inlOK _) hp hJ (by kernel_rfl) hb)
abbrev Sl19r5v4 : wS := [(20, none, sp20)]
theorem hSl19r5v4 : SpecOK E (ofL Sl19r5v4) := specOK_cons h20 specOK_nil
abbrev Ll19r5v4 : wL := [(20000012, [2, 7, 8, 9, 54, 55, 56], none, lsl19r12v4)]
def lsl19r5v4 : LSp := fun vs σ K => asCons vs fun a1 r1 => asFn 20 a1 fun l2 l3 => asNil l2 <| dP (.ptr 2 0 []) l3 fun r4 => dP (.ptr 4 0 []) r4 fun r5 => asNil r5 <| dP (.ptr 5 0 []) r1 fun r6 => dP (.vec 6) r6 fun r7 => dD wI r7 fun s1 r8 => asNil r8 <| asCons σ fun a9 r9 => asOne w4 a9 fun a10 => asAgL a10 fun l11 => dD w1 l11 fun s2 r12 => dD wI r12 fun s3 r13 => dP (.vec 1) r13 fun r14 => asNil r14 <| asCons r9 fun a15 r15 => asDeep .bool a15 fun s4 l16 => asNil l16 <| dQ (.sl (.sl w2)) (.vec 3) r15 fun r17 => asCons r17 fun a19 r19 => asDeep w2 a19 fun s5 l20 => asNil l20 <| dO wI wI r19 fun s6 r21 => dO w0 w0 r21 fun s7 r23 => dR .bool false r23 fun s8 r25 => asNil r25 <| l19r5v4 (fun z1 z2 z3 z4 z5 z6 => K .ret [(6, .vec 5)] [.one w4 (.agg [.d w1 z1, I z2, .vec 1]), .deep .bool z3 [], .one (.sl (.sl w2)) (.vec 3), .deep w2 z4 [], .one wI (I z5), .row .bool z6 false]) s1 s2 s3 s4 s5 s6 s7 s8
theorem l19r5v4v : LoopV E wF (E.info 19).keep 5 Try.f19.ntmps 20000005 (body Try.f19 5) ([2, 7, 8, 9], lsl19r5v4) := by
  intro vs σ K h0
  obtain ⟨a1, r1, rfl, h1⟩ := asCons_inv h0
  obtain ⟨l2, l3, rfl, h2⟩ := asFn_inv h1
  obtain ⟨rfl, h3⟩ := cN h2
  obtain ⟨r5, rfl, h7⟩ := cPP h3
  obtain ⟨rfl, h8⟩ := cN h7
  obtain ⟨s1, r8, rfl, h14⟩ := cPPD h8
  obtain ⟨rfl, h15⟩ := cN h14
  obtain ⟨a9, r9, rfl, h16⟩ := asCons_inv h15
  obtain ⟨a10, rfl, h17⟩ := asOne_inv h16
  obtain ⟨l11, rfl, h18⟩ := asAgL_inv h17
  obtain ⟨s2, s3, r14, rfl, h24⟩ := cDDP h18
  obtain ⟨rfl, h25⟩ := cN h24
  obtain ⟨a15, r15, rfl, h26⟩ := asCons_inv h25
  obtain ⟨s4, l16, rfl, h27⟩ := asDeep_inv h26
  obtain ⟨rfl, h28⟩ := cN h27
  obtain ⟨r17, rfl, h31⟩ := oP h28
  obtain ⟨a19, r19, rfl, h32⟩ := asCons_inv h31
  obtain ⟨s5, l20, rfl, h33⟩ := asDeep_inv h32
  obtain ⟨rfl, h34⟩ := cN h33
  obtain ⟨s6, r21, rfl, h37⟩ := oD h34
  obtain ⟨s7, r23, rfl, h40⟩ := oD h37
  obtain ⟨s8, r25, rfl, h42⟩ := cR h40
  obtain ⟨rfl, h43⟩ := cN h42
  intro J hJ
  have hp : ∀ c' ∈ subsOf (E.info 19).keep (body Try.f19 5), SubOK E wF (E.info 19).keep 5 Try.f19.ntmps (lofL Ll19r5v4) c' := all_eq (by kernel_rfl : subsOf (E.info 19).keep (body Try.f19 5) = [.loop (body Try.f19 12)]) (all_cons (loopOK_of (mk := 20000012) (sl := [2, 7, 8, 9, 54, 55, 56]) (ss := [([2, 7, 8, 9, 54, 55, 56], lsl19r12v4)]) (by kernel_rfl) (by kernel_rfl) (all_cons l19r12v4v all_nil)) all_nil)
  exact h43.of (fun s1 s2 s3 s4 s5 s6 s7 s8 => J [(20000005, .undef), (2, .fn 20 [] [.ptr 2 0 [], .ptr 4 0 []]), (7, .ptr 5 0 []), (8, .vec 6), (9, I s1)] [.one w4 (.agg [.d w1 s2, I s3, .vec 1]), .deep .bool s4 [], .one (.sl (.sl w2)) (.vec 3), .deep w2 s5 [], .one wI (I s6), .one w0 (.d w0 s7), .row .bool s8 false]) (fun s1 s2 s3 s4 s5 s6 s7 s8 hb => loop_round2 hSl19r5v4 (inlOK _) hp hJ (by kernel_rfl) hb)
abbrev S19v4 : wS := [(34, none, sp34)]
theorem hS19v4 : SpecOK E (ofL S19v4) := specOK_cons h34 specOK_nil
abbrev L19v4 : wL := [(20000005, [2, 7, 8, 9], none, lsl19r5v4)]
def sp19v4 : Sp := fun args τ K => dP (.ptr 0 0 []) args fun r1 => dD wI r1 fun x1 r2 => asCons r2 fun a3 r3 => asFn 20 a3 fun l4 l5 => asNil l4 <| dP (.ptr 2 0 []) l5 fun r6 => dP (.ptr 4 0 []) r6 fun r7 => asNil r7 <| asNil r3 <| asCons τ fun a8 r8 => asOne w4 a8 fun a9 => asAgL a9 fun l10 => dD w1 l10 fun x2 r11 => dD wI r11 fun x3 r12 => dP (.vec 1) r12 fun r13 => asNil r13 <| asCons r8 fun a14 r14 => asDeep .bool a14 fun x4 l15 => asNil l15 <| dQ (.sl (.sl w2)) (.vec 3) r14 fun r16 => asCons r16 fun a18 r18 => asDeep w2 a18 fun x5 l19 => asNil l19 <| dO wI wI r18 fun x6 r20 => asNil r20 <| c19v4 x1 x2 x3 x4 x5 x6 (fun z1 z2 z3 z4 z5 z6 => K (.vec 5) [.one w4 (.agg [.d w1 z1, I z2, .vec 1]), .deep .bool z3 [], .one (.sl (.sl w2)) (.vec 3), .deep w2 z4 [], .one wI (I z5), .row .bool z6 false])
theorem h19v4 : ∀ args τ K, sp19v4 args τ K → ACall E 19 args τ K := by
  intro args τ K h0
  obtain ⟨x1, r2, rfl, h4⟩ := cPD h0
  obtain ⟨a3, r3, rfl, h5⟩ := asCons_inv h4
  obtain ⟨l4, l5, rfl, h6⟩ := asFn_inv h5
  obtain ⟨rfl, h7⟩ := cN h6
  obtain ⟨r7, rfl, h11⟩ := cPP h7
  obtain ⟨rfl, rfl, h13⟩ := cM h11
  obtain ⟨a8, r8, rfl, h14⟩ := asCons_inv h13
  obtain ⟨a9, rfl, h15⟩ := asOne_inv h14
  obtain ⟨l10, rfl, h16⟩ := asAgL_inv h15
  obtain ⟨x2, x3, r13, rfl, h22⟩ := cDDP h16
  obtain ⟨rfl, h23⟩ := cN h22
  obtain ⟨a14, r14, rfl, h24⟩ := asCons_inv h23
  obtain ⟨x4, l15, rfl, h25⟩ := asDeep_inv h24
  obtain ⟨rfl, h26⟩ := cN h25
  obtain ⟨r16, rfl, h29⟩ := oP h26
  obtain ⟨a18, r18, rfl, h30⟩ := asCons_inv h29
  obtain ⟨x5, l19, rfl, h31⟩ := asDeep_inv h30
  obtain ⟨rfl, h32⟩ := cN h31
  obtain ⟨x6, r20, rfl, h35⟩ := oD h32
  obtain ⟨rfl, h36⟩ := cN h35
  exact ACall.spec2 (fn := Try.f19) (c := codeOf Try.f19) (L := lofL L19v4) hS19v4 (by kernel_rfl) (by kernel_rfl) (inlOK _) (all_eq (by kernel_rfl : subsOf (E.info 19).keep (codeOf Try.f19) = [.loop (body Try.f19 5)]) (all_cons (loopOK_of (mk := 20000005) (sl := [2, 7, 8, 9]) (ss := [([2, 7, 8, 9], lsl19r5v4)]) (by kernel_rfl) (by kernel_rfl) (all_cons l19r5v4v all_nil)) all_nil)) (by kernel_rfl) h36.of
abbrev Sl8r6v2 : wS := [(19, none, sp19v4)]
theorem hSl8r6v2 : SpecOK E (ofL Sl8r6v2) := specOK_cons h19v4 specOK_nil
def lsl8r6v2 : LSp := fun vs σ K => dP (.ptr 0 0 []) vs fun r1 => dP (.ptr 2 0 []) r1 fun r2 => dD wI r2 fun s1 r3 => dD wI r3 fun s2 r4 => asNil r4 <| asCons σ fun a5 r5 => asOne w4 a5 fun a6 => asAgL a6 fun l7 => dD w1 l7 fun s3 r8 => dD wI r8 fun s4 r9 => dP (.vec 1) r9 fun r10 => asNil r10 <| asCons r5 fun a11 r11 => asDeep .bool a11 fun s5 l12 => asNil l12 <| dQ (.sl (.sl w2)) (.vec 3) r11 fun r13 => asCons r13 fun a15 r15 => asDeep w2 a15 fun s6 l16 => asNil l16 <| asNil r15 <| l8r6v2 (fun z1 => K (.exit 0) [(7, .ptr 0 0 [])] [.one (.sl (.sl w2)) (.vec 1), .deep w2 z1 []]) s1 s2 s3 s4 s5 s6
theorem l8r6v2v : LoopV E wF (E.info 8).keep 0 Try.f8.ntmps 9000006 (body Try.f8 6) ([4, 7, 25, 26], lsl8r6v2) := by
  intro vs σ K h0
  obtain ⟨s1, s2, r4, rfl, h8⟩ := cPPDD h0
  obtain ⟨rfl, h9⟩ := cN h8
  obtain ⟨a5, r5, rfl, h10⟩ := asCons_inv h9
  obtain ⟨a6, rfl, h11⟩ := asOne_inv h10
  obtain ⟨l7, rfl, h12⟩ := asAgL_inv h11
  obtain ⟨s3, s4, r10, rfl, h18⟩ := cDDP h12
  obtain ⟨rfl, h19⟩ := cN h18
  obtain ⟨a11, r11, rfl, h20⟩ := asCons_inv h19
  obtain ⟨s5, l12, rfl, h21⟩ := asDeep_inv h20
  obtain ⟨rfl, h22⟩ := cN h21
  obtain ⟨r13, rfl, h25⟩ := oP h22
  obtain ⟨a15, r15, rfl, h26⟩ := asCons_inv h25
  obtain ⟨s6, l16, rfl, h27⟩ := asDeep_inv h26
  obtain ⟨rfl, rfl, h29⟩ := cM h27
  intro J hJ
  have hp : wH 8 Try.f8 (body Try.f8 6) nL := all_eq (by kernel_rfl) all_nil
  exact h29.of (fun s1 s2 s3 s4 s5 s6 => J [(9000006, .undef), (4, .ptr 0 0 []), (7, .ptr 2 0 []), (25, I s1), (26, I s2)] [.one w4 (.agg [.d w1 s3, I s4, .vec 1]), .deep .bool s5 [], .one (.sl (.sl w2)) (.vec 3), .deep w2 s6 []]) (fun s1 s2 s3 s4 s5 s6 hb => loop_round2 hSl8r6v2 (inlOK _) hp hJ (by kernel_rfl) hb)
abbrev S8v2 : wS := [(18, none, sp18v2), (22, none, sp22)]
theorem hS8v2 : SpecOK E (ofL S8v2) := specOK_cons h18v2 (specOK_cons h22 specOK_nil)
abbrev L8v2 : wL := [(9000006, [4, 7, 25, 26], none, lsl8r6v2)]
def sp8v2 : Sp := fun args τ K => dD w1 args fun x1 r1 => asNil r1 <| asNil τ <| c8v2 x1 (fun z1 z2 => K (.tup [.vec 0, I z1]) [.row w2 z2 false]) (fun z1 z2 z3 z4 z5 => K (.tup [.sl 0 z1 z2 z3 false, I z4]) [.row w2 z5 false])
theorem h8v2 : ∀ args τ K, sp8v2 args τ K → ACall E 8 args τ K := by
  intro args τ K h0
  obtain ⟨x1, r1, rfl, h2⟩ := cD h0
  obtain ⟨rfl, rfl, h4⟩ := cM h2
  exact ACall.spec2 (fn := Try.f8) (c := codeOf Try.f8) (L := lofL L8v2) hS8v2 (by kernel_rfl) (by kernel_rfl) (inlOK _) (all_eq (by kernel_rfl : subsOf (E.info 8).keep (codeOf Try.f8) = [.loop (body Try.f8 6)]) (all_cons (loopOK_of (mk := 9000006) (sl := [4, 7, 25, 26]) (ss := [([4, 7, 25, 26], lsl8r6v2)]) (by kernel_rfl) (by kernel_rfl) (all_cons l8r6v2v all_nil)) all_nil)) (by kernel_rfl) h4.of
def sp19v5 : Sp := fun args τ K => dD (.opq .ptr) args fun x1 r1 => dD wI r1 fun x2 r2 => asCons r2 fun a3 r3 => asFn 23 a3 fun l4 l5 => asNil l4 <| dP (.ptr 0 0 []) l5 fun r6 => asNil r6 <| asNil r3 <| dO wI wI τ fun x3 r7 => asNil r7 <| c19v5 x1 x2 x3
theorem h19v5 : ∀ args τ K, sp19v5 args τ K → ACall E 19 args τ K := by
  intro args τ K h0
  obtain ⟨x1, x2, r2, rfl, h4⟩ := cDD h0
  obtain ⟨a3, r3, rfl, h5⟩ := asCons_inv h4
  obtain ⟨l4, l5, rfl, h6⟩ := asFn_inv h5
  obtain ⟨rfl, h7⟩ := cN h6
  obtain ⟨r6, rfl, h9⟩ := cP h7
  obtain ⟨rfl, rfl, h11⟩ := cM h9
  obtain ⟨x3, r7, rfl, h14⟩ := oD h11
  obtain ⟨rfl, h15⟩ := cN h14
  exact ACall.spec2 (fn := Try.f19) (c := codeOf Try.f19) (L := lofL nL) nS (by kernel_rfl) (by kernel_rfl) (inlOK _) (all_eq (by kernel_rfl : subsOf (E.info 19).keep (codeOf Try.f19) = [.loop (body Try.f19 5)]) (all_cons (loopOK_of (mk := 20000005) (sl := [2, 7, 8, 9]) (ss := []) (by kernel_rfl) (by kernel_rfl) all_nil) all_nil)) (by kernel_rfl) h15.of
abbrev Sl9r6 : wS := [(19, none, sp19v5)]
theorem hSl9r6 : SpecOK E (ofL Sl9r6) := specOK_cons h19v5 specOK_nil
def lsl9r6 : LSp := fun vs σ K => dD (.opq .ptr) vs fun s1 r1 => dP (.ptr 0 0 []) r1 fun r2 => dD wI r2 fun s2 r3 => dD wI r3 fun s3 r4 => asNil r4 <| dO wI wI σ fun s4 r5 => asNil r5 <| l9r6 (fun z1 => K (.exit 0) [(7, .ptr 0 0 [])] [.one wI (I z1)]) s1 s2 s3 s4
theorem l9r6v : LoopV E wF (E.info 9).keep 0 Try.f9.ntmps 10000006 (body Try.f9 6) ([4, 7, 20, 21], lsl9r6) := by
  intro vs σ K h0
  obtain ⟨s1, s2, s3, r4, rfl, h8⟩ := cDPDD h0
  obtain ⟨rfl, h9⟩ := cN h8
  obtain ⟨s4, r5, rfl, h12⟩ := oD h9
  obtain ⟨rfl, h13⟩ := cN h12
  intro J hJ
  have hp : wH 9 Try.f9 (body Try.f9 6) nL := all_eq (by kernel_rfl) all_nil
  exact h13.of (fun s1 s2 s3 s4 => J [(10000006, .undef), (4, .d (.opq .ptr) s1), (7, .ptr 0 0 []), (20, I s2), (21, I s3)] [.one wI (I s4)]) (fun s1 s2 s3 s4 hb => loop_round2 hSl9r6 (inlOK _) hp hJ (by kernel_rfl) hb)
abbrev S23 : wS := [(21, none, sp21)]
theorem hS23 : SpecOK E (ofL S23) := specOK_cons h21 specOK_nil
def sp23 : Sp := fun args τ K => dD wI args fun x1 r1 => dD (.sl .bool) r1 fun x2 r2 => dP (.ptr 0 0 []) r2 fun r3 => asNil r3 <| dO wI wI τ fun x3 r4 => asNil r4 <| c23 x1 x2 x3 (fun z1 => K (.tup []) [.one wI (I z1)])
theorem h23 : ∀ args τ K, sp23 args τ K → ACall E 23 args τ K := by
  intro args τ K h0
  obtain ⟨x1, x2, r3, rfl, h6⟩ := cDDP h0
  obtain ⟨rfl, h7⟩ := cN h6
  obtain ⟨x3, r4, rfl, h10⟩ := oD h7
  obtain ⟨rfl, h11⟩ := cN h10
  exact ACall.spec2 (fn := Try.f23) (c := codeOf Try.f23) (L := lofL nL) hS23 (by kernel_rfl) (by kernel_rfl) (inlOK _) (all_eq (by kernel_rfl) all_nil) (by kernel_rfl) h11.of
def lsl19r12v5 : LSp := fun vs σ K => asCons vs fun a1 r1 => asFn 23 a1 fun l2 l3 => asNil l2 <| dP (.ptr 2 0 []) l3 fun r4 => asNil r4 <| dP (.ptr 3 0 []) r1 fun r5 => dP (.vec 4) r5 fun r6 => dD wI r6 fun s1 r7 => dD (.sl wI) r7 fun s2 r8 => dD wI r8 fun s3 r9 => dD wI r9 fun s4 r10 => asNil r10 <| asCons σ fun a11 r11 => asOne w4 a11 fun a12 => asAgL a12 fun l13 => dD w1 l13 fun s5 r14 => dD wI r14 fun s6 r15 => dP (.vec 1) r15 fun r16 => asNil r16 <| asCons r11 fun a17 r17 => asDeep .bool a17 fun s7 l18 => asNil l18 <| dO wI wI r17 fun s8 r19 => dO w0 w0 r19 fun s9 r21 => dR .bool false r21 fun s10 r23 => asNil r23 <| l19r12v5 (fun z1 z2 z3 z4 z5 z6 z7 => K (.exit 2) [(2, .fn 23 [] [.ptr 2 0 []]), (7, .ptr 3 0 []), (8, .vec 4), (9, I z1)] [.one w4 (.agg [.d w1 z2, I z3, .vec 1]), .deep .bool z4 [], .one wI (I z5), .one w0 (.d w0 z6), .row .bool z7 false]) s1 s2 s3 s4 s5 s6 s7 s8 s9 s10
theorem l19r12v5v : LoopV E wF (E.info 19).keep 3 Try.f19.ntmps 20000012 (body Try.f19 12) ([2, 7, 8, 9, 54, 55, 56], lsl19r12v5) := by
  intro vs σ K h0
  obtain ⟨a1, r1, rfl, h1⟩ := asCons_inv h0
  obtain ⟨l2, l3, rfl, h2⟩ := asFn_inv h1
  obtain ⟨rfl, h3⟩ := cN h2
  obtain ⟨r4, rfl, h5⟩ := cP h3
  obtain ⟨rfl, h6⟩ := cN h5
  obtain ⟨s1, s2, r8, rfl, h14⟩ := cPPDD h6
  obtain ⟨s3, s4, r10, rfl, h18⟩ := cDD h14
  obtain ⟨rfl, h19⟩ := cN h18
  obtain ⟨a11, r11, rfl, h20⟩ := asCons_inv h19
  obtain ⟨a12, rfl, h21⟩ := asOne_inv h20
  obtain ⟨l13, rfl, h22⟩ := asAgL_inv h21
  obtain ⟨s5, s6, r16, rfl, h28⟩ := cDDP h22
  obtain ⟨rfl, h29⟩ := cN h28
  obtain ⟨a17, r17, rfl, h30⟩ := asCons_inv h29
  obtain ⟨s7, l18, rfl, h31⟩ := asDeep_inv h30
  obtain ⟨rfl, h32⟩ := cN h31
  obtain ⟨s8, r19, rfl, h35⟩ := oD h32
  obtain ⟨s9, r21, rfl, h38⟩ := oD h35
  obtain ⟨s10, r23, rfl, h40⟩ := cR h38
  obtain ⟨rfl, h41⟩ := cN h40
  intro J hJ
  have hp : ∀ c' ∈ subsOf (E.info 19).keep (body Try.f19 12), SubOK E wF (E.info 19).keep 3 Try.f19.ntmps (lofL nL) c' := all_eq (by kernel_rfl) all_nil
  exact h41.of (fun s1 s2 s3 s4 s5 s6 s7 s8 s9 s10 => J [(20000012, .undef), (2, .fn 23 [] [.ptr 2 0 []]), (7, .ptr 3 0 []), (8, .vec 4), (9, I s1), (54, .d (.sl wI) s2), (55, I s3), (56, I s4)] [.one w4 (.agg [.d w1 s5, I s6, .vec 1]), .deep .bool s7 [], .one wI (I s8), .one w0 (.d w0 s9), .row .bool s10 false]) (fun s1 s2 s3 s4 s5 s6 s7 s8 s9 s10 hb => loop_round2 nS (inlOK _) hp hJ (by kernel_rfl) hb)
abbrev Sl19r5v5 : wS := [(23, none, sp23)]
theorem hSl19r5v5 : SpecOK E (ofL Sl19r5v5) := specOK_cons h23 specOK_nil
abbrev Ll19r5v5 : wL := [(20000012, [2, 7, 8, 9, 54, 55, 56], none, lsl19r12v5)]
def lsl19r5v5 : LSp := fun vs σ K => asCons vs fun a1 r1 => asFn 23 a1 fun l2 l3 => asNil l2 <| dP (.ptr 2 0 []) l3 fun r4 => asNil r4 <| dP (.ptr 3 0 []) r1 fun r5 => dP (.vec 4) r5 fun r6 => dD wI r6 fun s1 r7 => asNil r7 <| asCons σ fun a8 r8 => asOne w4 a8 fun a9 => asAgL a9 fun l10 => dD w1 l10 fun s2 r11 => dD wI r11 fun s3 r12 => dP (.vec 1) r12 fun r13 => asNil r13 <| asCons r8 fun a14 r14 => asDeep .bool a14 fun s4 l15 => asNil l15 <| dO wI wI r14 fun s5 r16 => dO w0 w0 r16 fun s6 r18 => dR .bool false r18 fun s7 r20 => asNil r20 <| l19r5v5 (fun z1 z2 z3 z4 z5 => K .ret [(6, .vec 3)] [.one w4 (.agg [.d w1 z1, I z2, .vec 1]), .deep .bool z3 [], .one wI (I z4), .row .bool z5 false]) s1 s2 s3 s4 s5 s6 s7
theorem l19r5v5v : LoopV E wF (E.info 19).keep 3 Try.f19.ntmps 20000005 (body Try.f19 5) ([2, 7, 8, 9], lsl19r5v5) := by
  intro vs σ K h0
  obtain ⟨a1, r1, rfl, h1⟩ := asCons_inv h0
  obtain ⟨l2, l3, rfl, h2⟩ := asFn_inv h1
  obtain ⟨rfl, h3⟩ := cN h2
  obtain ⟨r4, rfl, h5⟩ := cP h3
  obtain ⟨rfl, h6⟩ := cN h5
  obtain ⟨s1, r7, rfl, h12⟩ := cPPD h6
  obtain ⟨rfl, h13⟩ := cN h12
  obtain ⟨a8, r8, rfl, h14⟩ := asCons_inv h13
  obtain ⟨a9, rfl, h15⟩ := asOne_inv h14
  obtain ⟨l10, rfl, h16⟩ := asAgL_inv h15
  obtain ⟨s2, s3, r13, rfl, h22⟩ := cDDP h16
  obtain ⟨rfl, h23⟩ := cN h22
  obtain ⟨a14, r14, rfl, h24⟩ := asCons_inv h23
  obtain ⟨s4, l15, rfl, h25⟩ := asDeep_inv h24
  obtain ⟨rfl, h26⟩ := cN h25
  obtain ⟨s5, r16, rfl, h29⟩ := oD h26
  obtain ⟨s6, r18, rfl, h32⟩ := oD h29
  obtain ⟨s7, r20, rfl, h34⟩ := cR h32
  obtain ⟨rfl, h35⟩ := cN h34
  intro J hJ
  have hp : ∀ c' ∈ subsOf (E.info 19).keep (body Try.f19 5), SubOK E wF (E.info 19).keep 3 Try.f19.ntmps (lofL Ll19r5v5) c' := all_eq (by kernel_rfl : subsOf (E.info 19).keep (body Try.f19 5) = [.loop (body Try.f19 12)]) (all_cons (loopOK_of (mk := 20000012) (sl := [2, 7, 8, 9, 54, 55, 56]) (ss := [([2, 7, 8, 9, 54, 55, 56], lsl19r12v5)]) (by kernel_rfl) (by kernel_rfl) (all_cons l19r12v5v all_nil)) all_nil)
  exact h35.of (fun s1 s2 s3 s4 s5 s6 s7 => J [(20000005, .undef), (2, .fn 23 [] [.ptr 2 0 []]), (7, .ptr 3 0 []), (8, .vec 4), (9, I s1)] [.one w4 (.agg [.d w1 s2, I s3, .vec 1]), .deep .bool s4 [], .one wI (I s5), .one w0 (.d w0 s6), .row .bool s7 false]) (fun s1 s2 s3 s4 s5 s6 s7 hb => loop_round2 hSl19r5v5 (inlOK _) hp hJ (by kernel_rfl) hb)
abbrev S19v6 : wS := [(34, none, sp34)]
theorem hS19v6 : SpecOK E (ofL S19v6) := specOK_cons h34 specOK_nil
abbrev L19v6 : wL := [(20000005, [2, 7, 8, 9], none, lsl19r5v5)]
def sp19v6 : Sp := fun args τ K => dP (.ptr 0 0 []) args fun r1 => dD wI r1 fun x1 r2 => asCons r2 fun a3 r3 => asFn 23 a3 fun l4 l5 => asNil l4 <| dP (.ptr 2 0 []) l5 fun r6 => asNil r6 <| asNil r3 <| asCons τ fun a7 r7 => asOne w4 a7 fun a8 => asAgL a8 fun l9 => dD w1 l9 fun x2 r10 => dD wI r10 fun x3 r11 => dP (.vec 1) r11 fun r12 => asNil r12 <| asCons r7 fun a13 r13 => asDeep .bool a13 fun x4 l14 => asNil l14 <| dO wI wI r13 fun x5 r15 => asNil r15 <| c19v6 x1 x2 x3 x4 x5 (fun z1 z2 z3 z4 z5 => K (.vec 3) [.one w4 (.agg [.d w1 z1, I z2, .vec 1]), .deep .bool z3 [], .one wI (I z4), .row .bool z5 false])
theorem h19v6 : ∀ args τ K, sp19v6 args τ K → ACall E 19 args τ K := by
  intro args τ K h0
  obtain ⟨x1, r2, rfl, h4⟩ := cPD h0
  obtain ⟨a3, r3, rfl, h5⟩ := asCons_inv h4
  obtain ⟨l4, l5, rfl, h6⟩ := asFn_inv h5
  obtain ⟨rfl, h7⟩ := cN h6
  obtain ⟨r6, rfl, h9⟩ := cP h7
  obtain ⟨rfl, rfl, h11⟩ := cM h9
  obtain ⟨a7, r7, rfl, h12⟩ := asCons_inv h11
  obtain ⟨a8, rfl, h13⟩ := asOne_inv h12
  obtain ⟨l9, rfl, h14⟩ := asAgL_inv h13
  obtain ⟨x2, x3, r12, rfl, h20⟩ := cDDP h14
  obtain ⟨rfl, h21⟩ := cN h20
  obtain ⟨a13, r13, rfl, h22⟩ := asCons_inv h21
  obtain ⟨x4, l14, rfl, h23⟩ := asDeep_inv h22
  obtain ⟨rfl, h24⟩ := cN h23
  obtain ⟨x5, r15, rfl, h27⟩ := oD h24
  obtain ⟨rfl, h28⟩ := cN h27
  exact ACall.spec2 (fn := Try.f19) (c := codeOf Try.f19) (L := lofL L19v6) hS19v6 (by kernel_rfl) (by kernel_rfl) (inlOK _) (all_eq (by kernel_rfl : subsOf (E.info 19).keep (codeOf Try.f19) = [.loop (body Try.f19 5)]) (all_cons (loopOK_of (mk := 20000005) (sl := [2, 7, 8, 9]) (ss := [([2, 7, 8, 9], lsl19r5v5)]) (by kernel_rfl) (by kernel_rfl) (all_cons l19r5v5v all_nil)) all_nil)) (by kernel_rfl) h28.of
abbrev Sl9r6v2 : wS := [(19, none, sp19v6)]
theorem hSl9r6v2 : SpecOK E (ofL Sl9r6v2) := specOK_cons h19v6 specOK_nil
def lsl9r6v2 : LSp := fun vs σ K => dP (.ptr 0 0 []) vs fun r1 => dP (.ptr 2 0 []) r1 fun r2 => dD wI r2 fun s1 r3 => dD wI r3 fun s2 r4 => asNil r4 <| asCons σ fun a5 r5 => asOne w4 a5 fun a6 => asAgL a6 fun l7 => dD w1 l7 fun s3 r8 => dD wI r8 fun s4 r9 => dP (.vec 1) r9 fun r10 => asNil r10 <| asCons r5 fun a11 r11 => asDeep .bool a11 fun s5 l12 => asNil l12 <| dO wI wI r11 fun s6 r13 => asNil r13 <| l9r6v2 (fun z1 => K (.exit 0) [(7, .ptr 0 0 [])] [.one wI (I z1)]) s1 s2 s3 s4 s5 s6
theorem l9r6v2v : LoopV E wF (E.info 9).keep 0 Try.f9.ntmps 10000006 (body Try.f9 6) ([4, 7, 20, 21], lsl9r6v2) := by
  intro vs σ K h0
  obtain ⟨s1, s2, r4, rfl, h8⟩ := cPPDD h0
  obtain ⟨rfl, h9⟩ := cN h8
  obtain ⟨a5, r5, rfl, h10⟩ := asCons_inv h9
  obtain ⟨a6, rfl, h11⟩ := asOne_inv h10
  obtain ⟨l7, rfl, h12⟩ := asAgL_inv h11
  obtain ⟨s3, s4, r10, rfl, h18⟩ := cDDP h12
  obtain ⟨rfl, h19⟩ := cN h18
  obtain ⟨a11, r11, rfl, h20⟩ := asCons_inv h19
  obtain ⟨s5, l12, rfl, h21⟩ := asDeep_inv h20
  obtain ⟨rfl, h22⟩ := cN h21
  obtain ⟨s6, r13, rfl, h25⟩ := oD h22
  obtain ⟨rfl, h26⟩ := cN h25
  intro J hJ
  have hp : wH 9 Try.f9 (body Try.f9 6) nL := all_eq (by kernel_rfl) all_nil
  exact h26.of (fun s1 s2 s3 s4 s5 s6 => J [(10000006, .undef), (4, .ptr 0 0 []), (7, .ptr 2 0 []), (20, I s1), (21, I s2)] [.one w4 (.agg [.d w1 s3, I s4, .vec 1]), .deep .bool s5 [], .one wI (I s6)]) (fun s1 s2 s3 s4 s5 s6 hb => loop_round2 hSl9r6v2 (inlOK _) hp hJ (by kernel_rfl) hb)
abbrev S9 : wS := [(18, none, sp18v2)]
theorem hS9 : SpecOK E (ofL S9) := specOK_cons h18v2 specOK_nil
abbrev L9 : wL := [(10000006, [4, 7, 20, 21], some ([.d (.opq .ptr), .fix (.ptr 0 0 []), .d wI, .d wI], [.one wI (.d wI)]), lsl9r6), (10000006, [4, 7, 20, 21], some ([.fix (.ptr 0 0 []), .fix (.ptr 2 0 []), .d wI, .d wI], [.one w4 (.agg [.d w1, .d wI, .fix (.vec 1)]), .deep .bool [], .one wI (.d wI)]), lsl9r6v2)]
def sp9 : Sp := fun args τ K => dD w1 args fun x1 r1 => asNil r1 <| asNil τ <| c9 x1 (fun z1 z2 => K (.tup [I z1, I z2]) [])
theorem h9 : ∀ args τ K, sp9 args τ K → ACall E 9 args τ K := by
  intro args τ K h0
  obtain ⟨x1, r1, rfl, h2⟩ := cD h0
  obtain ⟨rfl, rfl, h4⟩ := cM h2
  exact ACall.spec2 (fn := Try.f9) (c := codeOf Try.f9) (L := lofL L9) hS9 (by kernel_rfl) (by kernel_rfl) (inlOK _) (all_eq (by kernel_rfl : subsOf (E.info 9).keep (codeOf Try.f9) = [.loop (body Try.f9 6)]) (all_cons (loopOK_of (mk := 10000006) (sl := [4, 7, 20, 21]) (ss := [([4, 7, 20, 21], lsl9r6), ([4, 7, 20, 21], lsl9r6v2)]) (by kernel_rfl) (by kernel_rfl) (all_cons l9r6v (all_cons l9r6v2v all_nil))) all_nil)) (by kernel_rfl) h4.of
abbrev Sl10r9 : wS := [(24, none, sp24)]
theorem hSl10r9 : SpecOK E (ofL Sl10r9) := specOK_cons h24 specOK_nil
def lsl10r9 : LSp := fun vs σ K => dD wI vs fun s1 r1 => dP (.ptr 0 0 []) r1 fun r2 => dP (.vec 1) r2 fun r3 => asCons r3 fun a4 r4 => asSl 2 false a4 fun s2 s3 s4 => dP (.ptr 3 0 []) r4 fun r5 => dD .bool r5 fun s5 r6 => dD wI r6 fun s6 r7 => asNil r7 <| dO w1 w1 σ fun s7 r8 => dR .bool false r8 fun s8 r10 => dR w6 false r10 fun s9 r11 => dO w0 w0 r11 fun s10 r12 => asNil r12 <| l10r9 (fun z1 => K .ret [(1, .undef), (4, .undef), (8, B z1), (9, .undef), (10, .undef), (12, .undef), (13, .undef)] []) (fun z1 z2 z3 z4 z5 z6 z7 z8 z9 => K (.exit 2) [(1, I z1), (4, .ptr 0 0 []), (8, .undef), (9, .vec 1), (10, .sl 2 z2 z3 z4 false), (12, .ptr 3 0 []), (13, B z5)] [.one w1 (.d w1 z6), .row .bool z7 false, .row w6 z8 false, .one w0 (.d w0 z9)]) s1 s2 s3 s4 s5 s6 s7 s8 s9 s10
theorem l10r9v : LoopV E wF (E.info 10).keep 0 Try.f10.ntmps 11000009 (body Try.f10 9) ([1, 4, 9, 10, 12, 13, 14], lsl10r9) := by
  intro vs σ K h0
  obtain ⟨s1, r3, rfl, h6⟩ := cDPP h0
  obtain ⟨a4, r4, rfl, h7⟩ := asCons_inv h6
  obtain ⟨s2, s3, s4, rfl, h8⟩ := asSl_inv h7
  obtain ⟨s5, s6, r7, rfl, h14⟩ := cPDD h8
  obtain ⟨rfl, h15⟩ := cN h14
  obtain ⟨s7, r8, rfl, h18⟩ := oD h15
  obtain ⟨s8, r10, rfl, h20⟩ := cR h18
  obtain ⟨s9, r11, rfl, h22⟩ := cR h20
  obtain ⟨s10, r12, rfl, h25⟩ := oD h22
  obtain ⟨rfl, h26⟩ := cN h25
  intro J hJ
  have hp : wH 10 Try.f10 (body Try.f10 9) nL := all_eq (by kernel_rfl) all_nil
  exact h26.of (fun s1 s2 s3 s4 s5 s6 s7 s8 s9 s10 => J [(11000009, .undef), (1, I s1), (4, .ptr 0 0 []), (9, .vec 1), (10, .sl 2 s2 s3 s4 false), (12, .ptr 3 0 []), (13, B s5), (14, I s6)] [.one w1 (.d w1 s7), .row .bool s8 false, .row w6 s9 false, .one w0 (.d w0 s10)]) (fun s1 s2 s3 s4 s5 s6 s7 s8 s9 s10 hb => loop_round2 hSl10r9 (inlOK _) hp hJ (by kernel_rfl) hb)
abbrev Sl10r18 : wS := [(24, none, sp24)]
theorem hSl10r18 : SpecOK E (ofL Sl10r18) := specOK_cons h24 specOK_nil
def lsl10r18 : LSp := fun vs σ K => dD wI vs fun s1 r1 => dP (.ptr 0 0 []) r1 fun r2 => dP (.vec 1) r2 fun r3 => asCons r3 fun a4 r4 => asSl 2 false a4 fun s2 s3 s4 => dD (.sl w5) r4 fun s5 r5 => dD wI r5 fun s6 r6 => dD wI r6 fun s7 r7 => asNil r7 <| dO w1 w1 σ fun s8 r8 => dR .bool false r8 fun s9 r10 => dR w6 false r10 fun s10 r11 => asNil r11 <| l10r18 (fun z1 z2 z3 z4 z5 z6 z7 => K (.exit 4) [(1, I z1), (4, .ptr 0 0 []), (9, .vec 1), (10, .sl 2 z2 z3 z4 false)] [.one w1 (.d w1 z5), .row .bool z6 false, .row w6 z7 false]) (fun z1 z2 z3 z4 => K (.exit 4) [(1, I z1), (4, .ptr 0 0 []), (9, .vec 1), (10, .vec 2)] [.one w1 (.d w1 z2), .row .bool z3 false, .row w6 z4 false]) s1 s2 s3 s4 s5 s6 s7 s8 s9 s10
theorem l10r18v : LoopV E wF (E.info 10).keep 0 Try.f10.ntmps 11000018 (body Try.f10 18) ([1, 4, 9, 10, 82, 83, 84], lsl10r18) := by
  intro vs σ K h0
  obtain ⟨s1, r3, rfl, h6⟩ := cDPP h0
  obtain ⟨a4, r4, rfl, h7⟩ := asCons_inv h6
  obtain ⟨s2, s3, s4, rfl, h8⟩ := asSl_inv h7
  obtain ⟨s5, s6, s7, r7, rfl, h14⟩ := cDDD h8
  obtain ⟨rfl, h15⟩ := cN h14
  obtain ⟨s8, r8, rfl, h18⟩ := oD h15
  obtain ⟨s9, r10, rfl, h20⟩ := cR h18
  obtain ⟨s10, r11, rfl, h22⟩ := cR h20
  obtain ⟨rfl, h23⟩ := cN h22
  intro J hJ
  have hp : wH 10 Try.f10 (body Try.f10 18) nL := all_eq (by kernel_rfl) all_nil
  exact h23.of (fun s1 s2 s3 s4 s5 s6 s7 s8 s9 s10 => J [(11000018, .undef), (1, I s1), (4, .ptr 0 0 []), (9, .vec 1), (10, .sl 2 s2 s3 s4 false), (82, .d (.sl w5) s5), (83, I s6), (84, I s7)] [.one w1 (.d w1 s8), .row .bool s9 false, .row w6 s10 false]) (fun s16 s17 s18 s19 s20 s21 s22 => J [(11000018, .undef), (1, I s16), (4, .ptr 0 0 []), (9, .vec 1), (10, .vec 2), (82, .d (.sl w5) s17), (83, I s18), (84, I s19)] [.one w1 (.d w1 s20), .row .bool s21 false, .row w6 s22 false]) (fun s1 s2 s3 s4 s5 s6 s7 s8 s9 s10 hb => loop_round2 hSl10r18 (inlOK _) hp hJ (by kernel_rfl) hb) (fun s16 s17 s18 s19 s20 s21 s22 hb => loop_round2 hSl10r18 (inlOK _) hp hJ (by kernel_rfl) hb)
abbrev Sl10r3 : wS := [(17, none, sp17), (24, none, sp24)]
theorem hSl10r3 : SpecOK E (ofL Sl10r3) := specOK_cons h17 (specOK_cons h24 specOK_nil)
abbrev Ll10r3 : wL := [(11000009, [1, 4, 9, 10, 12, 13, 14], none, lsl10r9), (11000018, [1, 4, 9, 10, 82, 83, 84], none, lsl10r18)]
def lsl10r3 : LSp := fun vs σ K => dD wI vs fun s1 r1 => dP (.ptr 0 0 []) r1 fun r2 => dP (.vec 1) r2 fun r3 => dP (.vec 2) r3 fun r4 => asNil r4 <| dO w1 w1 σ fun s2 r5 => dR .bool false r5 fun s3 r7 => dR w6 false r7 fun s4 r8 => asNil r8 <| l10r3 (fun z1 => K .ret [(8, B z1)] []) (K (.exit 0) [(8, .undef)] []) s1 s2 s3 s4
theorem l10r3v : LoopV E wF (E.info 10).keep 0 Try.f10.ntmps 11000003 (body Try.f10 3) ([1, 4, 9, 10], lsl10r3) := by
  intro vs σ K h0
  obtain ⟨s1, r4, rfl, h8⟩ := cDPPP h0
  obtain ⟨rfl, h9⟩ := cN h8
  obtain ⟨s2, r5, rfl, h12⟩ := oD h9
  obtain ⟨s3, r7, rfl, h14⟩ := cR h12
  obtain ⟨s4, r8, rfl, h16⟩ := cR h14
  obtain ⟨rfl, h17⟩ := cN h16
  intro J hJ
  have hp : wH 10 Try.f10 (body Try.f10 3) Ll10r3 := all_eq (by kernel_rfl : subsOf (E.info 10).keep (body Try.f10 3) = [.loop (body Try.f10 9), .loop (body Try.f10 18)]) (all_cons (loopOK_of (mk := 11000009) (sl := [1, 4, 9, 10, 12, 13, 14]) (ss := [([1, 4, 9, 10, 12, 13, 14], lsl10r9)]) (by kernel_rfl) (by kernel_rfl) (all_cons l10r9v all_nil)) (all_cons (loopOK_of (mk := 11000018) (sl := [1, 4, 9, 10, 82, 83, 84]) (ss := [([1, 4, 9, 10, 82, 83, 84], lsl10r18)]) (by kernel_rfl) (by kernel_rfl) (all_cons l10r18v all_nil)) all_nil))
  exact h17.of (fun s1 s2 s3 s4 => J [(11000003, .undef), (1, I s1), (4, .ptr 0 0 []), (9, .vec 1), (10, .vec 2)] [.one w1 (.d w1 s2), .row .bool s3 false, .row w6 s4 false]) (fun s30 s31 s32 s33 s34 s35 s36 => J [(11000003, .undef), (1, I s30), (4, .ptr 0 0 []), (9, .vec 1), (10, .sl 2 s31 s32 s33 false)] [.one w1 (.d w1 s34), .row .bool s35 false, .row w6 s36 false]) (fun s1 s2 s3 s4 hb => loop_round2 hSl10r3 (inlOK _) hp hJ (by kernel_rfl) hb) (fun s30 s31 s32 s33 s34 s35 s36 hb => loop_round2 hSl10r3 (inlOK _) hp hJ (by kernel_rfl) hb)
abbrev L10 : wL := [(11000003, [1, 4, 9, 10], none, lsl10r3)]
def sp10 : Sp := fun args τ K => dD w1 args fun x1 r1 => dD wI r1 fun x2 r2 => dD wI r2 fun x3 r3 => dD wI r3 fun x4 r4 => asNil r4 <| asNil τ <| c10 x1 x2 x3 x4 (fun z1 => K (B z1) [])
theorem h10 : ∀ args τ K, sp10 args τ K → ACall E 10 args τ K := by
  intro args τ K h0
  obtain ⟨x1, x2, x3, x4, r4, rfl, h8⟩ := cDDDD h0
  obtain ⟨rfl, rfl, h10⟩ := cM h8
  exact ACall.spec2 (fn := Try.f10) (c := codeOf Try.f10) (L := lofL L10) nS (by kernel_rfl) (by kernel_rfl) (inlOK _) (all_eq (by kernel_rfl : subsOf (E.info 10).keep (codeOf Try.f10) = [.loop (body Try.f10 3)]) (all_cons (loopOK_of (mk := 11000003) (sl := [1, 4, 9, 10]) (ss := [([1, 4, 9, 10], lsl10r3)]) (by kernel_rfl) (by kernel_rfl) (all_cons l10r3v all_nil)) all_nil)) (by kernel_rfl) h10.of
abbrev Sl3r16 : wS := [(10, none, sp10)]
theorem hSl3r16 : SpecOK E (ofL Sl3r16) := specOK_cons h10 specOK_nil
def lsl3r16 : LSp := fun vs σ K => dP (.ptr 0 0 []) vs fun r1 => dP (.vec 1) r1 fun r2 => dD wI r2 fun s1 r3 => dD wI r3 fun s2 r4 => dD wI r4 fun s3 r5 => dD wI r5 fun s4 r6 => dD wI r6 fun s5 r7 => dD wI r7 fun s6 r8 => dD wI r8 fun s7 r9 => dP (.ptr 2 0 []) r9 fun r10 => dD wI r10 fun s8 r11 => dD wI r11 fun s9 r12 => dD wI r12 fun s10 r13 => dD wI r13 fun s11 r14 => dD wI r14 fun s12 r15 => dD (.sl w0) r15 fun s13 r16 => dD wI r16 fun s14 r17 => dD wI r17 fun s15 r18 => asNil r18 <| dO w1 w1 σ fun s16 r19 => dR w2 false r19 fun s17 r21 => dO w0 w0 r21 fun s18 r22 => asNil r22 <| l3r16 (fun z1 z2 z3 z4 z5 z6 z7 z8 z9 z10 z11 z12 z13 z14 z15 z16 => K (.exit 4) [(1, .ptr 0 0 []), (3, .vec 1), (4, I z1), (5, I z2), (6, I z3), (7, I z4), (8, I z5), (9, I z6), (10, I z7), (12, I z8), (13, I z9), (46, I z10), (47, I z11), (51, .d (.sl w0) z12), (52, I z13), (53, I z14)] [.one w1 (.d w1 z15), .row w2 z16 false]) s1 s2 s3 s4 s5 s6 s7 s8 s9 s10 s11 s12 s13 s14 s15 s16 s17 s18
theorem l3r16v : LoopV E wF (E.info 3).keep 0 Try.f3.ntmps 4000016 (body Try.f3 16) ([1, 3, 4, 5, 6, 7, 8, 9, 10, 11, 12, 13, 14, 46, 47, 51, 52, 53], lsl3r16) := by
  intro vs σ K h0
  obtain ⟨s1, s2, r4, rfl, h8⟩ := cPPDD h0
  obtain ⟨s3, s4, s5, s6, r8, rfl, h16⟩ := cDDDD h8
  obtain ⟨s7, s8, s9, r12, rfl, h24⟩ := cDPDD h16
  obtain ⟨s10, s11, s12, s13, r16, rfl, h32⟩ := cDDDD h24
  obtain ⟨s14, s15, r18, rfl, h36⟩ := cDD h32
  obtain ⟨rfl, h37⟩ := cN h36
  obtain ⟨s16, r19, rfl, h40⟩ := oD h37
  obtain ⟨s17, r21, rfl, h42⟩ := cR h40
  obtain ⟨s18, r22, rfl, h45⟩ := oD h42
  obtain ⟨rfl, h46⟩ := cN h45
  intro J hJ
  have hp : wH 3 Try.f3 (body Try.f3 16) nL := all_eq (by kernel_rfl) all_nil
  exact h46.of (fun s1 s2 s3 s4 s5 s6 s7 s8 s9 s10 s11 s12 s13 s14 s15 s16 s17 s18 => J [(4000016, .undef), (1, .ptr 0 0 []), (3, .vec 1), (4, I s1), (5, I s2), (6, I s3), (7, I s4), (8, I s5), (9, I s6), (10, I s7), (11, .ptr 2 0 []), (12, I s8), (13, I s9), (14, I s10), (46, I s11), (47, I s12), (51, .d (.sl w0) s13), (52, I s14), (53, I s15)] [.one w1 (.d w1 s16), .row w2 s17 false, .one w0 (.d w0 s18)]) (fun s1 s2 s3 s4 s5 s6 s7 s8 s9 s10 s11 s12 s13 s14 s15 s16 s17 s18 hb => loop_round2 hSl3r16 (inlOK _) hp hJ (by kernel_rfl) hb)
abbrev Ll3r12 : wL := [(4000016, [1, 3, 4, 5, 6, 7, 8, 9, 10, 11, 12, 13, 14, 46, 47, 51, 52, 53], none, lsl3r16)]
def lsl3r12 : LSp := fun vs σ K => dP (.ptr 0 0 []) vs fun r1 => dP (.vec 1) r1 fun r2 => dD wI r2 fun s1 r3 => dD wI r3 fun s2 r4 => dD wI r4 fun s3 r5 => dD wI r5 fun s4 r6 => dD wI r6 fun s5 r7 => dD wI r7 fun s6 r8 => dD wI r8 fun s7 r9 => dD wI r9 fun s8 r10 => dD (.sl w0) r10 fun s9 r11 => dD wI r11 fun s10 r12 => dD wI r12 fun s11 r13 => asNil r13 <| dO w1 w1 σ fun s12 r14 => dR w2 false r14 fun s13 r16 => asNil r16 <| l3r12 (fun z1 => K .ret [(1, .undef), (2, B z1), (3, .undef), (4, .undef), (5, .undef), (6, .undef), (7, .undef), (8, .undef), (46, .undef), (47, .undef)] []) (fun z1 z2 z3 z4 z5 z6 z7 z8 z9 => K (.exit 2) [(1, .ptr 0 0 []), (2, .undef), (3, .vec 1), (4, I z1), (5, I z2), (6, I z3), (7, I z4), (8, I z5), (46, I z6), (47, I z7)] [.one w1 (.d w1 z8), .row w2 z9 false]) s1 s2 s3 s4 s5 s6 s7 s8 s9 s10 s11 s12 s13
theorem l3r12v : LoopV E wF (E.info 3).keep 0 Try.f3.ntmps 4000012 (body Try.f3 12) ([1, 3, 4, 5, 6, 7, 8, 9, 46, 47, 51, 52, 53], lsl3r12) := by
  intro vs σ K h0
  obtain ⟨s1, s2, r4, rfl, h8⟩ := cPPDD h0
  obtain ⟨s3, s4, s5, s6, r8, rfl, h16⟩ := cDDDD h8
  obtain ⟨s7, s8, s9, s10, r12, rfl, h24⟩ := cDDDD h16
  obtain ⟨s11, r13, rfl, h26⟩ := cD h24
  obtain ⟨rfl, h27⟩ := cN h26
  obtain ⟨s12, r14, rfl, h30⟩ := oD h27
  obtain ⟨s13, r16, rfl, h32⟩ := cR h30
  obtain ⟨rfl, h33⟩ := cN h32
  intro J hJ
  have hp : wH 3 Try.f3 (body Try.f3 12) Ll3r12 := all_eq (by kernel_rfl : subsOf (E.info 3).keep (body Try.f3 12) = [.loop (body Try.f3 16)]) (all_cons (loopOK_of (mk := 4000016) (sl := [1, 3, 4, 5, 6, 7, 8, 9, 10, 11, 12, 13, 14, 46, 47, 51, 52, 53]) (ss := [([1, 3, 4, 5, 6, 7, 8, 9, 10, 11, 12, 13, 14, 46, 47, 51, 52, 53], lsl3r16)]) (by kernel_rfl) (by kernel_rfl) (all_cons l3r16v all_nil)) all_nil)
  exact h33.of (fun s1 s2 s3 s4 s5 s6 s7 s8 s9 s10 s11 s12 s13 => J [(4000012, .undef), (1, .ptr 0 0 []), (3, .vec 1), (4, I s1), (5, I s2), (6, I s3), (7, I s4), (8, I s5), (9, I s6), (46, I s7), (47, I s8), (51, .d (.sl w0) s9), (52, I s10), (53, I s11)] [.one w1 (.d w1 s12), .row w2 s13 false]) (fun s1 s2 s3 s4 s5 s6 s7 s8 s9 s10 s11 s12 s13 hb => loop_round2 nS (inlOK _) hp hJ (by kernel_rfl) hb)
abbrev Ll3r9 : wL := [(4000012, [1, 3, 4, 5, 6, 7, 8, 9, 46, 47, 51, 52, 53], none, lsl3r12)]
def lsl3r9 : LSp := fun vs σ K => dP (.ptr 0 0 []) vs fun r1 => dP (.vec 1) r1 fun r2 => dD wI r2 fun s1 r3 => dD wI r3 fun s2 r4 => dD wI r4 fun s3 r5 => dD wI r5 fun s4 r6 => dD wI r6 fun s5 r7 => dD wI r7 fun s6 r8 => dD wI r8 fun s7 r9 => asNil r9 <| dO w1 w1 σ fun s8 r10 => dR w2 false r10 fun s9 r12 => asNil r12 <| l3r9 (fun z1 => K .ret [(1, .undef), (2, B z1), (3, .undef), (4, .undef), (5, .undef), (6, .undef), (7, .undef), (8, .undef)] []) (fun z1 z2 z3 z4 z5 z6 z7 => K (.exit 0) [(1, .ptr 0 0 []), (2, .undef), (3, .vec 1), (4, I z1), (5, I z2), (6, I z3), (7, I z4), (8, I z5)] [.one w1 (.d w1 z6), .row w2 z7 false]) s1 s2 s3 s4 s5 s6 s7 s8 s9
theorem l3r9v : LoopV E wF (E.info 3).keep 0 Try.f3.ntmps 4000009 (body Try.f3 9) ([1, 3, 4, 5, 6, 7, 8, 46, 47], lsl3r9) := by
  intro vs σ K h0
  obtain ⟨s1, s2, r4, rfl, h8⟩ := cPPDD h0
  obtain ⟨s3, s4, s5, s6, r8, rfl, h16⟩ := cDDDD h8
  obtain ⟨s7, r9, rfl, h18⟩ := cD h16
  obtain ⟨rfl, h19⟩ := cN h18
  obtain ⟨s8, r10, rfl, h22⟩ := oD h19
  obtain ⟨s9, r12, rfl, h24⟩ := cR h22
  obtain ⟨rfl, h25⟩ := cN h24
  intro J hJ
  have hp : wH 3 Try.f3 (body Try.f3 9) Ll3r9 := all_eq (by kernel_rfl : subsOf (E.info 3).keep (body Try.f3 9) = [.loop (body Try.f3 12)]) (all_cons (loopOK_of (mk := 4000012) (sl := [1, 3, 4, 5, 6, 7, 8, 9, 46, 47, 51, 52, 53]) (ss := [([1, 3, 4, 5, 6, 7, 8, 9, 46, 47, 51, 52, 53], lsl3r12)]) (by kernel_rfl) (by kernel_rfl) (all_cons l3r12v all_nil)) all_nil)
  exact h25.of (fun s1 s2 s3 s4 s5 s6 s7 s8 s9 => J [(4000009, .undef), (1, .ptr 0 0 []), (3, .vec 1), (4, I s1), (5, I s2), (6, I s3), (7, I s4), (8, I s5), (46, I s6), (47, I s7)] [.one w1 (.d w1 s8), .row w2 s9 false]) (fun s1 s2 s3 s4 s5 s6 s7 s8 s9 hb => loop_round2 nS (inlOK _) hp hJ (by kernel_rfl) hb)
abbrev Sl3r36 : wS := [(10, none, sp10)]
theorem hSl3r36 : SpecOK E (ofL Sl3r36) := specOK_cons h10 specOK_nil
def lsl3r36 : LSp := fun vs σ K => dP (.ptr 0 0 []) vs fun r1 => dP (.vec 1) r1 fun r2 => dD wI r2 fun s1 r3 => dD wI r3 fun s2 r4 => dD wI r4 fun s3 r5 => dD wI r5 fun s4 r6 => dD wI r6 fun s5 r7 => dD wI r7 fun s6 r8 => dP (.ptr 2 0 []) r8 fun r9 => dD wI r9 fun s7 r10 => dD wI r10 fun s8 r11 => dD (.sl w0) r11 fun s9 r12 => dD wI r12 fun s10 r13 => dD wI r13 fun s11 r14 => dD wI r14 fun s12 r15 => dD wI r15 fun s13 r16 => asNil r16 <| dO w1 w1 σ fun s14 r17 => dR w2 false r17 fun s15 r19 => dO w0 w0 r19 fun s16 r20 => asNil r20 <| l3r36 (fun z1 z2 z3 z4 z5 z6 z7 z8 z9 z10 z11 z12 z13 z14 => K (.exit 10) [(1, .ptr 0 0 []), (3, .vec 1), (4, I z1), (5, I z2), (6, I z3), (7, I z4), (8, I z5), (15, I z6), (16, .ptr 2 0 []), (17, I z7), (18, I z8), (97, .d (.sl w0) z9), (98, I z10), (99, I z11)] [.one w1 (.d w1 z12), .row w2 z13 false, .one w0 (.d w0 z14)]) s1 s2 s3 s4 s5 s6 s7 s8 s9 s10 s11 s12 s13 s14 s15 s16
theorem l3r36v : LoopV E wF (E.info 3).keep 0 Try.f3.ntmps 4000036 (body Try.f3 36) ([1, 3, 4, 5, 6, 7, 8, 15, 16, 17, 18, 97, 98, 99, 112, 113], lsl3r36) := by
  intro vs σ K h0
  obtain ⟨s1, s2, r4, rfl, h8⟩ := cPPDD h0
  obtain ⟨s3, s4, s5, s6, r8, rfl, h16⟩ := cDDDD h8
  obtain ⟨s7, s8, s9, r12, rfl, h24⟩ := cPDDD h16
  obtain ⟨s10, s11, s12, s13, r16, rfl, h32⟩ := cDDDD h24
  obtain ⟨rfl, h33⟩ := cN h32
  obtain ⟨s14, r17, rfl, h36⟩ := oD h33
  obtain ⟨s15, r19, rfl, h38⟩ := cR h36
  obtain ⟨s16, r20, rfl, h41⟩ := oD h38
  obtain ⟨rfl, h42⟩ := cN h41
  intro J hJ
  have hp : wH 3 Try.f3 (body Try.f3 36) nL := all_eq (by kernel_rfl) all_nil
  exact h42.of (fun s1 s2 s3 s4 s5 s6 s7 s8 s9 s10 s11 s12 s13 s14 s15 s16 => J [(4000036, .undef), (1, .ptr 0 0 []), (3, .vec 1), (4, I s1), (5, I s2), (6, I s3), (7, I s4), (8, I s5), (15, I s6), (16, .ptr 2 0 []), (17, I s7), (18, I s8), (97, .d (.sl w0) s9), (98, I s10), (99, I s11), (112, I s12), (113, I s13)] [.one w1 (.d w1 s14), .row w2 s15 false, .one w0 (.d w0 s16)]) (fun s1 s2 s3 s4 s5 s6 s7 s8 s9 s10 s11 s12 s13 s14 s15 s16 hb => loop_round2 hSl3r36 (inlOK _) hp hJ (by kernel_rfl) hb)
abbrev Sl3r32 : wS := [(6, none, sp6)]
theorem hSl3r32 : SpecOK E (ofL Sl3r32) := specOK_cons h6 specOK_nil
abbrev Ll3r32 : wL := [(4000036, [1, 3, 4, 5, 6, 7, 8, 15, 16, 17, 18, 97, 98, 99, 112, 113], none, lsl3r36)]
def lsl3r32 : LSp := fun vs σ K => dP (.ptr 0 0 []) vs fun r1 => dP (.vec 1) r1 fun r2 => dD wI r2 fun s1 r3 => dD wI r3 fun s2 r4 => dD wI r4 fun s3 r5 => dD wI r5 fun s4 r6 => dD wI r6 fun s5 r7 => dD wI r7 fun s6 r8 => dP (.ptr 2 0 []) r8 fun r9 => dD wI r9 fun s7 r10 => dD (.sl w0) r10 fun s8 r11 => dD wI r11 fun s9 r12 => dD wI r12 fun s10 r13 => asNil r13 <| dO w1 w1 σ fun s11 r14 => dR w2 false r14 fun s12 r16 => dO w0 w0 r16 fun s13 r17 => asNil r17 <| l3r32 (fun z1 z2 z3 z4 z5 z6 z7 z8 z9 z10 => K (.exit 8) [(1, .ptr 0 0 []), (3, .vec 1), (4, I z1), (5, I z2), (6, I z3), (7, I z4), (8, I z5), (97, .d (.sl w0) z6), (98, I z7), (99, I z8)] [.one w1 (.d w1 z9), .row w2 z10 false]) s1 s2 s3 s4 s5 s6 s7 s8 s9 s10 s11 s12 s13
theorem l3r32v : LoopV E wF (E.info 3).keep 0 Try.f3.ntmps 4000032 (body Try.f3 32) ([1, 3, 4, 5, 6, 7, 8, 15, 16, 17, 97, 98, 99], lsl3r32) := by
  intro vs σ K h0
  obtain ⟨s1, s2, r4, rfl, h8⟩ := cPPDD h0
  obtain ⟨s3, s4, s5, s6, r8, rfl, h16⟩ := cDDDD h8
  obtain ⟨s7, s8, s9, r12, rfl, h24⟩ := cPDDD h16
  obtain ⟨s10, r13, rfl, h26⟩ := cD h24
  obtain ⟨rfl, h27⟩ := cN h26
  obtain ⟨s11, r14, rfl, h30⟩ := oD h27
  obtain ⟨s12, r16, rfl, h32⟩ := cR h30
  obtain ⟨s13, r17, rfl, h35⟩ := oD h32
  obtain ⟨rfl, h36⟩ := cN h35
  intro J hJ
  have hp : wH 3 Try.f3 (body Try.f3 32) Ll3r32 := all_eq (by kernel_rfl : subsOf (E.info 3).keep (body Try.f3 32) = [.loop (body Try.f3 36)]) (all_cons (loopOK_of (mk := 4000036) (sl := [1, 3, 4, 5, 6, 7, 8, 15, 16, 17, 18, 97, 98, 99, 112, 113]) (ss := [([1, 3, 4, 5, 6, 7, 8, 15, 16, 17, 18, 97, 98, 99, 112, 113], lsl3r36)]) (by kernel_rfl) (by kernel_rfl) (all_cons l3r36v all_nil)) all_nil)
  exact h36.of (fun s1 s2 s3 s4 s5 s6 s7 s8 s9 s10 s11 s12 s13 => J [(4000032, .undef), (1, .ptr 0 0 []), (3, .vec 1), (4, I s1), (5, I s2), (6, I s3), (7, I s4), (8, I s5), (15, I s6), (16, .ptr 2 0 []), (17, I s7), (97, .d (.sl w0) s8), (98, I s9), (99, I s10)] [.one w1 (.d w1 s11), .row w2 s12 false, .one w0 (.d w0 s13)]) (fun s1 s2 s3 s4 s5 s6 s7 s8 s9 s10 s11 s12 s13 hb => loop_round2 hSl3r32 (inlOK _) hp hJ (by kernel_rfl) hb)
abbrev Ll3r29 : wL := [(4000032, [1, 3, 4, 5, 6, 7, 8, 15, 16, 17, 97, 98, 99], none, lsl3r32)]
def lsl3r29 : LSp := fun vs σ K => dP (.ptr 0 0 []) vs fun r1 => dP (.vec 1) r1 fun r2 => dD wI r2 fun s1 r3 => dD wI r3 fun s2 r4 => dD wI r4 fun s3 r5 => dD wI r5 fun s4 r6 => dD wI r6 fun s5 r7 => dD (.sl w0) r7 fun s6 r8 => dD wI r8 fun s7 r9 => dD wI r9 fun s8 r10 => asNil r10 <| dO w1 w1 σ fun s9 r11 => dR w2 false r11 fun s10 r13 => asNil r13 <| l3r29 (fun z1 z2 z3 z4 z5 z6 => K (.exit 6) [(3, .vec 0), (4, I z1), (5, I z2), (6, I z3), (7, I z4), (8, I z5)] [.row w2 z6 false]) s1 s2 s3 s4 s5 s6 s7 s8 s9 s10
theorem l3r29v : LoopV E wF (E.info 3).keep 0 Try.f3.ntmps 4000029 (body Try.f3 29) ([1, 3, 4, 5, 6, 7, 8, 97, 98, 99], lsl3r29) := by
  intro vs σ K h0
  obtain ⟨s1, s2, r4, rfl, h8⟩ := cPPDD h0
  obtain ⟨s3, s4, s5, s6, r8, rfl, h16⟩ := cDDDD h8
  obtain ⟨s7, s8, r10, rfl, h20⟩ := cDD h16
  obtain ⟨rfl, h21⟩ := cN h20
  obtain ⟨s9, r11, rfl, h24⟩ := oD h21
  obtain ⟨s10, r13, rfl, h26⟩ := cR h24
  obtain ⟨rfl, h27⟩ := cN h26
  intro J hJ
  have hp : wH 3 Try.f3 (body Try.f3 29) Ll3r29 := all_eq (by kernel_rfl : subsOf (E.info 3).keep (body Try.f3 29) = [.loop (body Try.f3 32)]) (all_cons (loopOK_of (mk := 4000032) (sl := [1, 3, 4, 5, 6, 7, 8, 15, 16, 17, 97, 98, 99]) (ss := [([1, 3, 4, 5, 6, 7, 8, 15, 16, 17, 97, 98, 99], lsl3r32)]) (by kernel_rfl) (by kernel_rfl) (all_cons l3r32v all_nil)) all_nil)
  exact h27.of (fun s1 s2 s3 s4 s5 s6 s7 s8 s9 s10 => J [(4000029, .undef), (1, .ptr 0 0 []), (3, .vec 1), (4, I s1), (5, I s2), (6, I s3), (7, I s4), (8, I s5), (97, .d (.sl w0) s6), (98, I s7), (99, I s8)] [.one w1 (.d w1 s9), .row w2 s10 false]) (fun s1 s2 s3 s4 s5 s6 s7 s8 s9 s10 hb => loop_round2 nS (inlOK _) hp hJ (by kernel_rfl) hb)
abbrev Sl3r16v2 : wS := [(10, none, sp10)]
theorem hSl3r16v2 : SpecOK E (ofL Sl3r16v2) := specOK_cons h10 specOK_nil
def lsl3r16v2 : LSp := fun vs σ K => dP (.ptr 0 0 []) vs fun r1 => asCons r1 fun a2 r2 => asSl 1 false a2 fun s1 s2 s3 => dD wI r2 fun s4 r3 => dD wI r3 fun s5 r4 => dD wI r4 fun s6 r5 => dD wI r5 fun s7 r6 => dD wI r6 fun s8 r7 => dD wI r7 fun s9 r8 => dD wI r8 fun s10 r9 => dP (.ptr 2 0 []) r9 fun r10 => dD wI r10 fun s11 r11 => dD wI r11 fun s12 r12 => dD wI r12 fun s13 r13 => dD wI r13 fun s14 r14 => dD wI r14 fun s15 r15 => dD (.sl w0) r15 fun s16 r16 => dD wI r16 fun s17 r17 => dD wI r17 fun s18 r18 => asNil r18 <| dO w1 w1 σ fun s19 r19 => dR w2 false r19 fun s20 r21 => dO w0 w0 r21 fun s21 r22 => asNil r22 <| l3r16v2 (fun z1 z2 z3 z4 z5 z6 z7 z8 z9 z10 z11 z12 z13 z14 z15 z16 z17 z18 z19 => K (.exit 4) [(1, .ptr 0 0 []), (3, .sl 1 z1 z2 z3 false), (4, I z4), (5, I z5), (6, I z6), (7, I z7), (8, I z8), (9, I z9), (10, I z10), (12, I z11), (13, I z12), (46, I z13), (47, I z14), (51, .d (.sl w0) z15), (52, I z16), (53, I z17)] [.one w1 (.d w1 z18), .row w2 z19 false]) s1 s2 s3 s4 s5 s6 s7 s8 s9 s10 s11 s12 s13 s14 s15 s16 s17 s18 s19 s20 s21
theorem l3r16v2v : LoopV E wF (E.info 3).keep 0 Try.f3.ntmps 4000016 (body Try.f3 16) ([1, 3, 4, 5, 6, 7, 8, 9, 10, 11, 12, 13, 14, 46, 47, 51, 52, 53], lsl3r16v2) := by
  intro vs σ K h0
  obtain ⟨r1, rfl, h2⟩ := cP h0
  obtain ⟨a2, r2, rfl, h3⟩ := asCons_inv h2
  obtain ⟨s1, s2, s3, rfl, h4⟩ := asSl_inv h3
  obtain ⟨s4, s5, s6, s7, r6, rfl, h12⟩ := cDDDD h4
  obtain ⟨s8, s9, s10, r10, rfl, h20⟩ := cDDDP h12
  obtain ⟨s11, s12, s13, s14, r14, rfl, h28⟩ := cDDDD h20
  obtain ⟨s15, s16, s17, s18, r18, rfl, h36⟩ := cDDDD h28
  obtain ⟨rfl, h37⟩ := cN h36
  obtain ⟨s19, r19, rfl, h40⟩ := oD h37
  obtain ⟨s20, r21, rfl, h42⟩ := cR h40
  obtain ⟨s21, r22, rfl, h45⟩ := oD h42
  obtain ⟨rfl, h46⟩ := cN h45
  intro J hJ
  have hp : wH 3 Try.f3 (body Try.f3 16) nL := all_eq (by kernel_rfl) all_nil
  exact h46.of (fun s1 s2 s3 s4 s5 s6 s7 s8 s9 s10 s11 s12 s13 s14 s15 s16 s17 s18 s19 s20 s21 => J [(4000016, .undef), (1, .ptr 0 0 []), (3, .sl 1 s1 s2 s3 false), (4, I s4), (5, I s5), (6, I s6), (7, I s7), (8, I s8), (9, I s9), (10, I s10), (11, .ptr 2 0 []), (12, I s11), (13, I s12), (14, I s13), (46, I s14), (47, I s15), (51, .d (.sl w0) s16), (52, I s17), (53, I s18)] [.one w1 (.d w1 s19), .row w2 s20 false, .one w0 (.d w0 s21)]) (fun s1 s2 s3 s4 s5 s6 s7 s8 s9 s10 s11 s12 s13 s14 s15 s16 s17 s18 s19 s20 s21 hb => loop_round2 hSl3r16v2 (inlOK _) hp hJ (by kernel_rfl) hb)
abbrev Ll3r12v2 : wL := [(4000016, [1, 3, 4, 5, 6, 7, 8, 9, 10, 11, 12, 13, 14, 46, 47, 51, 52, 53], none, lsl3r16v2)]
def lsl3r12v2 : LSp := fun vs σ K => dP (.ptr 0 0 []) vs fun r1 => asCons r1 fun a2 r2 => asSl 1 false a2 fun s1 s2 s3 => dD wI r2 fun s4 r3 => dD wI r3 fun s5 r4 => dD wI r4 fun s6 r5 => dD wI r5 fun s7 r6 => dD wI r6 fun s8 r7 => dD wI r7 fun s9 r8 => dD wI r8 fun s10 r9 => dD wI r9 fun s11 r10 => dD (.sl w0) r10 fun s12 r11 => dD wI r11 fun s13 r12 => dD wI r12 fun s14 r13 => asNil r13 <| dO w1 w1 σ fun s15 r14 => dR w2 false r14 fun s16 r16 => asNil r16 <| l3r12v2 (fun z1 => K .ret [(1, .undef), (2, B z1), (3, .undef), (4, .undef), (5, .undef), (6, .undef), (7, .undef), (8, .undef), (46, .undef), (47, .undef)] []) (fun z1 z2 z3 z4 z5 z6 z7 z8 z9 z10 z11 z12 => K (.exit 2) [(1, .ptr 0 0 []), (2, .undef), (3, .sl 1 z1 z2 z3 false), (4, I z4), (5, I z5), (6, I z6), (7, I z7), (8, I z8), (46, I z9), (47, I z10)] [.one w1 (.d w1 z11), .row w2 z12 false]) s1 s2 s3 s4 s5 s6 s7 s8 s9 s10 s11 s12 s13 s14 s15 s16
theorem l3r12v2v : LoopV E wF (E.info 3).keep 0 Try.f3.ntmps 4000012 (body Try.f3 12) ([1, 3, 4, 5, 6, 7, 8, 9, 46, 47, 51, 52, 53], lsl3r12v2) := by
  intro vs σ K h0
  obtain ⟨r1, rfl, h2⟩ := cP h0
  obtain ⟨a2, r2, rfl, h3⟩ := asCons_inv h2
  obtain ⟨s1, s2, s3, rfl, h4⟩ := asSl_inv h3
  obtain ⟨s4, s5, s6, s7, r6, rfl, h12⟩ := cDDDD h4
  obtain ⟨s8, s9, s10, s11, r10, rfl, h20⟩ := cDDDD h12
  obtain ⟨s12, s13, s14, r13, rfl, h26⟩ := cDDD h20
  obtain ⟨rfl, h27⟩ := cN h26
  obtain ⟨s15, r14, rfl, h30⟩ := oD h27
  obtain ⟨s16, r16, rfl, h32⟩ := cR h30
  obtain ⟨rfl, h33⟩ := cN h32
  intro J hJ
  have hp : wH 3 Try.f3 (body Try.f3 12) Ll3r12v2 := all_eq (by kernel_rfl : subsOf (E.info 3).keep (body Try.f3 12) = [.loop (body Try.f3 16)]) (all_cons (loopOK_of (mk := 4000016) (sl := [1, 3, 4, 5, 6, 7, 8, 9, 10, 11, 12, 13, 14, 46, 47, 51, 52, 53]) (ss := [([1, 3, 4, 5, 6, 7, 8, 9, 10, 11, 12, 13, 14, 46, 47, 51, 52, 53], lsl3r16v2)]) (by kernel_rfl) (by kernel_rfl) (all_cons l3r16v2v all_nil)) all_nil)
  exact h33.of (fun s1 s2 s3 s4 s5 s6 s7 s8 s9 s10 s11 s12 s13 s14 s15 s16 => J [(4000012, .undef), (1, .ptr 0 0 []), (3, .sl 1 s1 s2 s3 false), (4, I s4), (5, I s5), (6, I s6), (7, I s7), (8, I s8), (9, I s9), (46, I s10), (47, I s11), (51, .d (.sl w0) s12), (52, I s13), (53, I s14)] [.one w1 (.d w1 s15), .row w2 s16 false]) (fun s1 s2 s3 s4 s5 s6 s7 s8 s9 s10 s11 s12 s13 s14 s15 s16 hb => loop_round2 nS (inlOK _) hp hJ (by kernel_rfl) hb)
abbrev Ll3r9v2 : wL := [(4000012, [1, 3, 4, 5, 6, 7, 8, 9, 46, 47, 51, 52, 53], none, lsl3r12v2)]
def lsl3r9v2 : LSp := fun vs σ K => dP (.ptr 0 0 []) vs fun r1 => asCons r1 fun a2 r2 => asSl 1 false a2 fun s1 s2 s3 => dD wI r2 fun s4 r3 => dD wI r3 fun s5 r4 => dD wI r4 fun s6 r5 => dD wI r5 fun s7 r6 => dD wI r6 fun s8 r7 => dD wI r7 fun s9 r8 => dD wI r8 fun s10 r9 => asNil r9 <| dO w1 w1 σ fun s11 r10 => dR w2 false r10 fun s12 r12 => asNil r12 <| l3r9v2 (fun z1 => K .ret [(1, .undef), (2, B z1), (3, .undef), (4, .undef), (5, .undef), (6, .undef), (7, .undef), (8, .undef)] []) (fun z1 z2 z3 z4 z5 z6 z7 z8 z9 z10 => K (.exit 0) [(1, .ptr 0 0 []), (2, .undef), (3, .sl 1 z1 z2 z3 false), (4, I z4), (5, I z5), (6, I z6), (7, I z7), (8, I z8)] [.one w1 (.d w1 z9), .row w2 z10 false]) s1 s2 s3 s4 s5 s6 s7 s8 s9 s10 s11 s12
theorem l3r9v2v : LoopV E wF (E.info 3).keep 0 Try.f3.ntmps 4000009 (body Try.f3 9) ([1, 3, 4, 5, 6, 7, 8, 46, 47], lsl3r9v2) := by
  intro vs σ K h0
  obtain ⟨r1, rfl, h2⟩ := cP h0
  obtain ⟨a2, r2, rfl, h3⟩ := asCons_inv h2
  obtain ⟨s1, s2, s3, rfl, h4⟩ := asSl_inv h3
  obtain ⟨s4, s5, s6, s7, r6, rfl, h12⟩ := cDDDD h4
  obtain ⟨s8, s9, s10, r9, rfl, h18⟩ := cDDD h12
  obtain ⟨rfl, h19⟩ := cN h18
  obtain ⟨s11, r10, rfl, h22⟩ := oD h19
  obtain ⟨s12, r12, rfl, h24⟩ := cR h22
  obtain ⟨rfl, h25⟩ := cN h24
  intro J hJ
  have hp : wH 3 Try.f3 (body Try.f3 9) Ll3r9v2 := all_eq (by kernel_rfl : subsOf (E.info 3).keep (body Try.f3 9) = [.loop (body Try.f3 12)]) (all_cons (loopOK_of (mk := 4000012) (sl := [1, 3, 4, 5, 6, 7, 8, 9, 46, 47, 51, 52, 53]) (ss := [([1, 3, 4, 5, 6, 7, 8, 9, 46, 47, 51, 52, 53], lsl3r12v2)]) (by kernel_rfl) (by kernel_rfl) (all_cons l3r12v2v all_nil)) all_nil)
  exact h25.of (fun s1 s2 s3 s4 s5 s6 s7 s8 s9 s10 s11 s12 => J [(4000009, .undef), (1, .ptr 0 0 []), (3, .sl 1 s1 s2 s3 false), (4, I s4), (5, I s5), (6, I s6), (7, I s7), (8, I s8), (46, I s9), (47, I s10)] [.one w1 (.d w1 s11), .row w2 s12 false]) (fun s1 s2 s3 s4 s5 s6 s7 s8 s9 s10 s11 s12 hb => loop_round2 nS (inlOK _) hp hJ (by kernel_rfl) hb)
abbrev Sl3r36v2 : wS := [(10, none, sp10)]
theorem hSl3r36v2 : SpecOK E (ofL Sl3r36v2) := specOK_cons h10 specOK_nil
def lsl3r36v2 : LSp := fun vs σ K => dP (.ptr 0 0 []) vs fun r1 => asCons r1 fun a2 r2 => asSl 1 false a2 fun s1 s2 s3 => dD wI r2 fun s4 r3 => dD wI r3 fun s5 r4 => dD wI r4 fun s6 r5 => dD wI r5 fun s7 r6 => dD wI r6 fun s8 r7 => dD wI r7 fun s9 r8 => dP (.ptr 2 0 []) r8 fun r9 => dD wI r9 fun s10 r10 => dD wI r10 fun s11 r11 => dD (.sl w0) r11 fun s12 r12 => dD wI r12 fun s13 r13 => dD wI r13 fun s14 r14 => dD wI r14 fun s15 r15 => dD wI r15 fun s16 r16 => asNil r16 <| dO w1 w1 σ fun s17 r17 => dR w2 false r17 fun s18 r19 => dO w0 w0 r19 fun s19 r20 => asNil r20 <| l3r36v2 (fun z1 z2 z3 z4 z5 z6 z7 z8 z9 z10 z11 z12 z13 z14 z15 z16 z17 => K (.exit 10) [(1, .ptr 0 0 []), (3, .sl 1 z1 z2 z3 false), (4, I z4), (5, I z5), (6, I z6), (7, I z7), (8, I z8), (15, I z9), (16, .ptr 2 0 []), (17, I z10), (18, I z11), (97, .d (.sl w0) z12), (98, I z13), (99, I z14)] [.one w1 (.d w1 z15), .row w2 z16 false, .one w0 (.d w0 z17)]) s1 s2 s3 s4 s5 s6 s7 s8 s9 s10 s11 s12 s13 s14 s15 s16 s17 s18 s19
theorem l3r36v2v : LoopV E wF (E.info 3).keep 0 Try.f3.ntmps 4000036 (body Try.f3 36) ([1, 3, 4, 5, 6, 7, 8, 15, 16, 17, 18, 97, 98, 99, 112, 113], lsl3r36v2) := by
  intro vs σ K h0
  obtain ⟨r1, rfl, h2⟩ := cP h0
  obtain ⟨a2, r2, rfl, h3⟩ := asCons_inv h2
  obtain ⟨s1, s2, s3, rfl, h4⟩ := asSl_inv h3
  obtain ⟨s4, s5, s6, s7, r6, rfl, h12⟩ := cDDDD h4
  obtain ⟨s8, s9, s10, r10, rfl, h20⟩ := cDDPD h12
  obtain ⟨s11, s12, s13, s14, r14, rfl, h28⟩ := cDDDD h20
  obtain ⟨s15, s16, r16, rfl, h32⟩ := cDD h28
  obtain ⟨rfl, h33⟩ := cN h32
  obtain ⟨s17, r17, rfl, h36⟩ := oD h33
  obtain ⟨s18, r19, rfl, h38⟩ := cR h36
  obtain ⟨s19, r20, rfl, h41⟩ := oD h38
  obtain ⟨rfl, h42⟩ := cN h41
  intro J hJ
  have hp : wH 3 Try.f3 (body Try.f3 36) nL := all_eq (by kernel_rfl) all_nil
  exact h42.of (fun s1 s2 s3 s4 s5 s6 s7 s8 s9 s10 s11 s12 s13 s14 s15 s16 s17 s18 s19 => J [(4000036, .undef), (1, .ptr 0 0 []), (3, .sl 1 s1 s2 s3 false), (4, I s4), (5, I s5), (6, I s6), (7, I s7), (8, I s8), (15, I s9), (16, .ptr 2 0 []), (17, I s10), (18, I s11), (97, .d (.sl w0) s12), (98, I s13), (99, I s14), (112, I s15), (113, I s16)] [.one w1 (.d w1 s17), .row w2 s18 false, .one w0 (.d w0 s19)]) (fun s1 s2 s3 s4 s5 s6 s7 s8 s9 s10 s11 s12 s13 s14 s15 s16 s17 s18 s19 hb => loop_round2 hSl3r36v2 (inlOK _) hp hJ (by kernel_rfl) hb)
abbrev Sl3r32v2 : wS := [(6, none, sp6)]
theorem hSl3r32v2 : SpecOK E (ofL Sl3r32v2) := specOK_cons h6 specOK_nil
abbrev Ll3r32v2 : wL := [(4000036, [1, 3, 4, 5, 6, 7, 8, 15, 16, 17, 18, 97, 98, 99, 112, 113], none, lsl3r36v2)]
def lsl3r32v2 : LSp := fun vs σ K => dP (.ptr 0 0 []) vs fun r1 => asCons r1 fun a2 r2 => asSl 1 false a2 fun s1 s2 s3 => dD wI r2 fun s4 r3 => dD wI r3 fun s5 r4 => dD wI r4 fun s6 r5 => dD wI r5 fun s7 r6 => dD wI r6 fun s8 r7 => dD wI r7 fun s9 r8 => dP (.ptr 2 0 []) r8 fun r9 => dD wI r9 fun s10 r10 => dD (.sl w0) r10 fun s11 r11 => dD wI r11 fun s12 r12 => dD wI r12 fun s13 r13 => asNil r13 <| dO w1 w1 σ fun s14 r14 => dR w2 false r14 fun s15 r16 => dO w0 w0 r16 fun s16 r17 => asNil r17 <| l3r32v2 (fun z1 z2 z3 z4 z5 z6 z7 z8 z9 z10 z11 z12 z13 => K (.exit 8) [(1, .ptr 0 0 []), (3, .sl 1 z1 z2 z3 false), (4, I z4), (5, I z5), (6, I z6), (7, I z7), (8, I z8), (97, .d (.sl w0) z9), (98, I z10), (99, I z11)] [.one w1 (.d w1 z12), .row w2 z13 false]) s1 s2 s3 s4 s5 s6 s7 s8 s9 s10 s11 s12 s13 s14 s15 s16
theorem l3r32v2v : LoopV E wF (E.info 3).keep 0 Try.f3.ntmps 4000032 (body Try.f3 32) ([1, 3, 4, 5, 6, 7, 8, 15, 16, 17, 97, 98, 99], lsl3r32v2) := by
  intro vs σ K h0
  obtain ⟨r1, rfl, h2⟩ := cP h0
  obtain ⟨a2, r2, rfl, h3⟩ := asCons_inv h2
  obtain ⟨s1, s2, s3, rfl, h4⟩ := asSl_inv h3
  obtain ⟨s4, s5, s6, s7, r6, rfl, h12⟩ := cDDDD h4
  obtain ⟨s8, s9, s10, r10, rfl, h20⟩ := cDDPD h12
  obtain ⟨s11, s12, s13, r13, rfl, h26⟩ := cDDD h20
  obtain ⟨rfl, h27⟩ := cN h26
  obtain ⟨s14, r14, rfl, h30⟩ := oD h27
  obtain ⟨s15, r16, rfl, h32⟩ := cR h30
  obtain ⟨s16, r17, rfl, h35⟩ := oD h32
  obtain ⟨rfl, h36⟩ := cN h35
  intro J hJ
  have hp : wH 3 Try.f3 (body Try.f3 32) Ll3r32v2 := all_eq (by kernel_rfl : subsOf (E.info 3).keep (body Try.f3 32) = [.loop (body Try.f3 36)]) (all_cons (loopOK_of (mk := 4000036) (sl := [1, 3, 4, 5, 6, 7, 8, 15, 16, 17, 18, 97, 98, 99, 112, 113]) (ss := [([1, 3, 4, 5, 6, 7, 8, 15, 16, 17, 18, 97, 98, 99, 112, 113], lsl3r36v2)]) (by kernel_rfl) (by kernel_rfl) (all_cons l3r36v2v all_nil)) all_nil)
  exact h36.of (fun s1 s2 s3 s4 s5 s6 s7 s8 s9 s10 s11 s12 s13 s14 s15 s16 => J [(4000032, .undef), (1, .ptr 0 0 []), (3, .sl 1 s1 s2 s3 false), (4, I s4), (5, I s5), (6, I s6), (7, I s7), (8, I s8), (15, I s9), (16, .ptr 2 0 []), (17, I s10), (97, .d (.sl w0) s11), (98, I s12), (99, I s13)] [.one w1 (.d w1 s14), .row w2 s15 false, .one w0 (.d w0 s16)]) (fun s1 s2 s3 s4 s5 s6 s7 s8 s9 s10 s11 s12 s13 s14 s15 s16 hb => loop_round2 hSl3r32v2 (inlOK _) hp hJ (by kernel_rfl) hb)
abbrev Ll3r29v2 : wL := [(4000032, [1, 3, 4, 5, 6, 7, 8, 15, 16, 17, 97, 98, 99], none, lsl3r32v2)]
def lsl3r29v2 : LSp := fun vs σ K => dP (.ptr 0 0 []) vs fun r1 => asCons r1 fun a2 r2 => asSl 1 false a2 fun s1 s2 s3 => dD wI r2 fun s4 r3 => dD wI r3 fun s5 r4 => dD wI r4 fun s6 r5 => dD wI r5 fun s7 r6 => dD wI r6 fun s8 r7 => dD (.sl w0) r7 fun s9 r8 => dD wI r8 fun s10 r9 => dD wI r9 fun s11 r10 => asNil r10 <| dO w1 w1 σ fun s12 r11 => dR w2 false r11 fun s13 r13 => asNil r13 <| l3r29v2 (fun z1 z2 z3 z4 z5 z6 z7 z8 z9 => K (.exit 6) [(3, .sl 0 z1 z2 z3 false), (4, I z4), (5, I z5), (6, I z6), (7, I z7), (8, I z8)] [.row w2 z9 false]) s1 s2 s3 s4 s5 s6 s7 s8 s9 s10 s11 s12 s13
theorem l3r29v2v : LoopV E wF (E.info 3).keep 0 Try.f3.ntmps 4000029 (body Try.f3 29) ([1, 3, 4, 5, 6, 7, 8, 97, 98, 99], lsl3r29v2) := by
  intro vs σ K h0
  obtain ⟨r1, rfl, h2⟩ := cP h0
  obtain ⟨a2, r2, rfl, h3⟩ := asCons_inv h2
  obtain ⟨s1, s2, s3, rfl, h4⟩ := asSl_inv h3
  obtain ⟨s4, s5, s6, s7, r6, rfl, h12⟩ := cDDDD h4
  obtain ⟨s8, s9, s10, s11, r10, rfl, h20⟩ := cDDDD h12
  obtain ⟨rfl, h21⟩ := cN h20
  obtain ⟨s12, r11, rfl, h24⟩ := oD h21
  obtain ⟨s13, r13, rfl, h26⟩ := cR h24
  obtain ⟨rfl, h27⟩ := cN h26
  intro J hJ
  have hp : wH 3 Try.f3 (body Try.f3 29) Ll3r29v2 := all_eq (by kernel_rfl : subsOf (E.info 3).keep (body Try.f3 29) = [.loop (body Try.f3 32)]) (all_cons (loopOK_of (mk := 4000032) (sl := [1, 3, 4, 5, 6, 7, 8, 15, 16, 17, 97, 98, 99]) (ss := [([1, 3, 4, 5, 6, 7, 8, 15, 16, 17, 97, 98, 99], lsl3r32v2)]) (by kernel_rfl) (by kernel_rfl) (all_cons l3r32v2v all_nil)) all_nil)
  exact h27.of (fun s1 s2 s3 s4 s5 s6 s7 s8 s9 s10 s11 s12 s13 => J [(4000029, .undef), (1, .ptr 0 0 []), (3, .sl 1 s1 s2 s3 false), (4, I s4), (5, I s5), (6, I s6), (7, I s7), (8, I s8), (97, .d (.sl w0) s9), (98, I s10), (99, I s11)] [.one w1 (.d w1 s12), .row w2 s13 false]) (fun s1 s2 s3 s4 s5 s6 s7 s8 s9 s10 s11 s12 s13 hb => loop_round2 nS (inlOK _) hp hJ (by kernel_rfl) hb)
abbrev S3 : wS := [(4, none, sp4), (5, none, sp5), (6, none, sp6), (7, none, sp7), (8, none, sp8v2), (9, none, sp9)]
theorem hS3 : SpecOK E (ofL S3) := specOK_cons h4 (specOK_cons h5 (specOK_cons h6 (specOK_cons h7 (specOK_cons h8v2 (specOK_cons h9 specOK_nil)))))
abbrev L3 : wL := [(4000009, [1, 3, 4, 5, 6, 7, 8, 46, 47], some ([.fix (.ptr 0 0 []), .fix (.vec 1), .d wI, .d wI, .d wI, .d wI, .d wI, .d wI, .d wI], [.one w1 (.d w1), .row w2 false]), lsl3r9), (4000029, [1, 3, 4, 5, 6, 7, 8, 97, 98, 99], some ([.fix (.ptr 0 0 []), .fix (.vec 1), .d wI, .d wI, .d wI, .d wI, .d wI, .d (.sl w0), .d wI, .d wI], [.one w1 (.d w1), .row w2 false]), lsl3r29), (4000009, [1, 3, 4, 5, 6, 7, 8, 46, 47], some ([.fix (.ptr 0 0 []), .sl 1 false, .d wI, .d wI, .d wI, .d wI, .d wI, .d wI, .d wI], [.one w1 (.d w1), .row w2 false]), lsl3r9v2), (4000029, [1, 3, 4, 5, 6, 7, 8, 97, 98, 99], some ([.fix (.ptr 0 0 []), .sl 1 false, .d wI, .d wI, .d wI, .d wI, .d wI, .d (.sl w0), .d wI, .d wI], [.one w1 (.d w1), .row w2 false]), lsl3r29v2)]
def sp3 : Sp := fun args τ K => dD w1 args fun x1 r1 => asNil r1 <| asNil τ <| c3 x1 (fun z1 => K (B z1) [])
theorem h3 : ∀ args τ K, sp3 args τ K → ACall E 3 args τ K := by
  intro args τ K h0
  obtain ⟨x1, r1, rfl, h2⟩ := cD h0
  obtain ⟨rfl, rfl, h4⟩ := cM h2
  exact ACall.spec2 (fn := Try.f3) (c := codeOf Try.f3) (L := lofL L3) hS3 (by kernel_rfl) (by kernel_rfl) (inlOK _) (all_eq (by kernel_rfl : subsOf (E.info 3).keep (codeOf Try.f3) = [.loop (body Try.f3 9), .loop (body Try.f3 29)]) (all_cons (loopOK_of (mk := 4000009) (sl := [1, 3, 4, 5, 6, 7, 8, 46, 47]) (ss := [([1, 3, 4, 5, 6, 7, 8, 46, 47], lsl3r9), ([1, 3, 4, 5, 6, 7, 8, 46, 47], lsl3r9v2)]) (by kernel_rfl) (by kernel_rfl) (all_cons l3r9v (all_cons l3r9v2v all_nil))) (all_cons (loopOK_of (mk := 4000029) (sl := [1, 3, 4, 5, 6, 7, 8, 97, 98, 99]) (ss := [([1, 3, 4, 5, 6, 7, 8, 97, 98, 99], lsl3r29), ([1, 3, 4, 5, 6, 7, 8, 97, 98, 99], lsl3r29v2)]) (by kernel_rfl) (by kernel_rfl) (all_cons l3r29v (all_cons l3r29v2v all_nil))) all_nil))) (by kernel_rfl) h4.of
end Go.Proofs.Ytgbmfhchieahjaa
