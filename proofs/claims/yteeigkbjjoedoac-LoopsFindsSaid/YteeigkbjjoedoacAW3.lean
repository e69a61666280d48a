/- The functions compute that (printed by a program). -/
import Derived.Test.YteeigkbjjoedoacAD3
import Derived.Test.YteeigkbjjoedoacAEnvC
import Derived.Test.YteeigkbjjoedoacAW3a
import Derived.KernelRfl
namespace Go.Proofs.Yteeigkbjjoedoac
open Go.Abs
set_option maxRecDepth 100000
set_option maxHeartbeats 4000000
set_option linter.unusedVariables false
def sp39 : Sp := fun args τ K => dD wI args fun x1 r1 => asNil r1 <| asNil τ <| c39 x1 (fun z1 => K (B z1) [])
theorem h39 : ∀ args τ K, sp39 args τ K → ACall E 39 args τ K := by
  intro args τ K h0
  obtain ⟨x1, r1, rfl, h2⟩ := cD h0
  obtain ⟨rfl, rfl, h4⟩ := cM h2
  exact ACall.spec2 (fn := Try.f39) (c := codeOf Try.f39) (L := lofL nL) nS (by kernel_rfl) (by kernel_rfl) (inlOK _) (all_eq (by kernel_rfl) all_nil) (by kernel_rfl) h4.of
abbrev S19 : wS := [(39, none, sp39)]
theorem hS19 : SpecOK E (ofL S19) := specOK_cons h39 specOK_nil
abbrev L19 : wL := [(20000003, [0, 1, 6, 7, 8], none, lsl19r3)]
def sp19 : Sp := fun args τ K => dD w6 args fun x1 r1 => dD wI r1 fun x2 r2 => asNil r2 <| asNil τ <| c19 x1 x2 (fun z1 z2 => K (.tup [I z1, B z2]) [])
theorem h19 : ∀ args τ K, sp19 args τ K → ACall E 19 args τ K := by
  intro args τ K h0
  obtain ⟨x1, x2, r2, rfl, h4⟩ := cDD h0
  obtain ⟨rfl, rfl, h6⟩ := cM h4
  exact ACall.spec2 (fn := Try.f19) (c := codeOf Try.f19) (L := lofL L19) hS19 (by kernel_rfl) (by kernel_rfl) (inlOK _) (all_eq (by kernel_rfl : subsOf (E.info 19).keep (codeOf Try.f19) = [.loop (body Try.f19 3)]) (all_cons (loopOK_of (mk := 20000003) (sl := [0, 1, 6, 7, 8]) (ss := [([0, 1, 6, 7, 8], lsl19r3)]) (by kernel_rfl) (by kernel_rfl) (all_cons l19r3v all_nil)) all_nil)) (by kernel_rfl) h6.of
abbrev Sl6r19 : wS := [(19, none, sp19), (20, none, sp20)]
theorem hSl6r19 : SpecOK E (ofL Sl6r19) := specOK_cons h19 (specOK_cons h20 specOK_nil)
def lsl6r19 : LSp := fun vs σ K => dP (.vec 0) vs fun r1 => dP (.vec 1) r1 fun r2 => dP (.vec 2) r2 fun r3 => dP (.vec 3) r3 fun r4 => dD wI r4 fun s1 r5 => dP (.vec 4) r5 fun r6 => dP (.vec 5) r6 fun r7 => dD wI r7 fun s2 r8 => dD wI r8 fun s3 r9 => asNil r9 <| dR w2 false σ fun s4 r10 => dR wI false r10 fun s5 r11 => asCons r11 fun a12 r12 => asDeep wI a12 fun s6 l13 => asNil l13 <| dR w4 false r12 fun s7 r14 => dR wI false r14 fun s8 r15 => dR wI false r15 fun s9 r16 => asNil r16 <| l6r19 (fun z1 z2 z3 z4 z5 z6 z7 z8 => K (.exit 4) [(4, .vec 0), (6, .vec 1), (8, .vec 2), (10, .vec 3), (11, I z1), (15, .vec 4), (39, I z2), (40, I z3)] [.row w2 z4 false, .row wI z5 false, .deep wI z6 [], .row w4 z7 false, .row wI z8 false]) s1 s2 s3 s4 s5 s6 s7 s8 s9
theorem l6r19v : LoopV E wF (E.info 6).keep 0 Try.f6.ntmps 7000019 (body Try.f6 19) ([4, 6, 8, 10, 11, 12, 15, 39, 40], lsl6r19) := by
  intro vs σ K h0
  obtain ⟨r4, rfl, h8⟩ := cPPPP h0
  obtain ⟨s1, s2, r8, rfl, h16⟩ := cDPPD h8
  obtain ⟨s3, r9, rfl, h18⟩ := cD h16
  obtain ⟨rfl, h19⟩ := cN h18
  obtain ⟨s4, r10, rfl, h21⟩ := cR h19
  obtain ⟨s5, r11, rfl, h23⟩ := cR h21
  obtain ⟨a12, r12, rfl, h24⟩ := asCons_inv h23
  obtain ⟨s6, l13, rfl, h25⟩ := asDeep_inv h24
  obtain ⟨rfl, h26⟩ := cN h25
  obtain ⟨s7, r14, rfl, h28⟩ := cR h26
  obtain ⟨s8, r15, rfl, h30⟩ := cR h28
  obtain ⟨s9, r16, rfl, h32⟩ := cR h30
  obtain ⟨rfl, h33⟩ := cN h32
  intro J hJ
  have hp : wH 6 Try.f6 (body Try.f6 19) nL := all_eq (by kernel_rfl) all_nil
  exact h33.of (fun s1 s2 s3 s4 s5 s6 s7 s8 s9 => J [(7000019, .undef), (4, .vec 0), (6, .vec 1), (8, .vec 2), (10, .vec 3), (11, I s1), (12, .vec 4), (15, .vec 5), (39, I s2), (40, I s3)] [.row w2 s4 false, .row wI s5 false, .deep wI s6 [], .row w4 s7 false, .row wI s8 false, .row wI s9 false]) (fun s16 s17 s18 s19 s20 s21 s22 s23 s24 s25 s26 s27 => J [(7000019, .undef), (4, .vec 0), (6, .vec 1), (8, .vec 2), (10, .vec 3), (11, I s16), (12, .sl 4 s17 s18 s19 false), (15, .vec 5), (39, I s20), (40, I s21)] [.row w2 s22 false, .row wI s23 false, .deep wI s24 [], .row w4 s25 false, .row wI s26 false, .row wI s27 false]) (fun s1 s2 s3 s4 s5 s6 s7 s8 s9 hb => loop_round2 hSl6r19 (inlOK _) hp hJ (by kernel_rfl) hb) (fun s16 s17 s18 s19 s20 s21 s22 s23 s24 s25 s26 s27 hb => loop_round2 hSl6r19 (inlOK _) hp hJ (by kernel_rfl) hb)
abbrev Sl6r8 : wS := [(21, none, sp21)]
theorem hSl6r8 : SpecOK E (ofL Sl6r8) := specOK_cons h21 specOK_nil
abbrev Ll6r8 : wL := [(7000012, [4, 6, 8, 10, 11, 12, 39, 40, 43, 44, 45], none, lsl6r12), (7000019, [4, 6, 8, 10, 11, 12, 15, 39, 40], none, lsl6r19)]
def lsl6r8 : LSp := fun vs σ K => dP (.vec 0) vs fun r1 => dP (.vec 1) r1 fun r2 => dP (.vec 2) r2 fun r3 => dP (.vec 3) r3 fun r4 => dD wI r4 fun s1 r5 => dD wI r5 fun s2 r6 => asNil r6 <| dR w2 false σ fun s3 r7 => dR wI false r7 fun s4 r8 => asCons r8 fun a9 r9 => asDeep wI a9 fun s5 l10 => asNil l10 <| dR w4 false r9 fun s6 r11 => asNil r11 <| l6r8 (fun z1 => K (.exit 0) [(10, .vec 0)] [.row w4 z1 false]) s1 s2 s3 s4 s5 s6
theorem l6r8v : LoopV E wF (E.info 6).keep 0 Try.f6.ntmps 7000008 (body Try.f6 8) ([4, 6, 8, 10, 39, 40], lsl6r8) := by
  intro vs σ K h0
  obtain ⟨r4, rfl, h8⟩ := cPPPP h0
  obtain ⟨s1, s2, r6, rfl, h12⟩ := cDD h8
  obtain ⟨rfl, h13⟩ := cN h12
  obtain ⟨s3, r7, rfl, h15⟩ := cR h13
  obtain ⟨s4, r8, rfl, h17⟩ := cR h15
  obtain ⟨a9, r9, rfl, h18⟩ := asCons_inv h17
  obtain ⟨s5, l10, rfl, h19⟩ := asDeep_inv h18
  obtain ⟨rfl, h20⟩ := cN h19
  obtain ⟨s6, r11, rfl, h22⟩ := cR h20
  obtain ⟨rfl, h23⟩ := cN h22
  intro J hJ
  have hp : wH 6 Try.f6 (body Try.f6 8) Ll6r8 := all_eq (by kernel_rfl : subsOf (E.info 6).keep (body Try.f6 8) = [.loop (body Try.f6 12), .loop (body Try.f6 19)]) (all_cons (loopOK_of (mk := 7000012) (sl := [4, 6, 8, 10, 11, 12, 39, 40, 43, 44, 45]) (ss := [([4, 6, 8, 10, 11, 12, 39, 40, 43, 44, 45], lsl6r12)]) (by kernel_rfl) (by kernel_rfl) (all_cons l6r12v all_nil)) (all_cons (loopOK_of (mk := 7000019) (sl := [4, 6, 8, 10, 11, 12, 15, 39, 40]) (ss := [([4, 6, 8, 10, 11, 12, 15, 39, 40], lsl6r19)]) (by kernel_rfl) (by kernel_rfl) (all_cons l6r19v all_nil)) all_nil))
  exact h23.of (fun s1 s2 s3 s4 s5 s6 => J [(7000008, .undef), (4, .vec 0), (6, .vec 1), (8, .vec 2), (10, .vec 3), (39, I s1), (40, I s2)] [.row w2 s3 false, .row wI s4 false, .deep wI s5 [], .row w4 s6 false]) (fun s1 s2 s3 s4 s5 s6 hb => loop_round2 hSl6r8 (inlOK _) hp hJ (by kernel_rfl) hb)
abbrev Sl22r4 : wS := [(20, none, sp20)]
theorem hSl22r4 : SpecOK E (ofL Sl22r4) := specOK_cons h20 specOK_nil
def lsl22r4 : LSp := fun vs σ K => dP (.vec 0) vs fun r1 => dD wI r1 fun s1 r2 => dD wI r2 fun s2 r3 => dD wI r3 fun s3 r4 => dP (.vec 0) r4 fun r5 => dD wI r5 fun s4 r6 => dD wI r6 fun s5 r7 => asNil r7 <| dR w4 false σ fun s6 r8 => asNil r8 <| l22r4 (fun z1 z2 z3 => K (.exit 2) [(0, .vec 0), (7, I z1), (8, I z2)] [.row w4 z3 false]) s1 s2 s3 s4 s5 s6
theorem l22r4v : LoopV E wF (E.info 22).keep 1 Try.f22.ntmps 23000004 (body Try.f22 4) ([0, 2, 7, 8, 11, 12, 13], lsl22r4) := by
  intro vs σ K h0
  obtain ⟨s1, s2, s3, r4, rfl, h8⟩ := cPDDD h0
  obtain ⟨s4, s5, r7, rfl, h14⟩ := cPDD h8
  obtain ⟨rfl, h15⟩ := cN h14
  obtain ⟨s6, r8, rfl, h17⟩ := cR h15
  obtain ⟨rfl, h18⟩ := cN h17
  intro J hJ
  have hp : ∀ c' ∈ subsOf (E.info 22).keep (body Try.f22 4), SubOK E wF (E.info 22).keep 1 Try.f22.ntmps (lofL nL) c' := all_eq (by kernel_rfl) all_nil
  exact h18.of (fun s1 s2 s3 s4 s5 s6 => J [(23000004, .undef), (0, .vec 0), (2, I s1), (7, I s2), (8, I s3), (11, .vec 0), (12, I s4), (13, I s5)] [.row w4 s6 false]) (fun s1 s2 s3 s4 s5 s6 hb => loop_round2 hSl22r4 (inlOK _) hp hJ (by kernel_rfl) hb)
abbrev Ll22r1 : wL := [(23000004, [0, 2, 7, 8, 11, 12, 13], none, lsl22r4)]
def lsl22r1 : LSp := fun vs σ K => dP (.vec 0) vs fun r1 => dD wI r1 fun s1 r2 => dD wI r2 fun s2 r3 => asNil r3 <| dR w4 false σ fun s3 r4 => asNil r4 <| l22r1 (fun z1 => K (.exit 0) [] [.row w4 z1 false]) s1 s2 s3
theorem l22r1v : LoopV E wF (E.info 22).keep 1 Try.f22.ntmps 23000001 (body Try.f22 1) ([0, 7, 8], lsl22r1) := by
  intro vs σ K h0
  obtain ⟨s1, s2, r3, rfl, h6⟩ := cPDD h0
  obtain ⟨rfl, h7⟩ := cN h6
  obtain ⟨s3, r4, rfl, h9⟩ := cR h7
  obtain ⟨rfl, h10⟩ := cN h9
  intro J hJ
  have hp : ∀ c' ∈ subsOf (E.info 22).keep (body Try.f22 1), SubOK E wF (E.info 22).keep 1 Try.f22.ntmps (lofL Ll22r1) c' := all_eq (by kernel_rfl : subsOf (E.info 22).keep (body Try.f22 1) = [.loop (body Try.f22 4)]) (all_cons (loopOK_of (mk := 23000004) (sl := [0, 2, 7, 8, 11, 12, 13]) (ss := [([0, 2, 7, 8, 11, 12, 13], lsl22r4)]) (by kernel_rfl) (by kernel_rfl) (all_cons l22r4v all_nil)) all_nil)
  exact h10.of (fun s1 s2 s3 => J [(23000001, .undef), (0, .vec 0), (7, I s1), (8, I s2)] [.row w4 s3 false]) (fun s1 s2 s3 hb => loop_round2 nS (inlOK _) hp hJ (by kernel_rfl) hb)
abbrev L22 : wL := [(23000001, [0, 7, 8], none, lsl22r1)]
def sp22 : Sp := fun args τ K => dP (.vec 0) args fun r1 => asNil r1 <| dR w4 false τ fun x1 r2 => asNil r2 <| c22 x1 (fun z1 => K (.tup []) [.row w4 z1 false])
theorem h22 : ∀ args τ K, sp22 args τ K → ACall E 22 args τ K := by
  intro args τ K h0
  obtain ⟨r1, rfl, h2⟩ := cP h0
  obtain ⟨rfl, h3⟩ := cN h2
  obtain ⟨x1, r2, rfl, h5⟩ := cR h3
  obtain ⟨rfl, h6⟩ := cN h5
  exact ACall.spec2 (fn := Try.f22) (c := codeOf Try.f22) (L := lofL L22) nS (by kernel_rfl) (by kernel_rfl) (inlOK _) (all_eq (by kernel_rfl : subsOf (E.info 22).keep (codeOf Try.f22) = [.loop (body Try.f22 1)]) (all_cons (loopOK_of (mk := 23000001) (sl := [0, 7, 8]) (ss := [([0, 7, 8], lsl22r1)]) (by kernel_rfl) (by kernel_rfl) (all_cons l22r1v all_nil)) all_nil)) (by kernel_rfl) h6.of
abbrev S6 : wS := [(16, none, sp16), (17, none, sp17), (18, none, sp18), (22, none, sp22)]
theorem hS6 : SpecOK E (ofL S6) := specOK_cons h16 (specOK_cons h17 (specOK_cons h18 (specOK_cons h22 specOK_nil)))
abbrev L6 : wL := [(7000008, [4, 6, 8, 10, 39, 40], none, lsl6r8)]
def sp6 : Sp := fun args τ K => dD w1 args fun x1 r1 => asNil r1 <| asNil τ <| c6 x1 (fun z1 z2 => K (.tup [.vec 0, I z1]) [.row w4 z2 false])
theorem h6 : ∀ args τ K, sp6 args τ K → ACall E 6 args τ K := by
  intro args τ K h0
  obtain ⟨x1, r1, rfl, h2⟩ := cD h0
  obtain ⟨rfl, rfl, h4⟩ := cM h2
  exact ACall.spec2 (fn := Try.f6) (c := codeOf Try.f6) (L := lofL L6) hS6 (by kernel_rfl) (by kernel_rfl) (inlOK _) (all_eq (by kernel_rfl : subsOf (E.info 6).keep (codeOf Try.f6) = [.loop (body Try.f6 8)]) (all_cons (loopOK_of (mk := 7000008) (sl := [4, 6, 8, 10, 39, 40]) (ss := [([4, 6, 8, 10, 39, 40], lsl6r8)]) (by kernel_rfl) (by kernel_rfl) (all_cons l6r8v all_nil)) all_nil)) (by kernel_rfl) h4.of
def lsl46r2 : LSp := fun vs σ K => dD (.sl w2) vs fun s1 r1 => dP (.ptr 0 0 []) r1 fun r2 => dD wI r2 fun s2 r3 => dD wI r3 fun s3 r4 => asNil r4 <| dO w2 w2 σ fun s4 r5 => asNil r5 <| l46r2 (fun z1 => K .ret [(4, I z1)] []) (K (.exit 0) [(4, .undef)] []) s1 s2 s3 s4
theorem l46r2v : LoopV E wF (E.info 46).keep 0 Try.f46.ntmps 47000002 (body Try.f46 2) ([0, 3, 7, 8], lsl46r2) := by
  intro vs σ K h0
  obtain ⟨s1, s2, s3, r4, rfl, h8⟩ := cDPDD h0
  obtain ⟨rfl, h9⟩ := cN h8
  obtain ⟨s4, r5, rfl, h12⟩ := oD h9
  obtain ⟨rfl, h13⟩ := cN h12
  intro J hJ
  have hp : wH 46 Try.f46 (body Try.f46 2) nL := all_eq (by kernel_rfl) all_nil
  exact h13.of (fun s1 s2 s3 s4 => J [(47000002, .undef), (0, .d (.sl w2) s1), (3, .ptr 0 0 []), (7, I s2), (8, I s3)] [.one w2 (.d w2 s4)]) (fun s1 s2 s3 s4 hb => loop_round2 nS (inlOK _) hp hJ (by kernel_rfl) hb)
abbrev L46 : wL := [(47000002, [0, 3, 7, 8], none, lsl46r2)]
def sp46 : Sp := fun args τ K => dD (.sl w2) args fun x1 r1 => dD w2 r1 fun x2 r2 => asNil r2 <| asNil τ <| c46 x1 x2 (fun z1 => K (I z1) [])
theorem h46 : ∀ args τ K, sp46 args τ K → ACall E 46 args τ K := by
  intro args τ K h0
  obtain ⟨x1, x2, r2, rfl, h4⟩ := cDD h0
  obtain ⟨rfl, rfl, h6⟩ := cM h4
  exact ACall.spec2 (fn := Try.f46) (c := codeOf Try.f46) (L := lofL L46) nS (by kernel_rfl) (by kernel_rfl) (inlOK _) (all_eq (by kernel_rfl : subsOf (E.info 46).keep (codeOf Try.f46) = [.loop (body Try.f46 2)]) (all_cons (loopOK_of (mk := 47000002) (sl := [0, 3, 7, 8]) (ss := [([0, 3, 7, 8], lsl46r2)]) (by kernel_rfl) (by kernel_rfl) (all_cons l46r2v all_nil)) all_nil)) (by kernel_rfl) h6.of
abbrev S31 : wS := [(46, none, sp46)]
theorem hS31 : SpecOK E (ofL S31) := specOK_cons h46 specOK_nil
def sp31 : Sp := fun args τ K => dD (.sl w2) args fun x1 r1 => dD w2 r1 fun x2 r2 => asNil r2 <| asNil τ <| c31 x1 x2 (fun z1 => K (B z1) [])
theorem h31 : ∀ args τ K, sp31 args τ K → ACall E 31 args τ K := by
  intro args τ K h0
  obtain ⟨x1, x2, r2, rfl, h4⟩ := cDD h0
  obtain ⟨rfl, rfl, h6⟩ := cM h4
  exact ACall.spec2 (fn := Try.f31) (c := codeOf Try.f31) (L := lofL nL) hS31 (by kernel_rfl) (by kernel_rfl) (inlOK _) (all_eq (by kernel_rfl) all_nil) (by kernel_rfl) h6.of
def sp32 : Sp := fun args τ K => dD wI args fun x1 r1 => dP (.ptr 0 0 []) r1 fun r2 => asNil r2 <| dQ w6 (.vec 1) τ fun r3 => dR wI false r3 fun x2 r5 => asNil r5 <| c32 x1 x2 (fun z1 => K (.tup []) [.one w6 (.vec 1), .row wI z1 false])
theorem h32 : ∀ args τ K, sp32 args τ K → ACall E 32 args τ K := by
  intro args τ K h0
  obtain ⟨x1, r2, rfl, h4⟩ := cDP h0
  obtain ⟨rfl, h5⟩ := cN h4
  obtain ⟨r3, rfl, h8⟩ := oP h5
  obtain ⟨x2, r5, rfl, h10⟩ := cR h8
  obtain ⟨rfl, h11⟩ := cN h10
  exact ACall.spec2 (fn := Try.f32) (c := codeOf Try.f32) (L := lofL nL) nS (by kernel_rfl) (by kernel_rfl) (inlOK _) (all_eq (by kernel_rfl) all_nil) (by kernel_rfl) h11.of
abbrev Sl30r1 : wS := [(31, none, sp31), (32, none, sp32)]
theorem hSl30r1 : SpecOK E (ofL Sl30r1) := specOK_cons h31 (specOK_cons h32 specOK_nil)
def lsl30r1 : LSp := fun vs σ K => dD wI vs fun s1 r1 => asCons r1 fun a2 r2 => asFn 32 a2 fun l3 l4 => asNil l3 <| dP (.ptr 0 0 []) l4 fun r5 => asNil r5 <| dP (.ptr 3 0 []) r2 fun r6 => dD (.sl w3) r6 fun s2 r7 => dD wI r7 fun s3 r8 => dD wI r8 fun s4 r9 => asNil r9 <| dQ w6 (.vec 1) σ fun r10 => dR wI false r10 fun s5 r12 => dO w1 w1 r12 fun s6 r13 => dQ (.sl w2) (.vec 4) r13 fun r15 => dR w2 false r15 fun s7 r17 => asNil r17 <| l30r1 (fun z1 z2 z3 => K (.exit 0) [] [.one w6 (.vec 1), .row wI z1 false, .one w1 (.d w1 z2), .one (.sl w2) (.vec 4), .row w2 z3 false]) s1 s2 s3 s4 s5 s6 s7
theorem l30r1v : LoopV E wF (E.info 30).keep 5 Try.f30.ntmps 31000001 (body Try.f30 1) ([0, 1, 3, 14, 15, 16], lsl30r1) := by
  intro vs σ K h0
  obtain ⟨s1, r1, rfl, h2⟩ := cD h0
  obtain ⟨a2, r2, rfl, h3⟩ := asCons_inv h2
  obtain ⟨l3, l4, rfl, h4⟩ := asFn_inv h3
  obtain ⟨rfl, h5⟩ := cN h4
  obtain ⟨r5, rfl, h7⟩ := cP h5
  obtain ⟨rfl, h8⟩ := cN h7
  obtain ⟨s2, s3, s4, r9, rfl, h16⟩ := cPDDD h8
  obtain ⟨rfl, h17⟩ := cN h16
  obtain ⟨r10, rfl, h20⟩ := oP h17
  obtain ⟨s5, r12, rfl, h22⟩ := cR h20
  obtain ⟨s6, r13, rfl, h25⟩ := oD h22
  obtain ⟨r15, rfl, h28⟩ := oP h25
  obtain ⟨s7, r17, rfl, h30⟩ := cR h28
  obtain ⟨rfl, h31⟩ := cN h30
  intro J hJ
  have hp : ∀ c' ∈ subsOf (E.info 30).keep (body Try.f30 1), SubOK E wF (E.info 30).keep 5 Try.f30.ntmps (lofL nL) c' := all_eq (by kernel_rfl) all_nil
  exact h31.of (fun s1 s2 s3 s4 s5 s6 s7 => J [(31000001, .undef), (0, I s1), (1, .fn 32 [] [.ptr 0 0 []]), (3, .ptr 3 0 []), (14, .d (.sl w3) s2), (15, I s3), (16, I s4)] [.one w6 (.vec 1), .row wI s5 false, .one w1 (.d w1 s6), .one (.sl w2) (.vec 4), .row w2 s7 false]) (fun s1 s2 s3 s4 s5 s6 s7 hb => loop_round2 hSl30r1 (inlOK _) hp hJ (by kernel_rfl) hb)
abbrev L30 : wL := [(31000001, [0, 1, 3, 14, 15, 16], none, lsl30r1)]
def sp30 : Sp := fun args τ K => dD wI args fun x1 r1 => asCons r1 fun a2 r2 => asFn 32 a2 fun l3 l4 => asNil l3 <| dP (.ptr 0 0 []) l4 fun r5 => asNil r5 <| dP (.ptr 2 0 []) r2 fun r6 => dP (.ptr 3 0 []) r6 fun r7 => asNil r7 <| dQ w6 (.vec 1) τ fun r8 => dR wI false r8 fun x2 r10 => dO w1 w1 r10 fun x3 r11 => dQ (.sl w2) (.vec 4) r11 fun r13 => dR w2 false r13 fun x4 r15 => asNil r15 <| c30 x1 x2 x3 x4 (fun z1 z2 z3 => K (.tup []) [.one w6 (.vec 1), .row wI z1 false, .one w1 (.d w1 z2), .one (.sl w2) (.vec 4), .row w2 z3 false])
theorem h30 : ∀ args τ K, sp30 args τ K → ACall E 30 args τ K := by
  intro args τ K h0
  obtain ⟨x1, r1, rfl, h2⟩ := cD h0
  obtain ⟨a2, r2, rfl, h3⟩ := asCons_inv h2
  obtain ⟨l3, l4, rfl, h4⟩ := asFn_inv h3
  obtain ⟨rfl, h5⟩ := cN h4
  obtain ⟨r5, rfl, h7⟩ := cP h5
  obtain ⟨rfl, h8⟩ := cN h7
  obtain ⟨r7, rfl, h12⟩ := cPP h8
  obtain ⟨rfl, h13⟩ := cN h12
  obtain ⟨r8, rfl, h16⟩ := oP h13
  obtain ⟨x2, r10, rfl, h18⟩ := cR h16
  obtain ⟨x3, r11, rfl, h21⟩ := oD h18
  obtain ⟨r13, rfl, h24⟩ := oP h21
  obtain ⟨x4, r15, rfl, h26⟩ := cR h24
  obtain ⟨rfl, h27⟩ := cN h26
  exact ACall.spec2 (fn := Try.f30) (c := codeOf Try.f30) (L := lofL L30) nS (by kernel_rfl) (by kernel_rfl) (inlOK _) (all_eq (by kernel_rfl : subsOf (E.info 30).keep (codeOf Try.f30) = [.loop (body Try.f30 1)]) (all_cons (loopOK_of (mk := 31000001) (sl := [0, 1, 3, 14, 15, 16]) (ss := [([0, 1, 3, 14, 15, 16], lsl30r1)]) (by kernel_rfl) (by kernel_rfl) (all_cons l30r1v all_nil)) all_nil)) (by kernel_rfl) h27.of
abbrev Sl14r8 : wS := [(30, none, sp30)]
theorem hSl14r8 : SpecOK E (ofL Sl14r8) := specOK_cons h30 specOK_nil
def lsl14r8 : LSp := fun vs σ K => dP (.vec 0) vs fun r1 => dP (.ptr 1 0 []) r1 fun r2 => asCons r2 fun a3 r3 => asFn 30 a3 fun l4 l5 => asNil l4 <| dP (.ptr 3 0 []) l5 fun r6 => dP (.ptr 4 0 []) r6 fun r7 => asNil r7 <| dP (.vec 0) r3 fun r8 => dD wI r8 fun s1 r9 => dD wI r9 fun s2 r10 => asNil r10 <| dR wI false σ fun s3 r11 => dQ w6 (.vec 2) r11 fun r12 => dR wI false r12 fun s4 r14 => dO w1 w1 r14 fun s5 r15 => dQ (.sl w2) (.vec 5) r15 fun r17 => dR w2 false r17 fun s6 r19 => asNil r19 <| l14r8 (fun z1 z2 z3 z4 => K (.exit 0) [(6, .vec 0), (8, .ptr 1 0 []), (9, .fn 30 [] [.ptr 3 0 [], .ptr 4 0 []])] [.row wI z1 false, .one w6 (.vec 2), .row wI z2 false, .one w1 (.d w1 z3), .one (.sl w2) (.vec 5), .row w2 z4 false]) s1 s2 s3 s4 s5 s6
theorem l14r8v : LoopV E wF (E.info 14).keep 0 Try.f14.ntmps 15000008 (body Try.f14 8) ([6, 8, 9, 33, 34, 35], lsl14r8) := by
  intro vs σ K h0
  obtain ⟨r2, rfl, h4⟩ := cPP h0
  obtain ⟨a3, r3, rfl, h5⟩ := asCons_inv h4
  obtain ⟨l4, l5, rfl, h6⟩ := asFn_inv h5
  obtain ⟨rfl, h7⟩ := cN h6
  obtain ⟨r7, rfl, h11⟩ := cPP h7
  obtain ⟨rfl, h12⟩ := cN h11
  obtain ⟨s1, s2, r10, rfl, h18⟩ := cPDD h12
  obtain ⟨rfl, h19⟩ := cN h18
  obtain ⟨s3, r11, rfl, h21⟩ := cR h19
  obtain ⟨r12, rfl, h24⟩ := oP h21
  obtain ⟨s4, r14, rfl, h26⟩ := cR h24
  obtain ⟨s5, r15, rfl, h29⟩ := oD h26
  obtain ⟨r17, rfl, h32⟩ := oP h29
  obtain ⟨s6, r19, rfl, h34⟩ := cR h32
  obtain ⟨rfl, h35⟩ := cN h34
  intro J hJ
  have hp : wH 14 Try.f14 (body Try.f14 8) nL := all_eq (by kernel_rfl) all_nil
  exact h35.of (fun s1 s2 s3 s4 s5 s6 => J [(15000008, .undef), (6, .vec 0), (8, .ptr 1 0 []), (9, .fn 30 [] [.ptr 3 0 [], .ptr 4 0 []]), (33, .vec 0), (34, I s1), (35, I s2)] [.row wI s3 false, .one w6 (.vec 2), .row wI s4 false, .one w1 (.d w1 s5), .one (.sl w2) (.vec 5), .row w2 s6 false]) (fun s1 s2 s3 s4 s5 s6 hb => loop_round2 hSl14r8 (inlOK _) hp hJ (by kernel_rfl) hb)
def sp33 : Sp := fun args τ K => dD wI args fun x1 r1 => dP (.ptr 0 0 []) r1 fun r2 => dP (.ptr 2 0 []) r2 fun r3 => asNil r3 <| dQ w6 (.vec 1) τ fun r4 => dR wI false r4 fun x2 r6 => asCons r6 fun a7 r7 => asOne w6 a7 fun a8 => asSl 3 false a8 fun x3 x4 x5 => dR wI false r7 fun x6 r9 => asNil r9 <| c33 x1 x2 x3 x4 x5 x6 (fun z1 z2 z3 z4 z5 => K (.tup []) [.one w6 (.vec 1), .row wI z1 false, .one w6 (.sl 3 z2 z3 z4 false), .row wI z5 false]) (fun z1 z2 => K (.tup []) [.one w6 (.vec 1), .row wI z1 false, .one w6 (.vec 4), .dead, .row wI z2 false]) (fun z1 z2 z3 z4 z5 => K (.tup []) [.one w6 (.vec 1), .row wI z1 false, .one w6 (.sl 4 z2 z3 z4 false), .dead, .row wI z5 false])
theorem h33 : ∀ args τ K, sp33 args τ K → ACall E 33 args τ K := by
  intro args τ K h0
  obtain ⟨x1, r3, rfl, h6⟩ := cDPP h0
  obtain ⟨rfl, h7⟩ := cN h6
  obtain ⟨r4, rfl, h10⟩ := oP h7
  obtain ⟨x2, r6, rfl, h12⟩ := cR h10
  obtain ⟨a7, r7, rfl, h13⟩ := asCons_inv h12
  obtain ⟨a8, rfl, h14⟩ := asOne_inv h13
  obtain ⟨x3, x4, x5, rfl, h15⟩ := asSl_inv h14
  obtain ⟨x6, r9, rfl, h17⟩ := cR h15
  obtain ⟨rfl, h18⟩ := cN h17
  exact ACall.spec2 (fn := Try.f33) (c := codeOf Try.f33) (L := lofL nL) nS (by kernel_rfl) (by kernel_rfl) (inlOK _) (all_eq (by kernel_rfl) all_nil) (by kernel_rfl) h18.of
def sp33v2 : Sp := fun args τ K => dD wI args fun x1 r1 => dP (.ptr 0 0 []) r1 fun r2 => dP (.ptr 2 0 []) r2 fun r3 => asNil r3 <| dQ w6 (.vec 1) τ fun r4 => dR wI false r4 fun x2 r6 => dQ w6 (.vec 3) r6 fun r7 => dR wI false r7 fun x3 r9 => asNil r9 <| c33v2 x1 x2 x3 (fun z1 z2 => K (.tup []) [.one w6 (.vec 1), .row wI z1 false, .one w6 (.vec 4), .dead, .row wI z2 false]) (fun z1 z2 => K (.tup []) [.one w6 (.vec 1), .row wI z1 false, .one w6 (.vec 3), .row wI z2 false])
theorem h33v2 : ∀ args τ K, sp33v2 args τ K → ACall E 33 args τ K := by
  intro args τ K h0
  obtain ⟨x1, r3, rfl, h6⟩ := cDPP h0
  obtain ⟨rfl, h7⟩ := cN h6
  obtain ⟨r4, rfl, h10⟩ := oP h7
  obtain ⟨x2, r6, rfl, h12⟩ := cR h10
  obtain ⟨r7, rfl, h15⟩ := oP h12
  obtain ⟨x3, r9, rfl, h17⟩ := cR h15
  obtain ⟨rfl, h18⟩ := cN h17
  exact ACall.spec2 (fn := Try.f33) (c := codeOf Try.f33) (L := lofL nL) nS (by kernel_rfl) (by kernel_rfl) (inlOK _) (all_eq (by kernel_rfl) all_nil) (by kernel_rfl) h18.of
abbrev Sl30r1v2 : wS := [(31, none, sp31), (33, some ([.d wI, .fix (.ptr 0 0 []), .fix (.ptr 2 0 [])], [.one w6 (.fix (.vec 1)), .row wI false, .one w6 (.sl 3 false), .row wI false]), sp33), (33, some ([.d wI, .fix (.ptr 0 0 []), .fix (.ptr 2 0 [])], [.one w6 (.fix (.vec 1)), .row wI false, .one w6 (.fix (.vec 3)), .row wI false]), sp33v2)]
theorem hSl30r1v2 : SpecOK E (ofL Sl30r1v2) := specOK_cons h31 (specOK_cons h33 (specOK_cons h33v2 specOK_nil))
def lsl30r1v2 : LSp := fun vs σ K => dD wI vs fun s1 r1 => asCons r1 fun a2 r2 => asFn 33 a2 fun l3 l4 => asNil l3 <| dP (.ptr 0 0 []) l4 fun r5 => dP (.ptr 2 0 []) r5 fun r6 => asNil r6 <| dP (.ptr 5 0 []) r2 fun r7 => dD (.sl w3) r7 fun s2 r8 => dD wI r8 fun s3 r9 => dD wI r9 fun s4 r10 => asNil r10 <| dQ w6 (.vec 1) σ fun r11 => dR wI false r11 fun s5 r13 => asCons r13 fun a14 r14 => asOne w6 a14 fun a15 => asSl 3 false a15 fun s6 s7 s8 => dR wI false r14 fun s9 r16 => dO w1 w1 r16 fun s10 r17 => dQ (.sl w2) (.vec 6) r17 fun r19 => dR w2 false r19 fun s11 r21 => asNil r21 <| l30r1v2 (fun z1 z2 z3 z4 z5 z6 z7 => K (.exit 0) [] [.one w6 (.vec 1), .row wI z1 false, .one w6 (.sl 3 z2 z3 z4 false), .row wI z5 false, .one w1 (.d w1 z6), .one (.sl w2) (.vec 6), .row w2 z7 false]) (fun z1 z2 z3 z4 => K (.exit 0) [] [.one w6 (.vec 1), .row wI z1 false, .one w6 (.vec 7), .dead, .one w1 (.d w1 z2), .one (.sl w2) (.vec 6), .row w2 z3 false, .row wI z4 false]) (fun z1 z2 z3 z4 z5 z6 z7 => K (.exit 0) [] [.one w6 (.vec 1), .row wI z1 false, .one w6 (.sl 7 z2 z3 z4 false), .dead, .one w1 (.d w1 z5), .one (.sl w2) (.vec 6), .row w2 z6 false, .row wI z7 false]) s1 s2 s3 s4 s5 s6 s7 s8 s9 s10 s11
theorem l30r1v2v : LoopV E wF (E.info 30).keep 7 Try.f30.ntmps 31000001 (body Try.f30 1) ([0, 1, 3, 14, 15, 16], lsl30r1v2) := by
  intro vs σ K h0
  obtain ⟨s1, r1, rfl, h2⟩ := cD h0
  obtain ⟨a2, r2, rfl, h3⟩ := asCons_inv h2
  obtain ⟨l3, l4, rfl, h4⟩ := asFn_inv h3
  obtain ⟨rfl, h5⟩ := cN h4
  obtain ⟨r6, rfl, h9⟩ := cPP h5
  obtain ⟨rfl, h10⟩ := cN h9
  obtain ⟨s2, s3, s4, r10, rfl, h18⟩ := cPDDD h10
  obtain ⟨rfl, h19⟩ := cN h18
  obtain ⟨r11, rfl, h22⟩ := oP h19
  obtain ⟨s5, r13, rfl, h24⟩ := cR h22
  obtain ⟨a14, r14, rfl, h25⟩ := asCons_inv h24
  obtain ⟨a15, rfl, h26⟩ := asOne_inv h25
  obtain ⟨s6, s7, s8, rfl, h27⟩ := asSl_inv h26
  obtain ⟨s9, r16, rfl, h29⟩ := cR h27
  obtain ⟨s10, r17, rfl, h32⟩ := oD h29
  obtain ⟨r19, rfl, h35⟩ := oP h32
  obtain ⟨s11, r21, rfl, h37⟩ := cR h35
  obtain ⟨rfl, h38⟩ := cN h37
  intro J hJ
  have hp : ∀ c' ∈ subsOf (E.info 30).keep (body Try.f30 1), SubOK E wF (E.info 30).keep 7 Try.f30.ntmps (lofL nL) c' := all_eq (by kernel_rfl) all_nil
  exact h38.of (fun s1 s2 s3 s4 s5 s6 s7 s8 s9 s10 s11 => J [(31000001, .undef), (0, I s1), (1, .fn 33 [] [.ptr 0 0 [], .ptr 2 0 []]), (3, .ptr 5 0 []), (14, .d (.sl w3) s2), (15, I s3), (16, I s4)] [.one w6 (.vec 1), .row wI s5 false, .one w6 (.sl 3 s6 s7 s8 false), .row wI s9 false, .one w1 (.d w1 s10), .one (.sl w2) (.vec 6), .row w2 s11 false]) (fun s26 s27 s28 s29 s30 s31 s32 s33 => J [(31000001, .undef), (0, I s26), (1, .fn 33 [] [.ptr 0 0 [], .ptr 2 0 []]), (3, .ptr 5 0 []), (14, .d (.sl w3) s27), (15, I s28), (16, I s29)] [.one w6 (.vec 1), .row wI s30 false, .one w6 (.vec 7), .dead, .one w1 (.d w1 s31), .one (.sl w2) (.vec 6), .row w2 s32 false, .row wI s33 false]) (fun s40 s41 s42 s43 s44 s45 s46 s47 s48 s49 s50 => J [(31000001, .undef), (0, I s40), (1, .fn 33 [] [.ptr 0 0 [], .ptr 2 0 []]), (3, .ptr 5 0 []), (14, .d (.sl w3) s41), (15, I s42), (16, I s43)] [.one w6 (.vec 1), .row wI s44 false, .one w6 (.sl 7 s45 s46 s47 false), .dead, .one w1 (.d w1 s48), .one (.sl w2) (.vec 6), .row w2 s49 false, .row wI s50 false]) (fun s1 s2 s3 s4 s5 s6 s7 s8 s9 s10 s11 hb => loop_round2 hSl30r1v2 (inlOK _) hp hJ (by kernel_rfl) hb) (fun s26 s27 s28 s29 s30 s31 s32 s33 hb => loop_round2 hSl30r1v2 (inlOK _) hp hJ (by kernel_rfl) hb) (fun s40 s41 s42 s43 s44 s45 s46 s47 s48 s49 s50 hb => loop_round2 hSl30r1v2 (inlOK _) hp hJ (by kernel_rfl) hb)
abbrev L30v2 : wL := [(31000001, [0, 1, 3, 14, 15, 16], none, lsl30r1v2)]
def sp30v2 : Sp := fun args τ K => dD wI args fun x1 r1 => asCons r1 fun a2 r2 => asFn 33 a2 fun l3 l4 => asNil l3 <| dP (.ptr 0 0 []) l4 fun r5 => dP (.ptr 2 0 []) r5 fun r6 => asNil r6 <| dP (.ptr 4 0 []) r2 fun r7 => dP (.ptr 5 0 []) r7 fun r8 => asNil r8 <| dQ w6 (.vec 1) τ fun r9 => dR wI false r9 fun x2 r11 => asCons r11 fun a12 r12 => asOne w6 a12 fun a13 => asSl 3 false a13 fun x3 x4 x5 => dR wI false r12 fun x6 r14 => dO w1 w1 r14 fun x7 r15 => dQ (.sl w2) (.vec 6) r15 fun r17 => dR w2 false r17 fun x8 r19 => asNil r19 <| c30v2 x1 x2 x3 x4 x5 x6 x7 x8 (fun z1 z2 z3 z4 z5 z6 z7 => K (.tup []) [.one w6 (.vec 1), .row wI z1 false, .one w6 (.sl 3 z2 z3 z4 false), .row wI z5 false, .one w1 (.d w1 z6), .one (.sl w2) (.vec 6), .row w2 z7 false]) (fun z1 z2 z3 z4 => K (.tup []) [.one w6 (.vec 1), .row wI z1 false, .one w6 (.vec 7), .dead, .one w1 (.d w1 z2), .one (.sl w2) (.vec 6), .row w2 z3 false, .row wI z4 false]) (fun z1 z2 z3 z4 z5 z6 z7 => K (.tup []) [.one w6 (.vec 1), .row wI z1 false, .one w6 (.sl 7 z2 z3 z4 false), .dead, .one w1 (.d w1 z5), .one (.sl w2) (.vec 6), .row w2 z6 false, .row wI z7 false])
theorem h30v2 : ∀ args τ K, sp30v2 args τ K → ACall E 30 args τ K := by
  intro args τ K h0
  obtain ⟨x1, r1, rfl, h2⟩ := cD h0
  obtain ⟨a2, r2, rfl, h3⟩ := asCons_inv h2
  obtain ⟨l3, l4, rfl, h4⟩ := asFn_inv h3
  obtain ⟨rfl, h5⟩ := cN h4
  obtain ⟨r6, rfl, h9⟩ := cPP h5
  obtain ⟨rfl, h10⟩ := cN h9
  obtain ⟨r8, rfl, h14⟩ := cPP h10
  obtain ⟨rfl, h15⟩ := cN h14
  obtain ⟨r9, rfl, h18⟩ := oP h15
  obtain ⟨x2, r11, rfl, h20⟩ := cR h18
  obtain ⟨a12, r12, rfl, h21⟩ := asCons_inv h20
  obtain ⟨a13, rfl, h22⟩ := asOne_inv h21
  obtain ⟨x3, x4, x5, rfl, h23⟩ := asSl_inv h22
  obtain ⟨x6, r14, rfl, h25⟩ := cR h23
  obtain ⟨x7, r15, rfl, h28⟩ := oD h25
  obtain ⟨r17, rfl, h31⟩ := oP h28
  obtain ⟨x8, r19, rfl, h33⟩ := cR h31
  obtain ⟨rfl, h34⟩ := cN h33
  exact ACall.spec2 (fn := Try.f30) (c := codeOf Try.f30) (L := lofL L30v2) nS (by kernel_rfl) (by kernel_rfl) (inlOK _) (all_eq (by kernel_rfl : subsOf (E.info 30).keep (codeOf Try.f30) = [.loop (body Try.f30 1)]) (all_cons (loopOK_of (mk := 31000001) (sl := [0, 1, 3, 14, 15, 16]) (ss := [([0, 1, 3, 14, 15, 16], lsl30r1v2)]) (by kernel_rfl) (by kernel_rfl) (all_cons l30r1v2v all_nil)) all_nil)) (by kernel_rfl) h34.of
abbrev Sl14r14 : wS := [(30, none, sp30v2)]
theorem hSl14r14 : SpecOK E (ofL Sl14r14) := specOK_cons h30v2 specOK_nil
def lsl14r14 : LSp := fun vs σ K => dP (.vec 0) vs fun r1 => dP (.ptr 1 0 []) r1 fun r2 => asCons r2 fun a3 r3 => asFn 30 a3 fun l4 l5 => asNil l4 <| dP (.ptr 3 0 []) l5 fun r6 => dP (.ptr 4 0 []) r6 fun r7 => asNil r7 <| dP (.ptr 6 0 []) r3 fun r8 => dD wI r8 fun s1 r9 => asNil r9 <| dR wI false σ fun s2 r10 => dQ w6 (.vec 2) r10 fun r11 => dR wI false r11 fun s3 r13 => dO w1 w1 r13 fun s4 r14 => dQ (.sl w2) (.vec 5) r14 fun r16 => dR w2 false r16 fun s5 r18 => dQ w6 (.vec 7) r18 fun r19 => dR wI false r19 fun s6 r21 => asNil r21 <| l14r14 (fun z1 z2 => K (.exit 2) [(6, .vec 0), (13, I z1)] [.row wI z2 false]) s1 s2 s3 s4 s5 s6
theorem l14r14v : LoopV E wF (E.info 14).keep 0 Try.f14.ntmps 15000014 (body Try.f14 14) ([6, 8, 9, 12, 13], lsl14r14) := by
  intro vs σ K h0
  obtain ⟨r2, rfl, h4⟩ := cPP h0
  obtain ⟨a3, r3, rfl, h5⟩ := asCons_inv h4
  obtain ⟨l4, l5, rfl, h6⟩ := asFn_inv h5
  obtain ⟨rfl, h7⟩ := cN h6
  obtain ⟨r7, rfl, h11⟩ := cPP h7
  obtain ⟨rfl, h12⟩ := cN h11
  obtain ⟨s1, r9, rfl, h16⟩ := cPD h12
  obtain ⟨rfl, h17⟩ := cN h16
  obtain ⟨s2, r10, rfl, h19⟩ := cR h17
  obtain ⟨r11, rfl, h22⟩ := oP h19
  obtain ⟨s3, r13, rfl, h24⟩ := cR h22
  obtain ⟨s4, r14, rfl, h27⟩ := oD h24
  obtain ⟨r16, rfl, h30⟩ := oP h27
  obtain ⟨s5, r18, rfl, h32⟩ := cR h30
  obtain ⟨r19, rfl, h35⟩ := oP h32
  obtain ⟨s6, r21, rfl, h37⟩ := cR h35
  obtain ⟨rfl, h38⟩ := cN h37
  intro J hJ
  have hp : wH 14 Try.f14 (body Try.f14 14) nL := all_eq (by kernel_rfl) all_nil
  exact h38.of (fun s1 s2 s3 s4 s5 s6 => J [(15000014, .undef), (6, .vec 0), (8, .ptr 1 0 []), (9, .fn 30 [] [.ptr 3 0 [], .ptr 4 0 []]), (12, .ptr 6 0 []), (13, I s1)] [.row wI s2 false, .one w6 (.vec 2), .row wI s3 false, .one w1 (.d w1 s4), .one (.sl w2) (.vec 5), .row w2 s5 false, .one w6 (.vec 7), .row wI s6 false]) (fun s26 s27 s28 s29 s30 s31 s32 s33 s34 => J [(15000014, .undef), (6, .vec 0), (8, .ptr 1 0 []), (9, .fn 30 [] [.ptr 3 0 [], .ptr 4 0 []]), (12, .ptr 6 0 []), (13, I s26)] [.row wI s27 false, .one w6 (.vec 2), .row wI s28 false, .one w1 (.d w1 s29), .one (.sl w2) (.vec 5), .row w2 s30 false, .one w6 (.sl 7 s31 s32 s33 false), .row wI s34 false]) (fun s1 s2 s3 s4 s5 s6 hb => loop_round2 hSl14r14 (inlOK _) hp hJ (by kernel_rfl) hb) (fun s26 s27 s28 s29 s30 s31 s32 s33 s34 hb => loop_round2 hSl14r14 (inlOK _) hp hJ (by kernel_rfl) hb)
abbrev S14 : wS := [(16, none, sp16), (17, none, sp17)]
theorem hS14 : SpecOK E (ofL S14) := specOK_cons h16 (specOK_cons h17 specOK_nil)
abbrev L14 : wL := [(15000008, [6, 8, 9, 33, 34, 35], none, lsl14r8), (15000014, [6, 8, 9, 12, 13], none, lsl14r14)]
def sp14 : Sp := fun args τ K => dD w1 args fun x1 r1 => asNil r1 <| asNil τ <| c14 x1 (fun z1 z2 => K (.tup [B z1, I z2]) [])
theorem h14 : ∀ args τ K, sp14 args τ K → ACall E 14 args τ K := by
  intro args τ K h0
  obtain ⟨x1, r1, rfl, h2⟩ := cD h0
  obtain ⟨rfl, rfl, h4⟩ := cM h2
  exact ACall.spec2 (fn := Try.f14) (c := codeOf Try.f14) (L := lofL L14) hS14 (by kernel_rfl) (by kernel_rfl) (inlOK _) (all_eq (by kernel_rfl : subsOf (E.info 14).keep (codeOf Try.f14) = [.loop (body Try.f14 8), .loop (body Try.f14 14)]) (all_cons (loopOK_of (mk := 15000008) (sl := [6, 8, 9, 33, 34, 35]) (ss := [([6, 8, 9, 33, 34, 35], lsl14r8)]) (by kernel_rfl) (by kernel_rfl) (all_cons l14r8v all_nil)) (all_cons (loopOK_of (mk := 15000014) (sl := [6, 8, 9, 12, 13]) (ss := [([6, 8, 9, 12, 13], lsl14r14)]) (by kernel_rfl) (by kernel_rfl) (all_cons l14r14v all_nil)) all_nil))) (by kernel_rfl) h4.of
def lsl11r4 : LSp := fun vs σ K => dD w6 vs fun s1 r1 => dD w6 r1 fun s2 r2 => dD wI r2 fun s3 r3 => dD wI r3 fun s4 r4 => asNil r4 <| asNil σ <| l11r4 (fun z1 => K .ret [(4, B z1)] []) (K (.exit 0) [(4, .undef)] []) s1 s2 s3 s4
theorem l11r4v : LoopV E wF (E.info 11).keep 0 Try.f11.ntmps 12000004 (body Try.f11 4) ([1, 12, 13, 14], lsl11r4) := by
  intro vs σ K h0
  obtain ⟨s1, s2, s3, s4, r4, rfl, h8⟩ := cDDDD h0
  obtain ⟨rfl, rfl, h10⟩ := cM h8
  intro J hJ
  have hp : wH 11 Try.f11 (body Try.f11 4) nL := all_eq (by kernel_rfl) all_nil
  exact h10.of (fun s1 s2 s3 s4 => J [(12000004, .undef), (1, .d w6 s1), (12, .d w6 s2), (13, I s3), (14, I s4)] []) (fun s1 s2 s3 s4 hb => loop_round2 nS (inlOK _) hp hJ (by kernel_rfl) hb)
abbrev L11 : wL := [(12000004, [1, 12, 13, 14], none, lsl11r4)]
def sp11 : Sp := fun args τ K => dD w6 args fun x1 r1 => dD w6 r1 fun x2 r2 => asNil r2 <| asNil τ <| c11 x1 x2 (fun z1 => K (B z1) [])
theorem h11 : ∀ args τ K, sp11 args τ K → ACall E 11 args τ K := by
  intro args τ K h0
  obtain ⟨x1, x2, r2, rfl, h4⟩ := cDD h0
  obtain ⟨rfl, rfl, h6⟩ := cM h4
  exact ACall.spec2 (fn := Try.f11) (c := codeOf Try.f11) (L := lofL L11) nS (by kernel_rfl) (by kernel_rfl) (inlOK _) (all_eq (by kernel_rfl : subsOf (E.info 11).keep (codeOf Try.f11) = [.loop (body Try.f11 4)]) (all_cons (loopOK_of (mk := 12000004) (sl := [1, 12, 13, 14]) (ss := [([1, 12, 13, 14], lsl11r4)]) (by kernel_rfl) (by kernel_rfl) (all_cons l11r4v all_nil)) all_nil)) (by kernel_rfl) h6.of
abbrev S4 : wS := [(13, none, sp13), (6, none, sp6), (14, none, sp14), (11, none, sp11)]
theorem hS4 : SpecOK E (ofL S4) := specOK_cons h13 (specOK_cons h6 (specOK_cons h14 (specOK_cons h11 specOK_nil)))
def sp4 : Sp := fun args τ K => asNil args <| asNil τ <| c4  (fun z1 => K (B z1) [])
theorem h4 : ∀ args τ K, sp4 args τ K → ACall E 4 args τ K := by
  intro args τ K h0
  obtain ⟨rfl, rfl, h2⟩ := cM h0
  exact ACall.spec2 (fn := Try.f4) (c := codeOf Try.f4) (L := lofL nL) hS4 (by kernel_rfl) (by kernel_rfl) (inlOK _) (all_eq (by kernel_rfl) all_nil) (by kernel_rfl) h2.of
def lsl15r6 : LSp := fun vs σ K => dD wI vs fun s1 r1 => dP (.ptr 0 0 []) r1 fun r2 => dD (.sl w0) r2 fun s2 r3 => dD wI r3 fun s3 r4 => dD wI r4 fun s4 r5 => dD w6 r5 fun s5 r6 => dD wI r6 fun s6 r7 => dD wI r7 fun s7 r8 => asNil r8 <| dO w0 w0 σ fun s8 r9 => asNil r9 <| l15r6 (fun z1 z2 z3 z4 z5 => K (.exit 2) [(3, I z1), (5, .ptr 0 0 []), (11, .d (.sl w0) z2), (12, I z3), (13, I z4)] [.one w0 (.d w0 z5)]) s1 s2 s3 s4 s5 s6 s7 s8
theorem l15r6v : LoopV E wF (E.info 15).keep 0 Try.f15.ntmps 16000006 (body Try.f15 6) ([3, 5, 11, 12, 13, 18, 19, 20], lsl15r6) := by
  intro vs σ K h0
  obtain ⟨s1, s2, s3, r4, rfl, h8⟩ := cDPDD h0
  obtain ⟨s4, s5, s6, s7, r8, rfl, h16⟩ := cDDDD h8
  obtain ⟨rfl, h17⟩ := cN h16
  obtain ⟨s8, r9, rfl, h20⟩ := oD h17
  obtain ⟨rfl, h21⟩ := cN h20
  intro J hJ
  have hp : wH 15 Try.f15 (body Try.f15 6) nL := all_eq (by kernel_rfl) all_nil
  exact h21.of (fun s1 s2 s3 s4 s5 s6 s7 s8 => J [(16000006, .undef), (3, I s1), (5, .ptr 0 0 []), (11, .d (.sl w0) s2), (12, I s3), (13, I s4), (18, .d w6 s5), (19, I s6), (20, I s7)] [.one w0 (.d w0 s8)]) (fun s1 s2 s3 s4 s5 s6 s7 s8 hb => loop_round2 nS (inlOK _) hp hJ (by kernel_rfl) hb)
def lsl15r11 : LSp := fun vs σ K => dD wI vs fun s1 r1 => dD (.sl w0) r1 fun s2 r2 => dD wI r2 fun s3 r3 => dD wI r3 fun s4 r4 => dD (.sl (.pair wI (.pair wI w3))) r4 fun s5 r5 => dD wI r5 fun s6 r6 => dD wI r6 fun s7 r7 => asNil r7 <| asNil σ <| l15r11 (fun z1 z2 z3 z4 => K (.exit 4) [(3, I z1), (11, .d (.sl w0) z2), (12, I z3), (13, I z4)] []) s1 s2 s3 s4 s5 s6 s7
theorem l15r11v : LoopV E wF (E.info 15).keep 0 Try.f15.ntmps 16000011 (body Try.f15 11) ([3, 11, 12, 13, 30, 31, 32], lsl15r11) := by
  intro vs σ K h0
  obtain ⟨s1, s2, s3, s4, r4, rfl, h8⟩ := cDDDD h0
  obtain ⟨s5, s6, s7, r7, rfl, h14⟩ := cDDD h8
  obtain ⟨rfl, rfl, h16⟩ := cM h14
  intro J hJ
  have hp : wH 15 Try.f15 (body Try.f15 11) nL := all_eq (by kernel_rfl) all_nil
  exact h16.of (fun s1 s2 s3 s4 s5 s6 s7 => J [(16000011, .undef), (3, I s1), (11, .d (.sl w0) s2), (12, I s3), (13, I s4), (30, .d (.sl (.pair wI (.pair wI w3))) s5), (31, I s6), (32, I s7)] []) (fun s1 s2 s3 s4 s5 s6 s7 hb => loop_round2 nS (inlOK _) hp hJ (by kernel_rfl) hb)
abbrev Ll15r3 : wL := [(16000006, [3, 5, 11, 12, 13, 18, 19, 20], none, lsl15r6), (16000011, [3, 11, 12, 13, 30, 31, 32], none, lsl15r11)]
def lsl15r3 : LSp := fun vs σ K => dD wI vs fun s1 r1 => dD (.sl w0) r1 fun s2 r2 => dD wI r2 fun s3 r3 => dD wI r3 fun s4 r4 => asNil r4 <| asNil σ <| l15r3 (fun z1 => K (.exit 0) [(3, I z1)] []) s1 s2 s3 s4
theorem l15r3v : LoopV E wF (E.info 15).keep 0 Try.f15.ntmps 16000003 (body Try.f15 3) ([3, 11, 12, 13], lsl15r3) := by
  intro vs σ K h0
  obtain ⟨s1, s2, s3, s4, r4, rfl, h8⟩ := cDDDD h0
  obtain ⟨rfl, rfl, h10⟩ := cM h8
  intro J hJ
  have hp : wH 15 Try.f15 (body Try.f15 3) Ll15r3 := all_eq (by kernel_rfl : subsOf (E.info 15).keep (body Try.f15 3) = [.loop (body Try.f15 6), .loop (body Try.f15 11)]) (all_cons (loopOK_of (mk := 16000006) (sl := [3, 5, 11, 12, 13, 18, 19, 20]) (ss := [([3, 5, 11, 12, 13, 18, 19, 20], lsl15r6)]) (by kernel_rfl) (by kernel_rfl) (all_cons l15r6v all_nil)) (all_cons (loopOK_of (mk := 16000011) (sl := [3, 11, 12, 13, 30, 31, 32]) (ss := [([3, 11, 12, 13, 30, 31, 32], lsl15r11)]) (by kernel_rfl) (by kernel_rfl) (all_cons l15r11v all_nil)) all_nil))
  exact h10.of (fun s1 s2 s3 s4 => J [(16000003, .undef), (3, I s1), (11, .d (.sl w0) s2), (12, I s3), (13, I s4)] []) (fun s1 s2 s3 s4 hb => loop_round2 nS (inlOK _) hp hJ (by kernel_rfl) hb)
abbrev L15 : wL := [(16000003, [3, 11, 12, 13], none, lsl15r3)]
def sp15 : Sp := fun args τ K => dD w1 args fun x1 r1 => asNil r1 <| asNil τ <| c15 x1 (fun z1 => K (I z1) [])
theorem h15 : ∀ args τ K, sp15 args τ K → ACall E 15 args τ K := by
  intro args τ K h0
  obtain ⟨x1, r1, rfl, h2⟩ := cD h0
  obtain ⟨rfl, rfl, h4⟩ := cM h2
  exact ACall.spec2 (fn := Try.f15) (c := codeOf Try.f15) (L := lofL L15) nS (by kernel_rfl) (by kernel_rfl) (inlOK _) (all_eq (by kernel_rfl : subsOf (E.info 15).keep (codeOf Try.f15) = [.loop (body Try.f15 3)]) (all_cons (loopOK_of (mk := 16000003) (sl := [3, 11, 12, 13]) (ss := [([3, 11, 12, 13], lsl15r3)]) (by kernel_rfl) (by kernel_rfl) (all_cons l15r3v all_nil)) all_nil)) (by kernel_rfl) h4.of
abbrev S5 : wS := [(15, none, sp15)]
theorem hS5 : SpecOK E (ofL S5) := specOK_cons h15 specOK_nil
def sp5 : Sp := fun args τ K => dD w1 args fun x1 r1 => asNil r1 <| asNil τ <| c5 x1 (fun z1 => K (B z1) [])
theorem h5 : ∀ args τ K, sp5 args τ K → ACall E 5 args τ K := by
  intro args τ K h0
  obtain ⟨x1, r1, rfl, h2⟩ := cD h0
  obtain ⟨rfl, rfl, h4⟩ := cM h2
  exact ACall.spec2 (fn := Try.f5) (c := codeOf Try.f5) (L := lofL nL) hS5 (by kernel_rfl) (by kernel_rfl) (inlOK _) (all_eq (by kernel_rfl) all_nil) (by kernel_rfl) h4.of
def lsl7r9 : LSp := fun vs σ K => dP (.vec 0) vs fun r1 => dP (.vec 1) r1 fun r2 => dD wI r2 fun s1 r3 => dD wI r3 fun s2 r4 => dD w6 r4 fun s3 r5 => dD wI r5 fun s4 r6 => dD wI r6 fun s5 r7 => asNil r7 <| dR wI false σ fun s6 r8 => dR w4 false r8 fun s7 r9 => asNil r9 <| l7r9 (fun z1 z2 z3 z4 => K (.exit 2) [(6, .vec 0), (23, .vec 1), (24, I z1), (25, I z2)] [.row wI z3 false, .row w4 z4 false]) s1 s2 s3 s4 s5 s6 s7
theorem l7r9v : LoopV E wF (E.info 7).keep 0 Try.f7.ntmps 8000009 (body Try.f7 9) ([6, 23, 24, 25, 30, 31, 32], lsl7r9) := by
  intro vs σ K h0
  obtain ⟨s1, s2, r4, rfl, h8⟩ := cPPDD h0
  obtain ⟨s3, s4, s5, r7, rfl, h14⟩ := cDDD h8
  obtain ⟨rfl, h15⟩ := cN h14
  obtain ⟨s6, r8, rfl, h17⟩ := cR h15
  obtain ⟨s7, r9, rfl, h19⟩ := cR h17
  obtain ⟨rfl, h20⟩ := cN h19
  intro J hJ
  have hp : wH 7 Try.f7 (body Try.f7 9) nL := all_eq (by kernel_rfl) all_nil
  exact h20.of (fun s1 s2 s3 s4 s5 s6 s7 => J [(8000009, .undef), (6, .vec 0), (23, .vec 1), (24, I s1), (25, I s2), (30, .d w6 s3), (31, I s4), (32, I s5)] [.row wI s6 false, .row w4 s7 false]) (fun s1 s2 s3 s4 s5 s6 s7 hb => loop_round2 nS (inlOK _) hp hJ (by kernel_rfl) hb)
abbrev Ll7r6 : wL := [(8000009, [6, 23, 24, 25, 30, 31, 32], none, lsl7r9)]
def lsl7r6 : LSp := fun vs σ K => dP (.vec 0) vs fun r1 => dP (.vec 1) r1 fun r2 => dD wI r2 fun s1 r3 => dD wI r3 fun s2 r4 => asNil r4 <| dR wI false σ fun s3 r5 => dR w4 false r5 fun s4 r6 => asNil r6 <| l7r6 (fun z1 => K (.exit 0) [(6, .vec 0)] [.row wI z1 false]) s1 s2 s3 s4
theorem l7r6v : LoopV E wF (E.info 7).keep 0 Try.f7.ntmps 8000006 (body Try.f7 6) ([6, 23, 24, 25], lsl7r6) := by
  intro vs σ K h0
  obtain ⟨s1, s2, r4, rfl, h8⟩ := cPPDD h0
  obtain ⟨rfl, h9⟩ := cN h8
  obtain ⟨s3, r5, rfl, h11⟩ := cR h9
  obtain ⟨s4, r6, rfl, h13⟩ := cR h11
  obtain ⟨rfl, h14⟩ := cN h13
  intro J hJ
  have hp : wH 7 Try.f7 (body Try.f7 6) Ll7r6 := all_eq (by kernel_rfl : subsOf (E.info 7).keep (body Try.f7 6) = [.loop (body Try.f7 9)]) (all_cons (loopOK_of (mk := 8000009) (sl := [6, 23, 24, 25, 30, 31, 32]) (ss := [([6, 23, 24, 25, 30, 31, 32], lsl7r9)]) (by kernel_rfl) (by kernel_rfl) (all_cons l7r9v all_nil)) all_nil)
  exact h14.of (fun s1 s2 s3 s4 => J [(8000006, .undef), (6, .vec 0), (23, .vec 1), (24, I s1), (25, I s2)] [.row wI s3 false, .row w4 s4 false]) (fun s1 s2 s3 s4 hb => loop_round2 nS (inlOK _) hp hJ (by kernel_rfl) hb)
abbrev S7 : wS := [(6, none, sp6)]
theorem hS7 : SpecOK E (ofL S7) := specOK_cons h6 specOK_nil
abbrev L7 : wL := [(8000006, [6, 23, 24, 25], none, lsl7r6)]
def sp7 : Sp := fun args τ K => dD w1 args fun x1 r1 => asNil r1 <| asNil τ <| c7 x1 (fun z1 z2 => K (.tup [.vec 0, I z1]) [.row wI z2 false])
theorem h7 : ∀ args τ K, sp7 args τ K → ACall E 7 args τ K := by
  intro args τ K h0
  obtain ⟨x1, r1, rfl, h2⟩ := cD h0
  obtain ⟨rfl, rfl, h4⟩ := cM h2
  exact ACall.spec2 (fn := Try.f7) (c := codeOf Try.f7) (L := lofL L7) hS7 (by kernel_rfl) (by kernel_rfl) (inlOK _) (all_eq (by kernel_rfl : subsOf (E.info 7).keep (codeOf Try.f7) = [.loop (body Try.f7 6)]) (all_cons (loopOK_of (mk := 8000006) (sl := [6, 23, 24, 25]) (ss := [([6, 23, 24, 25], lsl7r6)]) (by kernel_rfl) (by kernel_rfl) (all_cons l7r6v all_nil)) all_nil)) (by kernel_rfl) h4.of
def lsl8r3 : LSp := fun vs σ K => dP (.ptr 0 0 []) vs fun r1 => dD wI r1 fun s1 r2 => dD (.sl w0) r2 fun s2 r3 => dD wI r3 fun s3 r4 => dD wI r4 fun s4 r5 => asNil r5 <| dO w1 w1 σ fun s5 r6 => asNil r6 <| l8r3 (fun z1 z2 => K (.exit 0) [(1, .ptr 0 0 []), (3, I z1)] [.one w1 (.d w1 z2)]) s1 s2 s3 s4 s5
theorem l8r3v : LoopV E wF (E.info 8).keep 0 Try.f8.ntmps 9000003 (body Try.f8 3) ([1, 3, 17, 18, 19], lsl8r3) := by
  intro vs σ K h0
  obtain ⟨s1, s2, s3, r4, rfl, h8⟩ := cPDDD h0
  obtain ⟨s4, r5, rfl, h10⟩ := cD h8
  obtain ⟨rfl, h11⟩ := cN h10
  obtain ⟨s5, r6, rfl, h14⟩ := oD h11
  obtain ⟨rfl, h15⟩ := cN h14
  intro J hJ
  have hp : wH 8 Try.f8 (body Try.f8 3) nL := all_eq (by kernel_rfl) all_nil
  exact h15.of (fun s1 s2 s3 s4 s5 => J [(9000003, .undef), (1, .ptr 0 0 []), (3, I s1), (17, .d (.sl w0) s2), (18, I s3), (19, I s4)] [.one w1 (.d w1 s5)]) (fun s1 s2 s3 s4 s5 hb => loop_round2 nS (inlOK _) hp hJ (by kernel_rfl) hb)
def sp23 : Sp := fun args τ K => dD wI args fun x1 r1 => dD wI r1 fun x2 r2 => dD wI r2 fun x3 r3 => asNil r3 <| asNil τ <| c23 x1 x2 x3 (fun z1 => K (B z1) [])
theorem h23 : ∀ args τ K, sp23 args τ K → ACall E 23 args τ K := by
  intro args τ K h0
  obtain ⟨x1, x2, x3, r3, rfl, h6⟩ := cDDD h0
  obtain ⟨rfl, rfl, h8⟩ := cM h6
  exact ACall.spec2 (fn := Try.f23) (c := codeOf Try.f23) (L := lofL nL) nS (by kernel_rfl) (by kernel_rfl) (inlOK _) (all_eq (by kernel_rfl) all_nil) (by kernel_rfl) h8.of
def lsl12r2 : LSp := fun vs σ K => dD wI vs fun s1 r1 => dD w6 r1 fun s2 r2 => dD wI r2 fun s3 r3 => dD wI r3 fun s4 r4 => asNil r4 <| asNil σ <| l12r2 (fun z1 => K .ret [(4, B z1)] []) (K (.exit 0) [(4, .undef)] []) s1 s2 s3 s4
theorem l12r2v : LoopV E wF (E.info 12).keep 0 Try.f12.ntmps 13000002 (body Try.f12 2) ([1, 7, 8, 9], lsl12r2) := by
  intro vs σ K h0
  obtain ⟨s1, s2, s3, s4, r4, rfl, h8⟩ := cDDDD h0
  obtain ⟨rfl, rfl, h10⟩ := cM h8
  intro J hJ
  have hp : wH 12 Try.f12 (body Try.f12 2) nL := all_eq (by kernel_rfl) all_nil
  exact h10.of (fun s1 s2 s3 s4 => J [(13000002, .undef), (1, I s1), (7, .d w6 s2), (8, I s3), (9, I s4)] []) (fun s1 s2 s3 s4 hb => loop_round2 nS (inlOK _) hp hJ (by kernel_rfl) hb)
abbrev L12 : wL := [(13000002, [1, 7, 8, 9], none, lsl12r2)]
def sp12 : Sp := fun args τ K => dD w6 args fun x1 r1 => dD wI r1 fun x2 r2 => asNil r2 <| asNil τ <| c12 x1 x2 (fun z1 => K (B z1) [])
theorem h12 : ∀ args τ K, sp12 args τ K → ACall E 12 args τ K := by
  intro args τ K h0
  obtain ⟨x1, x2, r2, rfl, h4⟩ := cDD h0
  obtain ⟨rfl, rfl, h6⟩ := cM h4
  exact ACall.spec2 (fn := Try.f12) (c := codeOf Try.f12) (L := lofL L12) nS (by kernel_rfl) (by kernel_rfl) (inlOK _) (all_eq (by kernel_rfl : subsOf (E.info 12).keep (codeOf Try.f12) = [.loop (body Try.f12 2)]) (all_cons (loopOK_of (mk := 13000002) (sl := [1, 7, 8, 9]) (ss := [([1, 7, 8, 9], lsl12r2)]) (by kernel_rfl) (by kernel_rfl) (all_cons l12r2v all_nil)) all_nil)) (by kernel_rfl) h6.of
abbrev S43 : wS := [(23, none, sp23), (12, none, sp12)]
theorem hS43 : SpecOK E (ofL S43) := specOK_cons h23 (specOK_cons h12 specOK_nil)
def sp43 : Sp := fun args τ K => dD wI args fun x1 r1 => dD w6 r1 fun x2 r2 => asNil r2 <| asNil τ <| c43 x1 x2 (fun z1 => K (I z1) [])
theorem h43 : ∀ args τ K, sp43 args τ K → ACall E 43 args τ K := by
  intro args τ K h0
  obtain ⟨x1, x2, r2, rfl, h4⟩ := cDD h0
  obtain ⟨rfl, rfl, h6⟩ := cM h4
  exact ACall.spec2 (fn := Try.f43) (c := codeOf Try.f43) (L := lofL nL) hS43 (by kernel_rfl) (by kernel_rfl) (inlOK _) (all_eq (by kernel_rfl) all_nil) (by kernel_rfl) h6.of
abbrev Sl24r6 : wS := [(43, none, sp43)]
theorem hSl24r6 : SpecOK E (ofL Sl24r6) := specOK_cons h43 specOK_nil
def lsl24r6 : LSp := fun vs σ K => dP (.ptr 0 0 []) vs fun r1 => dP (.vec 1) r1 fun r2 => dP (.ptr 2 0 []) r2 fun r3 => dD (.sl w0) r3 fun s1 r4 => dD wI r4 fun s2 r5 => dD wI r5 fun s3 r6 => dD w6 r6 fun s4 r7 => dD wI r7 fun s5 r8 => dD wI r8 fun s6 r9 => asNil r9 <| dO w1 w1 σ fun s7 r10 => dR wI false r10 fun s8 r12 => dO w0 w0 r12 fun s9 r13 => asNil r13 <| l24r6 (fun z1 => K .ret [(1, .undef), (2, I z1), (3, .undef), (5, .undef), (15, .undef), (16, .undef), (17, .undef)] []) (fun z1 z2 z3 z4 z5 z6 => K (.exit 2) [(1, .ptr 0 0 []), (2, .undef), (3, .vec 1), (5, .ptr 2 0 []), (15, .d (.sl w0) z1), (16, I z2), (17, I z3)] [.one w1 (.d w1 z4), .row wI z5 false, .one w0 (.d w0 z6)]) s1 s2 s3 s4 s5 s6 s7 s8 s9
theorem l24r6v : LoopV E wF (E.info 24).keep 0 Try.f24.ntmps 25000006 (body Try.f24 6) ([1, 3, 5, 15, 16, 17, 22, 23, 24], lsl24r6) := by
  intro vs σ K h0
  obtain ⟨s1, r4, rfl, h8⟩ := cPPPD h0
  obtain ⟨s2, s3, s4, s5, r8, rfl, h16⟩ := cDDDD h8
  obtain ⟨s6, r9, rfl, h18⟩ := cD h16
  obtain ⟨rfl, h19⟩ := cN h18
  obtain ⟨s7, r10, rfl, h22⟩ := oD h19
  obtain ⟨s8, r12, rfl, h24⟩ := cR h22
  obtain ⟨s9, r13, rfl, h27⟩ := oD h24
  obtain ⟨rfl, h28⟩ := cN h27
  intro J hJ
  have hp : wH 24 Try.f24 (body Try.f24 6) nL := all_eq (by kernel_rfl) all_nil
  exact h28.of (fun s1 s2 s3 s4 s5 s6 s7 s8 s9 => J [(25000006, .undef), (1, .ptr 0 0 []), (3, .vec 1), (5, .ptr 2 0 []), (15, .d (.sl w0) s1), (16, I s2), (17, I s3), (22, .d w6 s4), (23, I s5), (24, I s6)] [.one w1 (.d w1 s7), .row wI s8 false, .one w0 (.d w0 s9)]) (fun s1 s2 s3 s4 s5 s6 s7 s8 s9 hb => loop_round2 hSl24r6 (inlOK _) hp hJ (by kernel_rfl) hb)
def sp65 : Sp := fun args τ K => dD (.pair wI (.pair wI w3)) args fun x1 r1 => asNil r1 <| asNil τ <| c65 x1 (fun z1 => K (I z1) [])
theorem h65 : ∀ args τ K, sp65 args τ K → ACall E 65 args τ K := by
  intro args τ K h0
  obtain ⟨x1, r1, rfl, h2⟩ := cD h0
  obtain ⟨rfl, rfl, h4⟩ := cM h2
  exact ACall.spec2 (fn := Try.f65) (c := codeOf Try.f65) (L := lofL nL) nS (by kernel_rfl) (by kernel_rfl) (inlOK _) (all_eq (by kernel_rfl) all_nil) (by kernel_rfl) h4.of
def lsj44s4 : LSp := fun vs σ K => dP (.ptr 0 0 []) vs fun r1 => dD .bool r1 fun s1 r2 => asNil r2 <| dO (.pair wI (.pair wI w3)) (.pair wI (.pair wI w3)) σ fun s2 r3 => asNil r3 <| j44s4 (fun z1 => K .ret [(1, .undef), (2, I z1)] []) (fun z1 => K .normal [(1, .ptr 0 0 []), (2, .undef)] [.one (.pair wI (.pair wI w3)) (.d (.pair wI (.pair wI w3)) z1)]) s1 s2
theorem j44s4v : JoinV E wF (E.info 44).keep 0 Try.f44.ntmps 45500004 5000004 (jbody Try.f44 5000004) ([1, 60], lsj44s4) := by
  intro vs σ K h0
  obtain ⟨s1, r2, rfl, h4⟩ := cPD h0
  obtain ⟨rfl, h5⟩ := cN h4
  obtain ⟨s2, r3, rfl, h8⟩ := oD h5
  obtain ⟨rfl, h9⟩ := cN h8
  exact join_round2 (L := lofL nL) nS (inlOK _) (all_eq (by kernel_rfl) all_nil) (by kernel_rfl) h9.of
abbrev S66 : wS := [(23, none, sp23)]
theorem hS66 : SpecOK E (ofL S66) := specOK_cons h23 specOK_nil
def sp66 : Sp := fun args τ K => dD wI args fun x1 r1 => asNil r1 <| asNil τ <| c66 x1 (fun z1 => K (B z1) [])
theorem h66 : ∀ args τ K, sp66 args τ K → ACall E 66 args τ K := by
  intro args τ K h0
  obtain ⟨x1, r1, rfl, h2⟩ := cD h0
  obtain ⟨rfl, rfl, h4⟩ := cM h2
  exact ACall.spec2 (fn := Try.f66) (c := codeOf Try.f66) (L := lofL nL) hS66 (by kernel_rfl) (by kernel_rfl) (inlOK _) (all_eq (by kernel_rfl) all_nil) (by kernel_rfl) h4.of
abbrev Sj44r6 : wS := [(66, none, sp66), (23, none, sp23)]
theorem hSj44r6 : SpecOK E (ofL Sj44r6) := specOK_cons h66 (specOK_cons h23 specOK_nil)
def lsj44r6 : LSp := fun vs σ K => dP (.ptr 0 0 []) vs fun r1 => asNil r1 <| dO (.pair wI (.pair wI w3)) (.pair wI (.pair wI w3)) σ fun s1 r2 => asNil r2 <| j44r6 (fun z1 => K .ret [(2, I z1)] []) s1
theorem j44r6v : JoinV E wF (E.info 44).keep 0 Try.f44.ntmps 45400006 4000006 (jbody Try.f44 4000006) ([1], lsj44r6) := by
  intro vs σ K h0
  obtain ⟨r1, rfl, h2⟩ := cP h0
  obtain ⟨rfl, h3⟩ := cN h2
  obtain ⟨s1, r2, rfl, h6⟩ := oD h3
  obtain ⟨rfl, h7⟩ := cN h6
  exact join_round2 (L := lofL nL) hSj44r6 (inlOK _) (all_eq (by kernel_rfl) all_nil) (by kernel_rfl) h7.of
abbrev Lj44r4 : wL := [(45500004, [1, 60], none, lsj44s4), (45400006, [1], none, lsj44r6)]
def lsj44r4 : LSp := fun vs σ K => dP (.ptr 0 0 []) vs fun r1 => asNil r1 <| dO (.pair wI (.pair wI w3)) (.pair wI (.pair wI w3)) σ fun s1 r2 => asNil r2 <| j44r4 (fun z1 => K .ret [(2, I z1)] []) s1
theorem j44r4v : JoinV E wF (E.info 44).keep 0 Try.f44.ntmps 45400004 4000004 (jbody Try.f44 4000004) ([1], lsj44r4) := by
  intro vs σ K h0
  obtain ⟨r1, rfl, h2⟩ := cP h0
  obtain ⟨rfl, h3⟩ := cN h2
  obtain ⟨s1, r2, rfl, h6⟩ := oD h3
  obtain ⟨rfl, h7⟩ := cN h6
  exact join_round2 (L := lofL Lj44r4) nS (inlOK _) (all_eq (by kernel_rfl : subsOf (E.info 44).keep (jbody Try.f44 4000004) = [.join 4000006 (jbody Try.f44 4000006), .join 5000004 (jbody Try.f44 5000004)]) (all_cons (joinOK_of (mk := 45400006) (sl := [1]) (ss := [([1], lsj44r6)]) (by kernel_rfl) (by kernel_rfl) (all_cons j44r6v all_nil)) (all_cons (joinOK_of (mk := 45500004) (sl := [1, 60]) (ss := [([1, 60], lsj44s4)]) (by kernel_rfl) (by kernel_rfl) (all_cons j44s4v all_nil)) all_nil))) (by kernel_rfl) h7.of
abbrev S44 : wS := [(65, none, sp65)]
theorem hS44 : SpecOK E (ofL S44) := specOK_cons h65 specOK_nil
abbrev L44 : wL := [(45400004, [1], none, lsj44r4)]
def sp44 : Sp := fun args τ K => dD (.pair wI (.pair wI w3)) args fun x1 r1 => asNil r1 <| asNil τ <| c44 x1 (fun z1 => K (I z1) [])
theorem h44 : ∀ args τ K, sp44 args τ K → ACall E 44 args τ K := by
  intro args τ K h0
  obtain ⟨x1, r1, rfl, h2⟩ := cD h0
  obtain ⟨rfl, rfl, h4⟩ := cM h2
  exact ACall.spec2 (fn := Try.f44) (c := codeOf Try.f44) (L := lofL L44) hS44 (by kernel_rfl) (by kernel_rfl) (inlOK _) (all_eq (by kernel_rfl : subsOf (E.info 44).keep (codeOf Try.f44) = [.join 4000004 (jbody Try.f44 4000004)]) (all_cons (joinOK_of (mk := 45400004) (sl := [1]) (ss := [([1], lsj44r4)]) (by kernel_rfl) (by kernel_rfl) (all_cons j44r4v all_nil)) all_nil)) (by kernel_rfl) h4.of
abbrev Sl24r14 : wS := [(43, none, sp43), (44, none, sp44)]
theorem hSl24r14 : SpecOK E (ofL Sl24r14) := specOK_cons h43 (specOK_cons h44 specOK_nil)
def lsl24r14 : LSp := fun vs σ K => dP (.ptr 0 0 []) vs fun r1 => dP (.vec 1) r1 fun r2 => dP (.ptr 2 0 []) r2 fun r3 => dD (.sl w0) r3 fun s1 r4 => dD wI r4 fun s2 r5 => dD wI r5 fun s3 r6 => dD (.sl (.pair wI (.pair wI w3))) r6 fun s4 r7 => dD wI r7 fun s5 r8 => dD wI r8 fun s6 r9 => asNil r9 <| dO w1 w1 σ fun s7 r10 => dR wI false r10 fun s8 r12 => dO w0 w0 r12 fun s9 r13 => asNil r13 <| l24r14 (fun z1 => K .ret [(1, .undef), (2, I z1), (3, .undef), (5, .undef), (15, .undef), (16, .undef), (17, .undef)] []) (fun z1 z2 z3 z4 z5 z6 => K (.exit 4) [(1, .ptr 0 0 []), (2, .undef), (3, .vec 1), (5, .ptr 2 0 []), (15, .d (.sl w0) z1), (16, I z2), (17, I z3)] [.one w1 (.d w1 z4), .row wI z5 false, .one w0 (.d w0 z6)]) s1 s2 s3 s4 s5 s6 s7 s8 s9
theorem l24r14v : LoopV E wF (E.info 24).keep 0 Try.f24.ntmps 25000014 (body Try.f24 14) ([1, 3, 5, 15, 16, 17, 40, 41, 42], lsl24r14) := by
  intro vs σ K h0
  obtain ⟨s1, r4, rfl, h8⟩ := cPPPD h0
  obtain ⟨s2, s3, s4, s5, r8, rfl, h16⟩ := cDDDD h8
  obtain ⟨s6, r9, rfl, h18⟩ := cD h16
  obtain ⟨rfl, h19⟩ := cN h18
  obtain ⟨s7, r10, rfl, h22⟩ := oD h19
  obtain ⟨s8, r12, rfl, h24⟩ := cR h22
  obtain ⟨s9, r13, rfl, h27⟩ := oD h24
  obtain ⟨rfl, h28⟩ := cN h27
  intro J hJ
  have hp : wH 24 Try.f24 (body Try.f24 14) nL := all_eq (by kernel_rfl) all_nil
  exact h28.of (fun s1 s2 s3 s4 s5 s6 s7 s8 s9 => J [(25000014, .undef), (1, .ptr 0 0 []), (3, .vec 1), (5, .ptr 2 0 []), (15, .d (.sl w0) s1), (16, I s2), (17, I s3), (40, .d (.sl (.pair wI (.pair wI w3))) s4), (41, I s5), (42, I s6)] [.one w1 (.d w1 s7), .row wI s8 false, .one w0 (.d w0 s9)]) (fun s1 s2 s3 s4 s5 s6 s7 s8 s9 hb => loop_round2 hSl24r14 (inlOK _) hp hJ (by kernel_rfl) hb)
def lsj45s4 : LSp := fun vs σ K => dP (.ptr 0 0 []) vs fun r1 => dP (.ptr 1 0 []) r1 fun r2 => dD .bool r2 fun s1 r3 => asNil r3 <| dO w1 w1 σ fun s2 r4 => dO w5 w5 r4 fun s3 r6 => asNil r6 <| j45s4 (fun z1 => K .ret [(2, .undef), (3, .undef), (4, I z1)] []) (fun z1 z2 => K .normal [(2, .ptr 0 0 []), (3, .ptr 1 0 []), (4, .undef)] [.one w1 (.d w1 z1), .one w5 (.d w5 z2)]) s1 s2 s3
theorem j45s4v : JoinV E wF (E.info 45).keep 0 Try.f45.ntmps 46500004 5000004 (jbody Try.f45 5000004) ([2, 3, 63], lsj45s4) := by
  intro vs σ K h0
  obtain ⟨s1, r3, rfl, h6⟩ := cPPD h0
  obtain ⟨rfl, h7⟩ := cN h6
  obtain ⟨s2, r4, rfl, h10⟩ := oD h7
  obtain ⟨s3, r6, rfl, h13⟩ := oD h10
  obtain ⟨rfl, h14⟩ := cN h13
  exact join_round2 (L := lofL nL) nS (inlOK _) (all_eq (by kernel_rfl) all_nil) (by kernel_rfl) h14.of
abbrev Sl45r11 : wS := [(66, none, sp66), (12, none, sp12)]
theorem hSl45r11 : SpecOK E (ofL Sl45r11) := specOK_cons h66 (specOK_cons h12 specOK_nil)
def lsl45r11 : LSp := fun vs σ K => dP (.ptr 0 0 []) vs fun r1 => dP (.ptr 1 0 []) r1 fun r2 => dD w6 r2 fun s1 r3 => dD wI r3 fun s2 r4 => dD wI r4 fun s3 r5 => asNil r5 <| dO w1 w1 σ fun s4 r6 => dO w5 w5 r6 fun s5 r8 => asNil r8 <| l45r11 (fun z1 => K .ret [(2, .undef), (3, .undef), (4, I z1)] []) (fun z1 z2 => K (.exit 0) [(2, .ptr 0 0 []), (3, .ptr 1 0 []), (4, .undef)] [.one w1 (.d w1 z1), .one w5 (.d w5 z2)]) s1 s2 s3 s4 s5
theorem l45r11v : LoopV E wF (E.info 45).keep 0 Try.f45.ntmps 46000011 (body Try.f45 11) ([2, 3, 78, 79, 80], lsl45r11) := by
  intro vs σ K h0
  obtain ⟨s1, s2, r4, rfl, h8⟩ := cPPDD h0
  obtain ⟨s3, r5, rfl, h10⟩ := cD h8
  obtain ⟨rfl, h11⟩ := cN h10
  obtain ⟨s4, r6, rfl, h14⟩ := oD h11
  obtain ⟨s5, r8, rfl, h17⟩ := oD h14
  obtain ⟨rfl, h18⟩ := cN h17
  intro J hJ
  have hp : wH 45 Try.f45 (body Try.f45 11) nL := all_eq (by kernel_rfl) all_nil
  exact h18.of (fun s1 s2 s3 s4 s5 => J [(46000011, .undef), (2, .ptr 0 0 []), (3, .ptr 1 0 []), (78, .d w6 s1), (79, I s2), (80, I s3)] [.one w1 (.d w1 s4), .one w5 (.d w5 s5)]) (fun s1 s2 s3 s4 s5 hb => loop_round2 hSl45r11 (inlOK _) hp hJ (by kernel_rfl) hb)
abbrev Sl45r19 : wS := [(23, none, sp23)]
theorem hSl45r19 : SpecOK E (ofL Sl45r19) := specOK_cons h23 specOK_nil
def lsl45r19 : LSp := fun vs σ K => dP (.ptr 0 0 []) vs fun r1 => dD (.sl w3) r1 fun s1 r2 => dD wI r2 fun s2 r3 => dD wI r3 fun s3 r4 => asNil r4 <| dO w1 w1 σ fun s4 r5 => asNil r5 <| l45r19 (fun z1 => K .ret [(4, I z1)] []) (K (.exit 2) [(4, .undef)] []) s1 s2 s3 s4
theorem l45r19v : LoopV E wF (E.info 45).keep 0 Try.f45.ntmps 46000019 (body Try.f45 19) ([2, 96, 97, 98], lsl45r19) := by
  intro vs σ K h0
  obtain ⟨s1, s2, s3, r4, rfl, h8⟩ := cPDDD h0
  obtain ⟨rfl, h9⟩ := cN h8
  obtain ⟨s4, r5, rfl, h12⟩ := oD h9
  obtain ⟨rfl, h13⟩ := cN h12
  intro J hJ
  have hp : wH 45 Try.f45 (body Try.f45 19) nL := all_eq (by kernel_rfl) all_nil
  exact h13.of (fun s1 s2 s3 s4 => J [(46000019, .undef), (2, .ptr 0 0 []), (96, .d (.sl w3) s1), (97, I s2), (98, I s3)] [.one w1 (.d w1 s4)]) (fun s1 s2 s3 s4 hb => loop_round2 hSl45r19 (inlOK _) hp hJ (by kernel_rfl) hb)
abbrev Sj45r6 : wS := [(23, none, sp23)]
theorem hSj45r6 : SpecOK E (ofL Sj45r6) := specOK_cons h23 specOK_nil
abbrev Lj45r6 : wL := [(46000011, [2, 3, 78, 79, 80], none, lsl45r11), (46000019, [2, 96, 97, 98], none, lsl45r19)]
def lsj45r6 : LSp := fun vs σ K => dP (.ptr 0 0 []) vs fun r1 => dP (.ptr 1 0 []) r1 fun r2 => asNil r2 <| dO w1 w1 σ fun s1 r3 => dO w5 w5 r3 fun s2 r5 => asNil r5 <| j45r6 (fun z1 => K .ret [(4, I z1)] []) s1 s2
theorem j45r6v : JoinV E wF (E.info 45).keep 0 Try.f45.ntmps 46400006 4000006 (jbody Try.f45 4000006) ([2, 3], lsj45r6) := by
  intro vs σ K h0
  obtain ⟨r2, rfl, h4⟩ := cPP h0
  obtain ⟨rfl, h5⟩ := cN h4
  obtain ⟨s1, r3, rfl, h8⟩ := oD h5
  obtain ⟨s2, r5, rfl, h11⟩ := oD h8
  obtain ⟨rfl, h12⟩ := cN h11
  exact join_round2 (L := lofL Lj45r6) hSj45r6 (inlOK _) (all_eq (by kernel_rfl : subsOf (E.info 45).keep (jbody Try.f45 4000006) = [.loop (body Try.f45 11), .loop (body Try.f45 19)]) (all_cons (loopOK_of (mk := 46000011) (sl := [2, 3, 78, 79, 80]) (ss := [([2, 3, 78, 79, 80], lsl45r11)]) (by kernel_rfl) (by kernel_rfl) (all_cons l45r11v all_nil)) (all_cons (loopOK_of (mk := 46000019) (sl := [2, 96, 97, 98]) (ss := [([2, 96, 97, 98], lsl45r19)]) (by kernel_rfl) (by kernel_rfl) (all_cons l45r19v all_nil)) all_nil))) (by kernel_rfl) h12.of
abbrev S45 : wS := [(23, none, sp23)]
theorem hS45 : SpecOK E (ofL S45) := specOK_cons h23 specOK_nil
abbrev L45 : wL := [(46500004, [2, 3, 63], none, lsj45s4), (46400006, [2, 3], none, lsj45r6)]
def sp45 : Sp := fun args τ K => dD w1 args fun x1 r1 => dD w5 r1 fun x2 r2 => asNil r2 <| asNil τ <| c45 x1 x2 (fun z1 => K (I z1) [])
theorem h45 : ∀ args τ K, sp45 args τ K → ACall E 45 args τ K := by
  intro args τ K h0
  obtain ⟨x1, x2, r2, rfl, h4⟩ := cDD h0
  obtain ⟨rfl, rfl, h6⟩ := cM h4
  exact ACall.spec2 (fn := Try.f45) (c := codeOf Try.f45) (L := lofL L45) hS45 (by kernel_rfl) (by kernel_rfl) (inlOK _) (all_eq (by kernel_rfl : subsOf (E.info 45).keep (codeOf Try.f45) = [.join 4000006 (jbody Try.f45 4000006), .join 5000004 (jbody Try.f45 5000004)]) (all_cons (joinOK_of (mk := 46400006) (sl := [2, 3]) (ss := [([2, 3], lsj45r6)]) (by kernel_rfl) (by kernel_rfl) (all_cons j45r6v all_nil)) (all_cons (joinOK_of (mk := 46500004) (sl := [2, 3, 63]) (ss := [([2, 3, 63], lsj45s4)]) (by kernel_rfl) (by kernel_rfl) (all_cons j45s4v all_nil)) all_nil))) (by kernel_rfl) h6.of
abbrev Sl24r3 : wS := [(45, none, sp45)]
theorem hSl24r3 : SpecOK E (ofL Sl24r3) := specOK_cons h45 specOK_nil
abbrev Ll24r3 : wL := [(25000006, [1, 3, 5, 15, 16, 17, 22, 23, 24], none, lsl24r6), (25000014, [1, 3, 5, 15, 16, 17, 40, 41, 42], none, lsl24r14)]
def lsl24r3 : LSp := fun vs σ K => dP (.ptr 0 0 []) vs fun r1 => dP (.vec 1) r1 fun r2 => dD (.sl w0) r2 fun s1 r3 => dD wI r3 fun s2 r4 => dD wI r4 fun s3 r5 => asNil r5 <| dO w1 w1 σ fun s4 r6 => dR wI false r6 fun s5 r8 => asNil r8 <| l24r3 (fun z1 => K .ret [(2, I z1)] []) (K (.exit 0) [(2, .undef)] []) s1 s2 s3 s4 s5
theorem l24r3v : LoopV E wF (E.info 24).keep 0 Try.f24.ntmps 25000003 (body Try.f24 3) ([1, 3, 15, 16, 17], lsl24r3) := by
  intro vs σ K h0
  obtain ⟨s1, s2, r4, rfl, h8⟩ := cPPDD h0
  obtain ⟨s3, r5, rfl, h10⟩ := cD h8
  obtain ⟨rfl, h11⟩ := cN h10
  obtain ⟨s4, r6, rfl, h14⟩ := oD h11
  obtain ⟨s5, r8, rfl, h16⟩ := cR h14
  obtain ⟨rfl, h17⟩ := cN h16
  intro J hJ
  have hp : wH 24 Try.f24 (body Try.f24 3) Ll24r3 := all_eq (by kernel_rfl : subsOf (E.info 24).keep (body Try.f24 3) = [.loop (body Try.f24 6), .loop (body Try.f24 14)]) (all_cons (loopOK_of (mk := 25000006) (sl := [1, 3, 5, 15, 16, 17, 22, 23, 24]) (ss := [([1, 3, 5, 15, 16, 17, 22, 23, 24], lsl24r6)]) (by kernel_rfl) (by kernel_rfl) (all_cons l24r6v all_nil)) (all_cons (loopOK_of (mk := 25000014) (sl := [1, 3, 5, 15, 16, 17, 40, 41, 42]) (ss := [([1, 3, 5, 15, 16, 17, 40, 41, 42], lsl24r14)]) (by kernel_rfl) (by kernel_rfl) (all_cons l24r14v all_nil)) all_nil))
  exact h17.of (fun s1 s2 s3 s4 s5 => J [(25000003, .undef), (1, .ptr 0 0 []), (3, .vec 1), (15, .d (.sl w0) s1), (16, I s2), (17, I s3)] [.one w1 (.d w1 s4), .row wI s5 false]) (fun s1 s2 s3 s4 s5 hb => loop_round2 hSl24r3 (inlOK _) hp hJ (by kernel_rfl) hb)
abbrev L24 : wL := [(25000003, [1, 3, 15, 16, 17], none, lsl24r3)]
def sp24 : Sp := fun args τ K => dD w1 args fun x1 r1 => asNil r1 <| asNil τ <| c24 x1 (fun z1 => K (I z1) [])
theorem h24 : ∀ args τ K, sp24 args τ K → ACall E 24 args τ K := by
  intro args τ K h0
  obtain ⟨x1, r1, rfl, h2⟩ := cD h0
  obtain ⟨rfl, rfl, h4⟩ := cM h2
  exact ACall.spec2 (fn := Try.f24) (c := codeOf Try.f24) (L := lofL L24) nS (by kernel_rfl) (by kernel_rfl) (inlOK _) (all_eq (by kernel_rfl : subsOf (E.info 24).keep (codeOf Try.f24) = [.loop (body Try.f24 3)]) (all_cons (loopOK_of (mk := 25000003) (sl := [1, 3, 15, 16, 17]) (ss := [([1, 3, 15, 16, 17], lsl24r3)]) (by kernel_rfl) (by kernel_rfl) (all_cons l24r3v all_nil)) all_nil)) (by kernel_rfl) h4.of
abbrev Sl25r11 : wS := [(23, none, sp23)]
theorem hSl25r11 : SpecOK E (ofL Sl25r11) := specOK_cons h23 specOK_nil
def lsl25r11 : LSp := fun vs σ K => dD wI vs fun s1 r1 => dP (.ptr 0 0 []) r1 fun r2 => dP (.vec 1) r2 fun r3 => dD wI r3 fun s2 r4 => dD wI r4 fun s3 r5 => dD wI r5 fun s4 r6 => dD (.sl w0) r6 fun s5 r7 => dD wI r7 fun s6 r8 => dD wI r8 fun s7 r9 => dD (.sl w3) r9 fun s8 r10 => dD wI r10 fun s9 r11 => dD wI r11 fun s10 r12 => asNil r12 <| dO w1 w1 σ fun s11 r13 => dR .bool false r13 fun s12 r15 => asNil r15 <| l25r11 (fun z1 z2 z3 z4 z5 z6 z7 z8 => K (.exit 4) [(1, I z1), (2, .ptr 0 0 []), (5, .vec 1), (27, I z2), (28, I z3), (31, .d (.sl w0) z4), (32, I z5), (33, I z6)] [.one w1 (.d w1 z7), .row .bool z8 false]) s1 s2 s3 s4 s5 s6 s7 s8 s9 s10 s11 s12
theorem l25r11v : LoopV E wF (E.info 25).keep 0 Try.f25.ntmps 26000011 (body Try.f25 11) ([1, 2, 5, 6, 27, 28, 31, 32, 33, 40, 41, 42], lsl25r11) := by
  intro vs σ K h0
  obtain ⟨s1, s2, r4, rfl, h8⟩ := cDPPD h0
  obtain ⟨s3, s4, s5, s6, r8, rfl, h16⟩ := cDDDD h8
  obtain ⟨s7, s8, s9, s10, r12, rfl, h24⟩ := cDDDD h16
  obtain ⟨rfl, h25⟩ := cN h24
  obtain ⟨s11, r13, rfl, h28⟩ := oD h25
  obtain ⟨s12, r15, rfl, h30⟩ := cR h28
  obtain ⟨rfl, h31⟩ := cN h30
  intro J hJ
  have hp : wH 25 Try.f25 (body Try.f25 11) nL := all_eq (by kernel_rfl) all_nil
  exact h31.of (fun s1 s2 s3 s4 s5 s6 s7 s8 s9 s10 s11 s12 => J [(26000011, .undef), (1, I s1), (2, .ptr 0 0 []), (5, .vec 1), (6, I s2), (27, I s3), (28, I s4), (31, .d (.sl w0) s5), (32, I s6), (33, I s7), (40, .d (.sl w3) s8), (41, I s9), (42, I s10)] [.one w1 (.d w1 s11), .row .bool s12 false]) (fun s1 s2 s3 s4 s5 s6 s7 s8 s9 s10 s11 s12 hb => loop_round2 hSl25r11 (inlOK _) hp hJ (by kernel_rfl) hb)
abbrev Ll25r8 : wL := [(26000011, [1, 2, 5, 6, 27, 28, 31, 32, 33, 40, 41, 42], none, lsl25r11)]
def lsl25r8 : LSp := fun vs σ K => dD wI vs fun s1 r1 => dP (.ptr 0 0 []) r1 fun r2 => dP (.vec 1) r2 fun r3 => dD wI r3 fun s2 r4 => dD wI r4 fun s3 r5 => dD (.sl w0) r5 fun s4 r6 => dD wI r6 fun s5 r7 => dD wI r7 fun s6 r8 => asNil r8 <| dO w1 w1 σ fun s7 r9 => dR .bool false r9 fun s8 r11 => asNil r11 <| l25r8 (fun z1 z2 z3 z4 z5 => K (.exit 2) [(1, I z1), (2, .ptr 0 0 []), (5, .vec 1), (27, I z2), (28, I z3)] [.one w1 (.d w1 z4), .row .bool z5 false]) s1 s2 s3 s4 s5 s6 s7 s8
theorem l25r8v : LoopV E wF (E.info 25).keep 0 Try.f25.ntmps 26000008 (body Try.f25 8) ([1, 2, 5, 27, 28, 31, 32, 33], lsl25r8) := by
  intro vs σ K h0
  obtain ⟨s1, s2, r4, rfl, h8⟩ := cDPPD h0
  obtain ⟨s3, s4, s5, s6, r8, rfl, h16⟩ := cDDDD h8
  obtain ⟨rfl, h17⟩ := cN h16
  obtain ⟨s7, r9, rfl, h20⟩ := oD h17
  obtain ⟨s8, r11, rfl, h22⟩ := cR h20
  obtain ⟨rfl, h23⟩ := cN h22
  intro J hJ
  have hp : wH 25 Try.f25 (body Try.f25 8) Ll25r8 := all_eq (by kernel_rfl : subsOf (E.info 25).keep (body Try.f25 8) = [.loop (body Try.f25 11)]) (all_cons (loopOK_of (mk := 26000011) (sl := [1, 2, 5, 6, 27, 28, 31, 32, 33, 40, 41, 42]) (ss := [([1, 2, 5, 6, 27, 28, 31, 32, 33, 40, 41, 42], lsl25r11)]) (by kernel_rfl) (by kernel_rfl) (all_cons l25r11v all_nil)) all_nil)
  exact h23.of (fun s1 s2 s3 s4 s5 s6 s7 s8 => J [(26000008, .undef), (1, I s1), (2, .ptr 0 0 []), (5, .vec 1), (27, I s2), (28, I s3), (31, .d (.sl w0) s4), (32, I s5), (33, I s6)] [.one w1 (.d w1 s7), .row .bool s8 false]) (fun s1 s2 s3 s4 s5 s6 s7 s8 hb => loop_round2 nS (inlOK _) hp hJ (by kernel_rfl) hb)
abbrev Ll25r6 : wL := [(26000008, [1, 2, 5, 27, 28, 31, 32, 33], none, lsl25r8)]
def lsl25r6 : LSp := fun vs σ K => dD wI vs fun s1 r1 => dP (.ptr 0 0 []) r1 fun r2 => dP (.vec 1) r2 fun r3 => dD wI r3 fun s2 r4 => dD wI r4 fun s3 r5 => asNil r5 <| dO w1 w1 σ fun s4 r6 => dR .bool false r6 fun s5 r8 => asNil r8 <| l25r6 (fun z1 => K (.exit 0) [(5, .vec 0)] [.row .bool z1 false]) s1 s2 s3 s4 s5
theorem l25r6v : LoopV E wF (E.info 25).keep 0 Try.f25.ntmps 26000006 (body Try.f25 6) ([1, 2, 5, 27, 28], lsl25r6) := by
  intro vs σ K h0
  obtain ⟨s1, s2, r4, rfl, h8⟩ := cDPPD h0
  obtain ⟨s3, r5, rfl, h10⟩ := cD h8
  obtain ⟨rfl, h11⟩ := cN h10
  obtain ⟨s4, r6, rfl, h14⟩ := oD h11
  obtain ⟨s5, r8, rfl, h16⟩ := cR h14
  obtain ⟨rfl, h17⟩ := cN h16
  intro J hJ
  have hp : wH 25 Try.f25 (body Try.f25 6) Ll25r6 := all_eq (by kernel_rfl : subsOf (E.info 25).keep (body Try.f25 6) = [.loop (body Try.f25 8)]) (all_cons (loopOK_of (mk := 26000008) (sl := [1, 2, 5, 27, 28, 31, 32, 33]) (ss := [([1, 2, 5, 27, 28, 31, 32, 33], lsl25r8)]) (by kernel_rfl) (by kernel_rfl) (all_cons l25r8v all_nil)) all_nil)
  exact h17.of (fun s1 s2 s3 s4 s5 => J [(26000006, .undef), (1, I s1), (2, .ptr 0 0 []), (5, .vec 1), (27, I s2), (28, I s3)] [.one w1 (.d w1 s4), .row .bool s5 false]) (fun s1 s2 s3 s4 s5 hb => loop_round2 nS (inlOK _) hp hJ (by kernel_rfl) hb)
abbrev L25 : wL := [(26000006, [1, 2, 5, 27, 28], none, lsl25r6)]
def sp25 : Sp := fun args τ K => dD w1 args fun x1 r1 => dD wI r1 fun x2 r2 => asNil r2 <| asNil τ <| c25 x1 x2 (fun z1 => K (.vec 0) [.row .bool z1 false])
theorem h25 : ∀ args τ K, sp25 args τ K → ACall E 25 args τ K := by
  intro args τ K h0
  obtain ⟨x1, x2, r2, rfl, h4⟩ := cDD h0
  obtain ⟨rfl, rfl, h6⟩ := cM h4
  exact ACall.spec2 (fn := Try.f25) (c := codeOf Try.f25) (L := lofL L25) nS (by kernel_rfl) (by kernel_rfl) (inlOK _) (all_eq (by kernel_rfl : subsOf (E.info 25).keep (codeOf Try.f25) = [.loop (body Try.f25 6)]) (all_cons (loopOK_of (mk := 26000006) (sl := [1, 2, 5, 27, 28]) (ss := [([1, 2, 5, 27, 28], lsl25r6)]) (by kernel_rfl) (by kernel_rfl) (all_cons l25r6v all_nil)) all_nil)) (by kernel_rfl) h6.of
def lsl26r6 : LSp := fun vs σ K => dD wI vs fun s1 r1 => dD wI r1 fun s2 r2 => dD wI r2 fun s3 r3 => dD (.sl .bool) r3 fun s4 r4 => dP (.ptr 0 0 []) r4 fun r5 => dD wI r5 fun s5 r6 => dD .bool r6 fun s6 r7 => dD (.sl w0) r7 fun s7 r8 => dD wI r8 fun s8 r9 => dD wI r9 fun s9 r10 => dD (.sl (.pair wI (.pair wI w3))) r10 fun s10 r11 => dD wI r11 fun s11 r12 => dD wI r12 fun s12 r13 => asNil r13 <| dO w1 w1 σ fun s13 r14 => asNil r14 <| l26r6 (fun z1 z2 z3 z4 z5 z6 z7 z8 z9 z10 => K (.exit 2) [(1, I z1), (2, I z2), (3, I z3), (4, .d (.sl .bool) z4), (5, .ptr 0 0 []), (11, I z5), (13, B z6), (17, .d (.sl w0) z7), (18, I z8), (19, I z9)] [.one w1 (.d w1 z10)]) s1 s2 s3 s4 s5 s6 s7 s8 s9 s10 s11 s12 s13
theorem l26r6v : LoopV E wF (E.info 26).keep 0 Try.f26.ntmps 27000006 (body Try.f26 6) ([1, 2, 3, 4, 5, 11, 13, 17, 18, 19, 29, 30, 31], lsl26r6) := by
  intro vs σ K h0
  obtain ⟨s1, s2, s3, s4, r4, rfl, h8⟩ := cDDDD h0
  obtain ⟨s5, s6, s7, r8, rfl, h16⟩ := cPDDD h8
  obtain ⟨s8, s9, s10, s11, r12, rfl, h24⟩ := cDDDD h16
  obtain ⟨s12, r13, rfl, h26⟩ := cD h24
  obtain ⟨rfl, h27⟩ := cN h26
  obtain ⟨s13, r14, rfl, h30⟩ := oD h27
  obtain ⟨rfl, h31⟩ := cN h30
  intro J hJ
  have hp : wH 26 Try.f26 (body Try.f26 6) nL := all_eq (by kernel_rfl) all_nil
  exact h31.of (fun s1 s2 s3 s4 s5 s6 s7 s8 s9 s10 s11 s12 s13 => J [(27000006, .undef), (1, I s1), (2, I s2), (3, I s3), (4, .d (.sl .bool) s4), (5, .ptr 0 0 []), (11, I s5), (13, B s6), (17, .d (.sl w0) s7), (18, I s8), (19, I s9), (29, .d (.sl (.pair wI (.pair wI w3))) s10), (30, I s11), (31, I s12)] [.one w1 (.d w1 s13)]) (fun s1 s2 s3 s4 s5 s6 s7 s8 s9 s10 s11 s12 s13 hb => loop_round2 nS (inlOK _) hp hJ (by kernel_rfl) hb)
abbrev S29 : wS := [(25, none, sp25)]
theorem hS29 : SpecOK E (ofL S29) := specOK_cons h25 specOK_nil
def sp29 : Sp := fun args τ K => dD w1 args fun x1 r1 => dD wI r1 fun x2 r2 => dD wI r2 fun x3 r3 => asNil r3 <| asNil τ <| c29 x1 x2 x3 (fun z1 => K (B z1) [])
theorem h29 : ∀ args τ K, sp29 args τ K → ACall E 29 args τ K := by
  intro args τ K h0
  obtain ⟨x1, x2, x3, r3, rfl, h6⟩ := cDDD h0
  obtain ⟨rfl, rfl, h8⟩ := cM h6
  exact ACall.spec2 (fn := Try.f29) (c := codeOf Try.f29) (L := lofL nL) hS29 (by kernel_rfl) (by kernel_rfl) (inlOK _) (all_eq (by kernel_rfl) all_nil) (by kernel_rfl) h8.of
abbrev Sl26r2 : wS := [(12, none, sp12), (29, none, sp29)]
theorem hSl26r2 : SpecOK E (ofL Sl26r2) := specOK_cons h12 (specOK_cons h29 specOK_nil)
abbrev Ll26r2 : wL := [(27000006, [1, 2, 3, 4, 5, 11, 13, 17, 18, 19, 29, 30, 31], none, lsl26r6)]
def lsl26r2 : LSp := fun vs σ K => dD wI vs fun s1 r1 => dD wI r1 fun s2 r2 => dD wI r2 fun s3 r3 => dD (.sl .bool) r3 fun s4 r4 => dP (.ptr 0 0 []) r4 fun r5 => dD (.sl w0) r5 fun s5 r6 => dD wI r6 fun s6 r7 => dD wI r7 fun s7 r8 => asNil r8 <| dO w1 w1 σ fun s8 r9 => asNil r9 <| l26r2 (fun z1 => K .ret [(10, B z1)] []) (K (.exit 0) [(10, .undef)] []) s1 s2 s3 s4 s5 s6 s7 s8
theorem l26r2v : LoopV E wF (E.info 26).keep 0 Try.f26.ntmps 27000002 (body Try.f26 2) ([1, 2, 3, 4, 5, 17, 18, 19], lsl26r2) := by
  intro vs σ K h0
  obtain ⟨s1, s2, s3, s4, r4, rfl, h8⟩ := cDDDD h0
  obtain ⟨s5, s6, s7, r8, rfl, h16⟩ := cPDDD h8
  obtain ⟨rfl, h17⟩ := cN h16
  obtain ⟨s8, r9, rfl, h20⟩ := oD h17
  obtain ⟨rfl, h21⟩ := cN h20
  intro J hJ
  have hp : wH 26 Try.f26 (body Try.f26 2) Ll26r2 := all_eq (by kernel_rfl : subsOf (E.info 26).keep (body Try.f26 2) = [.loop (body Try.f26 6)]) (all_cons (loopOK_of (mk := 27000006) (sl := [1, 2, 3, 4, 5, 11, 13, 17, 18, 19, 29, 30, 31]) (ss := [([1, 2, 3, 4, 5, 11, 13, 17, 18, 19, 29, 30, 31], lsl26r6)]) (by kernel_rfl) (by kernel_rfl) (all_cons l26r6v all_nil)) all_nil)
  exact h21.of (fun s1 s2 s3 s4 s5 s6 s7 s8 => J [(27000002, .undef), (1, I s1), (2, I s2), (3, I s3), (4, .d (.sl .bool) s4), (5, .ptr 0 0 []), (17, .d (.sl w0) s5), (18, I s6), (19, I s7)] [.one w1 (.d w1 s8)]) (fun s1 s2 s3 s4 s5 s6 s7 s8 hb => loop_round2 hSl26r2 (inlOK _) hp hJ (by kernel_rfl) hb)
abbrev L26 : wL := [(27000002, [1, 2, 3, 4, 5, 17, 18, 19], none, lsl26r2)]
def sp26 : Sp := fun args τ K => dD w1 args fun x1 r1 => dD wI r1 fun x2 r2 => dD wI r2 fun x3 r3 => dD wI r3 fun x4 r4 => dD (.sl .bool) r4 fun x5 r5 => asNil r5 <| asNil τ <| c26 x1 x2 x3 x4 x5 (fun z1 => K (B z1) [])
theorem h26 : ∀ args τ K, sp26 args τ K → ACall E 26 args τ K := by
  intro args τ K h0
  obtain ⟨x1, x2, x3, x4, r4, rfl, h8⟩ := cDDDD h0
  obtain ⟨x5, r5, rfl, h10⟩ := cD h8
  obtain ⟨rfl, rfl, h12⟩ := cM h10
  exact ACall.spec2 (fn := Try.f26) (c := codeOf Try.f26) (L := lofL L26) nS (by kernel_rfl) (by kernel_rfl) (inlOK _) (all_eq (by kernel_rfl : subsOf (E.info 26).keep (codeOf Try.f26) = [.loop (body Try.f26 2)]) (all_cons (loopOK_of (mk := 27000002) (sl := [1, 2, 3, 4, 5, 17, 18, 19]) (ss := [([1, 2, 3, 4, 5, 17, 18, 19], lsl26r2)]) (by kernel_rfl) (by kernel_rfl) (all_cons l26r2v all_nil)) all_nil)) (by kernel_rfl) h12.of
abbrev Sl8r24 : wS := [(26, none, sp26)]
theorem hSl8r24 : SpecOK E (ofL Sl8r24) := specOK_cons h26 specOK_nil
def lsl8r24 : LSp := fun vs σ K => dP (.ptr 0 0 []) vs fun r1 => dP (.vec 1) r1 fun r2 => dD wI r2 fun s1 r3 => dP (.ptr 2 0 []) r3 fun r4 => dD wI r4 fun s2 r5 => dD (.sl w0) r5 fun s3 r6 => dD wI r6 fun s4 r7 => dD wI r7 fun s5 r8 => dD (.sl (.pair wI (.pair wI w3))) r8 fun s6 r9 => dD wI r9 fun s7 r10 => dD wI r10 fun s8 r11 => dD w6 r11 fun s9 r12 => dD wI r12 fun s10 r13 => dD wI r13 fun s11 r14 => asNil r14 <| dO w1 w1 σ fun s12 r15 => dR .bool false r15 fun s13 r17 => dO w0 w0 r17 fun s14 r18 => asNil r18 <| l8r24 (fun z1 => K .ret [(1, .undef), (2, I z1), (7, .undef), (8, .undef), (9, .undef), (62, .undef), (63, .undef), (64, .undef), (70, .undef), (71, .undef), (72, .undef)] []) (fun z1 z2 z3 z4 z5 z6 z7 z8 z9 z10 => K (.exit 6) [(1, .ptr 0 0 []), (2, .undef), (7, .vec 1), (8, I z1), (9, .ptr 2 0 []), (62, .d (.sl w0) z2), (63, I z3), (64, I z4), (70, .d (.sl (.pair wI (.pair wI w3))) z5), (71, I z6), (72, I z7)] [.one w1 (.d w1 z8), .row .bool z9 false, .one w0 (.d w0 z10)]) s1 s2 s3 s4 s5 s6 s7 s8 s9 s10 s11 s12 s13 s14
theorem l8r24v : LoopV E wF (E.info 8).keep 0 Try.f8.ntmps 9000024 (body Try.f8 24) ([1, 7, 8, 9, 10, 62, 63, 64, 70, 71, 72, 78, 79, 80], lsl8r24) := by
  intro vs σ K h0
  obtain ⟨s1, r4, rfl, h8⟩ := cPPDP h0
  obtain ⟨s2, s3, s4, s5, r8, rfl, h16⟩ := cDDDD h8
  obtain ⟨s6, s7, s8, s9, r12, rfl, h24⟩ := cDDDD h16
  obtain ⟨s10, s11, r14, rfl, h28⟩ := cDD h24
  obtain ⟨rfl, h29⟩ := cN h28
  obtain ⟨s12, r15, rfl, h32⟩ := oD h29
  obtain ⟨s13, r17, rfl, h34⟩ := cR h32
  obtain ⟨s14, r18, rfl, h37⟩ := oD h34
  obtain ⟨rfl, h38⟩ := cN h37
  intro J hJ
  have hp : wH 8 Try.f8 (body Try.f8 24) nL := all_eq (by kernel_rfl) all_nil
  exact h38.of (fun s1 s2 s3 s4 s5 s6 s7 s8 s9 s10 s11 s12 s13 s14 => J [(9000024, .undef), (1, .ptr 0 0 []), (7, .vec 1), (8, I s1), (9, .ptr 2 0 []), (10, I s2), (62, .d (.sl w0) s3), (63, I s4), (64, I s5), (70, .d (.sl (.pair wI (.pair wI w3))) s6), (71, I s7), (72, I s8), (78, .d w6 s9), (79, I s10), (80, I s11)] [.one w1 (.d w1 s12), .row .bool s13 false, .one w0 (.d w0 s14)]) (fun s1 s2 s3 s4 s5 s6 s7 s8 s9 s10 s11 s12 s13 s14 hb => loop_round2 hSl8r24 (inlOK _) hp hJ (by kernel_rfl) hb)
abbrev Ll8r21 : wL := [(9000024, [1, 7, 8, 9, 10, 62, 63, 64, 70, 71, 72, 78, 79, 80], none, lsl8r24)]
def lsl8r21 : LSp := fun vs σ K => dP (.ptr 0 0 []) vs fun r1 => dP (.vec 1) r1 fun r2 => dD wI r2 fun s1 r3 => dP (.ptr 2 0 []) r3 fun r4 => dD (.sl w0) r4 fun s2 r5 => dD wI r5 fun s3 r6 => dD wI r6 fun s4 r7 => dD (.sl (.pair wI (.pair wI w3))) r7 fun s5 r8 => dD wI r8 fun s6 r9 => dD wI r9 fun s7 r10 => asNil r10 <| dO w1 w1 σ fun s8 r11 => dR .bool false r11 fun s9 r13 => dO w0 w0 r13 fun s10 r14 => asNil r14 <| l8r21 (fun z1 => K .ret [(1, .undef), (2, I z1), (7, .undef), (8, .undef), (9, .undef), (62, .undef), (63, .undef), (64, .undef)] []) (fun z1 z2 z3 z4 z5 z6 z7 => K (.exit 4) [(1, .ptr 0 0 []), (2, .undef), (7, .vec 1), (8, I z1), (9, .ptr 2 0 []), (62, .d (.sl w0) z2), (63, I z3), (64, I z4)] [.one w1 (.d w1 z5), .row .bool z6 false, .one w0 (.d w0 z7)]) s1 s2 s3 s4 s5 s6 s7 s8 s9 s10
theorem l8r21v : LoopV E wF (E.info 8).keep 0 Try.f8.ntmps 9000021 (body Try.f8 21) ([1, 7, 8, 9, 62, 63, 64, 70, 71, 72], lsl8r21) := by
  intro vs σ K h0
  obtain ⟨s1, r4, rfl, h8⟩ := cPPDP h0
  obtain ⟨s2, s3, s4, s5, r8, rfl, h16⟩ := cDDDD h8
  obtain ⟨s6, s7, r10, rfl, h20⟩ := cDD h16
  obtain ⟨rfl, h21⟩ := cN h20
  obtain ⟨s8, r11, rfl, h24⟩ := oD h21
  obtain ⟨s9, r13, rfl, h26⟩ := cR h24
  obtain ⟨s10, r14, rfl, h29⟩ := oD h26
  obtain ⟨rfl, h30⟩ := cN h29
  intro J hJ
  have hp : wH 8 Try.f8 (body Try.f8 21) Ll8r21 := all_eq (by kernel_rfl : subsOf (E.info 8).keep (body Try.f8 21) = [.loop (body Try.f8 24)]) (all_cons (loopOK_of (mk := 9000024) (sl := [1, 7, 8, 9, 10, 62, 63, 64, 70, 71, 72, 78, 79, 80]) (ss := [([1, 7, 8, 9, 10, 62, 63, 64, 70, 71, 72, 78, 79, 80], lsl8r24)]) (by kernel_rfl) (by kernel_rfl) (all_cons l8r24v all_nil)) all_nil)
  exact h30.of (fun s1 s2 s3 s4 s5 s6 s7 s8 s9 s10 => J [(9000021, .undef), (1, .ptr 0 0 []), (7, .vec 1), (8, I s1), (9, .ptr 2 0 []), (62, .d (.sl w0) s2), (63, I s3), (64, I s4), (70, .d (.sl (.pair wI (.pair wI w3))) s5), (71, I s6), (72, I s7)] [.one w1 (.d w1 s8), .row .bool s9 false, .one w0 (.d w0 s10)]) (fun s1 s2 s3 s4 s5 s6 s7 s8 s9 s10 hb => loop_round2 nS (inlOK _) hp hJ (by kernel_rfl) hb)
def lsl27r5 : LSp := fun vs σ K => dP (.vec 0) vs fun r1 => dD (.sl w3) r1 fun s1 r2 => dD wI r2 fun s2 r3 => dD wI r3 fun s3 r4 => asNil r4 <| dR wI false σ fun s4 r5 => asNil r5 <| l27r5 (fun z1 => K (.exit 0) [(3, .vec 0)] [.row wI z1 false]) s1 s2 s3 s4
theorem l27r5v : LoopV E wF (E.info 27).keep 0 Try.f27.ntmps 28000005 (body Try.f27 5) ([3, 25, 26, 27], lsl27r5) := by
  intro vs σ K h0
  obtain ⟨s1, s2, s3, r4, rfl, h8⟩ := cPDDD h0
  obtain ⟨rfl, h9⟩ := cN h8
  obtain ⟨s4, r5, rfl, h11⟩ := cR h9
  obtain ⟨rfl, h12⟩ := cN h11
  intro J hJ
  have hp : wH 27 Try.f27 (body Try.f27 5) nL := all_eq (by kernel_rfl) all_nil
  exact h12.of (fun s1 s2 s3 s4 => J [(28000005, .undef), (3, .vec 0), (25, .d (.sl w3) s1), (26, I s2), (27, I s3)] [.row wI s4 false]) (fun s1 s2 s3 s4 hb => loop_round2 nS (inlOK _) hp hJ (by kernel_rfl) hb)
abbrev L27 : wL := [(28000005, [3, 25, 26, 27], none, lsl27r5)]
def sp27 : Sp := fun args τ K => dD w5 args fun x1 r1 => asNil r1 <| asNil τ <| c27 x1 (fun z1 => K (.vec 0) [.row wI z1 false])
theorem h27 : ∀ args τ K, sp27 args τ K → ACall E 27 args τ K := by
  intro args τ K h0
  obtain ⟨x1, r1, rfl, h2⟩ := cD h0
  obtain ⟨rfl, rfl, h4⟩ := cM h2
  exact ACall.spec2 (fn := Try.f27) (c := codeOf Try.f27) (L := lofL L27) nS (by kernel_rfl) (by kernel_rfl) (inlOK _) (all_eq (by kernel_rfl : subsOf (E.info 27).keep (codeOf Try.f27) = [.loop (body Try.f27 5)]) (all_cons (loopOK_of (mk := 28000005) (sl := [3, 25, 26, 27]) (ss := [([3, 25, 26, 27], lsl27r5)]) (by kernel_rfl) (by kernel_rfl) (all_cons l27r5v all_nil)) all_nil)) (by kernel_rfl) h4.of
abbrev Sl8r31 : wS := [(26, none, sp26)]
theorem hSl8r31 : SpecOK E (ofL Sl8r31) := specOK_cons h26 specOK_nil
def lsl8r31 : LSp := fun vs σ K => dP (.ptr 0 0 []) vs fun r1 => dP (.vec 1) r1 fun r2 => dD wI r2 fun s1 r3 => dP (.ptr 2 0 []) r3 fun r4 => dD (.sl w0) r4 fun s2 r5 => dD wI r5 fun s3 r6 => dD wI r6 fun s4 r7 => dP (.vec 3) r7 fun r8 => dD wI r8 fun s5 r9 => dD wI r9 fun s6 r10 => asNil r10 <| dO w1 w1 σ fun s7 r11 => dR .bool false r11 fun s8 r13 => dO w0 w0 r13 fun s9 r14 => dR wI false r14 fun s10 r16 => asNil r16 <| l8r31 (fun z1 => K .ret [(1, .undef), (2, I z1), (7, .undef), (62, .undef), (63, .undef), (64, .undef)] []) (fun z1 z2 z3 z4 z5 => K (.exit 8) [(1, .ptr 0 0 []), (2, .undef), (7, .vec 1), (62, .d (.sl w0) z1), (63, I z2), (64, I z3)] [.one w1 (.d w1 z4), .row .bool z5 false]) s1 s2 s3 s4 s5 s6 s7 s8 s9 s10
theorem l8r31v : LoopV E wF (E.info 8).keep 0 Try.f8.ntmps 9000031 (body Try.f8 31) ([1, 7, 8, 9, 62, 63, 64, 95, 96, 97], lsl8r31) := by
  intro vs σ K h0
  obtain ⟨s1, r4, rfl, h8⟩ := cPPDP h0
  obtain ⟨s2, s3, s4, r8, rfl, h16⟩ := cDDDP h8
  obtain ⟨s5, s6, r10, rfl, h20⟩ := cDD h16
  obtain ⟨rfl, h21⟩ := cN h20
  obtain ⟨s7, r11, rfl, h24⟩ := oD h21
  obtain ⟨s8, r13, rfl, h26⟩ := cR h24
  obtain ⟨s9, r14, rfl, h29⟩ := oD h26
  obtain ⟨s10, r16, rfl, h31⟩ := cR h29
  obtain ⟨rfl, h32⟩ := cN h31
  intro J hJ
  have hp : wH 8 Try.f8 (body Try.f8 31) nL := all_eq (by kernel_rfl) all_nil
  exact h32.of (fun s1 s2 s3 s4 s5 s6 s7 s8 s9 s10 => J [(9000031, .undef), (1, .ptr 0 0 []), (7, .vec 1), (8, I s1), (9, .ptr 2 0 []), (62, .d (.sl w0) s2), (63, I s3), (64, I s4), (95, .vec 3), (96, I s5), (97, I s6)] [.one w1 (.d w1 s7), .row .bool s8 false, .one w0 (.d w0 s9), .row wI s10 false]) (fun s1 s2 s3 s4 s5 s6 s7 s8 s9 s10 hb => loop_round2 hSl8r31 (inlOK _) hp hJ (by kernel_rfl) hb)
abbrev Sl8r18 : wS := [(27, none, sp27)]
theorem hSl8r18 : SpecOK E (ofL Sl8r18) := specOK_cons h27 specOK_nil
abbrev Ll8r18 : wL := [(9000021, [1, 7, 8, 9, 62, 63, 64, 70, 71, 72], none, lsl8r21), (9000031, [1, 7, 8, 9, 62, 63, 64, 95, 96, 97], none, lsl8r31)]
def lsl8r18 : LSp := fun vs σ K => dP (.ptr 0 0 []) vs fun r1 => dP (.vec 1) r1 fun r2 => dD (.sl w0) r2 fun s1 r3 => dD wI r3 fun s2 r4 => dD wI r4 fun s3 r5 => asNil r5 <| dO w1 w1 σ fun s4 r6 => dR .bool false r6 fun s5 r8 => asNil r8 <| l8r18 (fun z1 => K .ret [(2, I z1)] []) (K (.exit 2) [(2, .undef)] []) s1 s2 s3 s4 s5
theorem l8r18v : LoopV E wF (E.info 8).keep 0 Try.f8.ntmps 9000018 (body Try.f8 18) ([1, 7, 62, 63, 64], lsl8r18) := by
  intro vs σ K h0
  obtain ⟨s1, s2, r4, rfl, h8⟩ := cPPDD h0
  obtain ⟨s3, r5, rfl, h10⟩ := cD h8
  obtain ⟨rfl, h11⟩ := cN h10
  obtain ⟨s4, r6, rfl, h14⟩ := oD h11
  obtain ⟨s5, r8, rfl, h16⟩ := cR h14
  obtain ⟨rfl, h17⟩ := cN h16
  intro J hJ
  have hp : wH 8 Try.f8 (body Try.f8 18) Ll8r18 := all_eq (by kernel_rfl : subsOf (E.info 8).keep (body Try.f8 18) = [.loop (body Try.f8 21), .loop (body Try.f8 31)]) (all_cons (loopOK_of (mk := 9000021) (sl := [1, 7, 8, 9, 62, 63, 64, 70, 71, 72]) (ss := [([1, 7, 8, 9, 62, 63, 64, 70, 71, 72], lsl8r21)]) (by kernel_rfl) (by kernel_rfl) (all_cons l8r21v all_nil)) (all_cons (loopOK_of (mk := 9000031) (sl := [1, 7, 8, 9, 62, 63, 64, 95, 96, 97]) (ss := [([1, 7, 8, 9, 62, 63, 64, 95, 96, 97], lsl8r31)]) (by kernel_rfl) (by kernel_rfl) (all_cons l8r31v all_nil)) all_nil))
  exact h17.of (fun s1 s2 s3 s4 s5 => J [(9000018, .undef), (1, .ptr 0 0 []), (7, .vec 1), (62, .d (.sl w0) s1), (63, I s2), (64, I s3)] [.one w1 (.d w1 s4), .row .bool s5 false]) (fun s1 s2 s3 s4 s5 hb => loop_round2 hSl8r18 (inlOK _) hp hJ (by kernel_rfl) hb)
abbrev S8 : wS := [(23, none, sp23), (24, none, sp24), (25, none, sp25)]
theorem hS8 : SpecOK E (ofL S8) := specOK_cons h23 (specOK_cons h24 (specOK_cons h25 specOK_nil))
abbrev L8 : wL := [(9000003, [1, 3, 17, 18, 19], none, lsl8r3), (9000018, [1, 7, 62, 63, 64], none, lsl8r18)]
def sp8 : Sp := fun args τ K => dD w1 args fun x1 r1 => asNil r1 <| asNil τ <| c8 x1 (fun z1 => K (I z1) [])
theorem h8 : ∀ args τ K, sp8 args τ K → ACall E 8 args τ K := by
  intro args τ K h0
  obtain ⟨x1, r1, rfl, h2⟩ := cD h0
  obtain ⟨rfl, rfl, h4⟩ := cM h2
  exact ACall.spec2 (fn := Try.f8) (c := codeOf Try.f8) (L := lofL L8) hS8 (by kernel_rfl) (by kernel_rfl) (inlOK _) (all_eq (by kernel_rfl : subsOf (E.info 8).keep (codeOf Try.f8) = [.loop (body Try.f8 3), .loop (body Try.f8 18)]) (all_cons (loopOK_of (mk := 9000003) (sl := [1, 3, 17, 18, 19]) (ss := [([1, 3, 17, 18, 19], lsl8r3)]) (by kernel_rfl) (by kernel_rfl) (all_cons l8r3v all_nil)) (all_cons (loopOK_of (mk := 9000018) (sl := [1, 7, 62, 63, 64]) (ss := [([1, 7, 62, 63, 64], lsl8r18)]) (by kernel_rfl) (by kernel_rfl) (all_cons l8r18v all_nil)) all_nil))) (by kernel_rfl) h4.of
def lsl28r6 : LSp := fun vs σ K => dD wI vs fun s1 r1 => dP (.vec 0) r1 fun r2 => dD wI r2 fun s2 r3 => dD (.sl w0) r3 fun s3 r4 => dD wI r4 fun s4 r5 => dD wI r5 fun s5 r6 => dD (.sl w3) r6 fun s6 r7 => dD wI r7 fun s7 r8 => dD wI r8 fun s8 r9 => asNil r9 <| dR wI false σ fun s9 r10 => asNil r10 <| l28r6 (fun z1 z2 z3 z4 z5 => K (.exit 2) [(1, I z1), (5, .vec 0), (11, .d (.sl w0) z2), (12, I z3), (13, I z4)] [.row wI z5 false]) s1 s2 s3 s4 s5 s6 s7 s8 s9
theorem l28r6v : LoopV E wF (E.info 28).keep 0 Try.f28.ntmps 29000006 (body Try.f28 6) ([1, 5, 6, 11, 12, 13, 20, 21, 22], lsl28r6) := by
  intro vs σ K h0
  obtain ⟨s1, s2, s3, r4, rfl, h8⟩ := cDPDD h0
  obtain ⟨s4, s5, s6, s7, r8, rfl, h16⟩ := cDDDD h8
  obtain ⟨s8, r9, rfl, h18⟩ := cD h16
  obtain ⟨rfl, h19⟩ := cN h18
  obtain ⟨s9, r10, rfl, h21⟩ := cR h19
  obtain ⟨rfl, h22⟩ := cN h21
  intro J hJ
  have hp : wH 28 Try.f28 (body Try.f28 6) nL := all_eq (by kernel_rfl) all_nil
  exact h22.of (fun s1 s2 s3 s4 s5 s6 s7 s8 s9 => J [(29000006, .undef), (1, I s1), (5, .vec 0), (6, I s2), (11, .d (.sl w0) s3), (12, I s4), (13, I s5), (20, .d (.sl w3) s6), (21, I s7), (22, I s8)] [.row wI s9 false]) (fun s1 s2 s3 s4 s5 s6 s7 s8 s9 hb => loop_round2 nS (inlOK _) hp hJ (by kernel_rfl) hb)
abbrev Ll28r3 : wL := [(29000006, [1, 5, 6, 11, 12, 13, 20, 21, 22], none, lsl28r6)]
def lsl28r3 : LSp := fun vs σ K => dD wI vs fun s1 r1 => dP (.vec 0) r1 fun r2 => dD (.sl w0) r2 fun s2 r3 => dD wI r3 fun s3 r4 => dD wI r4 fun s4 r5 => asNil r5 <| dR wI false σ fun s5 r6 => asNil r6 <| l28r3 (fun z1 => K (.exit 0) [(5, .vec 0)] [.row wI z1 false]) s1 s2 s3 s4 s5
theorem l28r3v : LoopV E wF (E.info 28).keep 0 Try.f28.ntmps 29000003 (body Try.f28 3) ([1, 5, 11, 12, 13], lsl28r3) := by
  intro vs σ K h0
  obtain ⟨s1, s2, s3, r4, rfl, h8⟩ := cDPDD h0
  obtain ⟨s4, r5, rfl, h10⟩ := cD h8
  obtain ⟨rfl, h11⟩ := cN h10
  obtain ⟨s5, r6, rfl, h13⟩ := cR h11
  obtain ⟨rfl, h14⟩ := cN h13
  intro J hJ
  have hp : wH 28 Try.f28 (body Try.f28 3) Ll28r3 := all_eq (by kernel_rfl : subsOf (E.info 28).keep (body Try.f28 3) = [.loop (body Try.f28 6)]) (all_cons (loopOK_of (mk := 29000006) (sl := [1, 5, 6, 11, 12, 13, 20, 21, 22]) (ss := [([1, 5, 6, 11, 12, 13, 20, 21, 22], lsl28r6)]) (by kernel_rfl) (by kernel_rfl) (all_cons l28r6v all_nil)) all_nil)
  exact h14.of (fun s1 s2 s3 s4 s5 => J [(29000003, .undef), (1, I s1), (5, .vec 0), (11, .d (.sl w0) s2), (12, I s3), (13, I s4)] [.row wI s5 false]) (fun s1 s2 s3 s4 s5 hb => loop_round2 nS (inlOK _) hp hJ (by kernel_rfl) hb)
abbrev L28 : wL := [(29000003, [1, 5, 11, 12, 13], none, lsl28r3)]
def sp28 : Sp := fun args τ K => dD w1 args fun x1 r1 => dD wI r1 fun x2 r2 => asNil r2 <| asNil τ <| c28 x1 x2 (fun z1 => K (.vec 0) [.row wI z1 false])
theorem h28 : ∀ args τ K, sp28 args τ K → ACall E 28 args τ K := by
  intro args τ K h0
  obtain ⟨x1, x2, r2, rfl, h4⟩ := cDD h0
  obtain ⟨rfl, rfl, h6⟩ := cM h4
  exact ACall.spec2 (fn := Try.f28) (c := codeOf Try.f28) (L := lofL L28) nS (by kernel_rfl) (by kernel_rfl) (inlOK _) (all_eq (by kernel_rfl : subsOf (E.info 28).keep (codeOf Try.f28) = [.loop (body Try.f28 3)]) (all_cons (loopOK_of (mk := 29000003) (sl := [1, 5, 11, 12, 13]) (ss := [([1, 5, 11, 12, 13], lsl28r3)]) (by kernel_rfl) (by kernel_rfl) (all_cons l28r3v all_nil)) all_nil)) (by kernel_rfl) h6.of
abbrev Sl9r3 : wS := [(29, none, sp29)]
theorem hSl9r3 : SpecOK E (ofL Sl9r3) := specOK_cons h29 specOK_nil
def lsl9r3 : LSp := fun vs σ K => dD wI vs fun s1 r1 => dP (.ptr 0 0 []) r1 fun r2 => dP (.vec 1) r2 fun r3 => dP (.vec 2) r3 fun r4 => dD wI r4 fun s2 r5 => dD wI r5 fun s3 r6 => asNil r6 <| dO w1 w1 σ fun s4 r7 => dR .bool false r7 fun s5 r9 => dR wI false r9 fun s6 r10 => asNil r10 <| l9r3 (fun z1 => K .ret [(4, B z1)] []) (K (.exit 0) [(4, .undef)] []) s1 s2 s3 s4 s5 s6
theorem l9r3v : LoopV E wF (E.info 9).keep 0 Try.f9.ntmps 10000003 (body Try.f9 3) ([1, 2, 5, 12, 13, 14], lsl9r3) := by
  intro vs σ K h0
  obtain ⟨s1, r4, rfl, h8⟩ := cDPPP h0
  obtain ⟨s2, s3, r6, rfl, h12⟩ := cDD h8
  obtain ⟨rfl, h13⟩ := cN h12
  obtain ⟨s4, r7, rfl, h16⟩ := oD h13
  obtain ⟨s5, r9, rfl, h18⟩ := cR h16
  obtain ⟨s6, r10, rfl, h20⟩ := cR h18
  obtain ⟨rfl, h21⟩ := cN h20
  intro J hJ
  have hp : wH 9 Try.f9 (body Try.f9 3) nL := all_eq (by kernel_rfl) all_nil
  exact h21.of (fun s1 s2 s3 s4 s5 s6 => J [(10000003, .undef), (1, I s1), (2, .ptr 0 0 []), (5, .vec 1), (12, .vec 2), (13, I s2), (14, I s3)] [.one w1 (.d w1 s4), .row .bool s5 false, .row wI s6 false]) (fun s1 s2 s3 s4 s5 s6 hb => loop_round2 hSl9r3 (inlOK _) hp hJ (by kernel_rfl) hb)
abbrev S9 : wS := [(25, none, sp25), (28, none, sp28)]
theorem hS9 : SpecOK E (ofL S9) := specOK_cons h25 (specOK_cons h28 specOK_nil)
abbrev L9 : wL := [(10000003, [1, 2, 5, 12, 13, 14], none, lsl9r3)]
def sp9 : Sp := fun args τ K => dD w1 args fun x1 r1 => dD wI r1 fun x2 r2 => asNil r2 <| asNil τ <| c9 x1 x2 (fun z1 => K (B z1) [])
theorem h9 : ∀ args τ K, sp9 args τ K → ACall E 9 args τ K := by
  intro args τ K h0
  obtain ⟨x1, x2, r2, rfl, h4⟩ := cDD h0
  obtain ⟨rfl, rfl, h6⟩ := cM h4
  exact ACall.spec2 (fn := Try.f9) (c := codeOf Try.f9) (L := lofL L9) hS9 (by kernel_rfl) (by kernel_rfl) (inlOK _) (all_eq (by kernel_rfl : subsOf (E.info 9).keep (codeOf Try.f9) = [.loop (body Try.f9 3)]) (all_cons (loopOK_of (mk := 10000003) (sl := [1, 2, 5, 12, 13, 14]) (ss := [([1, 2, 5, 12, 13, 14], lsl9r3)]) (by kernel_rfl) (by kernel_rfl) (all_cons l9r3v all_nil)) all_nil)) (by kernel_rfl) h6.of
abbrev Sl3r13 : wS := [(9, none, sp9)]
theorem hSl3r13 : SpecOK E (ofL Sl3r13) := specOK_cons h9 specOK_nil
def lsl3r13 : LSp := fun vs σ K => dP (.ptr 0 0 []) vs fun r1 => dP (.vec 1) r1 fun r2 => dD wI r2 fun s1 r3 => dP (.vec 2) r3 fun r4 => dD wI r4 fun s2 r5 => dP (.vec 3) r5 fun r6 => dP (.vec 4) r6 fun r7 => dD wI r7 fun s3 r8 => dD wI r8 fun s4 r9 => asNil r9 <| dO w1 w1 σ fun s5 r10 => dR w4 false r10 fun s6 r12 => dR wI false r12 fun s7 r13 => dR wI false r13 fun s8 r14 => dR wI false r14 fun s9 r15 => asNil r15 <| l3r13 (fun z1 z2 z3 z4 z5 z6 z7 => K (.exit 0) [(1, .ptr 0 0 []), (3, .vec 1), (4, I z1), (5, .vec 2), (6, I z2), (8, .vec 3), (9, .vec 4)] [.one w1 (.d w1 z3), .row w4 z4 false, .row wI z5 false, .row wI z6 false, .row wI z7 false]) s1 s2 s3 s4 s5 s6 s7 s8 s9
theorem l3r13v : LoopV E wF (E.info 3).keep 0 Try.f3.ntmps 4000013 (body Try.f3 13) ([1, 3, 4, 5, 6, 8, 9, 61, 62], lsl3r13) := by
  intro vs σ K h0
  obtain ⟨s1, r4, rfl, h8⟩ := cPPDP h0
  obtain ⟨s2, s3, r8, rfl, h16⟩ := cDPPD h8
  obtain ⟨s4, r9, rfl, h18⟩ := cD h16
  obtain ⟨rfl, h19⟩ := cN h18
  obtain ⟨s5, r10, rfl, h22⟩ := oD h19
  obtain ⟨s6, r12, rfl, h24⟩ := cR h22
  obtain ⟨s7, r13, rfl, h26⟩ := cR h24
  obtain ⟨s8, r14, rfl, h28⟩ := cR h26
  obtain ⟨s9, r15, rfl, h30⟩ := cR h28
  obtain ⟨rfl, h31⟩ := cN h30
  intro J hJ
  have hp : wH 3 Try.f3 (body Try.f3 13) nL := all_eq (by kernel_rfl) all_nil
  exact h31.of (fun s1 s2 s3 s4 s5 s6 s7 s8 s9 => J [(4000013, .undef), (1, .ptr 0 0 []), (3, .vec 1), (4, I s1), (5, .vec 2), (6, I s2), (8, .vec 3), (9, .vec 4), (61, I s3), (62, I s4)] [.one w1 (.d w1 s5), .row w4 s6 false, .row wI s7 false, .row wI s8 false, .row wI s9 false]) (fun s1 s2 s3 s4 s5 s6 s7 s8 s9 hb => loop_round2 hSl3r13 (inlOK _) hp hJ (by kernel_rfl) hb)
def lsl10r12 : LSp := fun vs σ K => dD wI vs fun s1 r1 => dP (.ptr 0 0 []) r1 fun r2 => dP (.vec 1) r2 fun r3 => dD wI r3 fun s2 r4 => dD wI r4 fun s3 r5 => dD wI r5 fun s4 r6 => dD (.sl w0) r6 fun s5 r7 => dD wI r7 fun s6 r8 => dD wI r8 fun s7 r9 => dD (.sl w3) r9 fun s8 r10 => dD wI r10 fun s9 r11 => dD wI r11 fun s10 r12 => asNil r12 <| dO w1 w1 σ fun s11 r13 => dR .bool false r13 fun s12 r15 => asNil r15 <| l10r12 (fun z1 z2 z3 z4 z5 z6 z7 z8 => K (.exit 4) [(1, I z1), (3, .ptr 0 0 []), (8, .vec 1), (39, I z2), (40, I z3), (43, .d (.sl w0) z4), (44, I z5), (45, I z6)] [.one w1 (.d w1 z7), .row .bool z8 false]) s1 s2 s3 s4 s5 s6 s7 s8 s9 s10 s11 s12
theorem l10r12v : LoopV E wF (E.info 10).keep 0 Try.f10.ntmps 11000012 (body Try.f10 12) ([1, 3, 8, 9, 39, 40, 43, 44, 45, 52, 53, 54], lsl10r12) := by
  intro vs σ K h0
  obtain ⟨s1, s2, r4, rfl, h8⟩ := cDPPD h0
  obtain ⟨s3, s4, s5, s6, r8, rfl, h16⟩ := cDDDD h8
  obtain ⟨s7, s8, s9, s10, r12, rfl, h24⟩ := cDDDD h16
  obtain ⟨rfl, h25⟩ := cN h24
  obtain ⟨s11, r13, rfl, h28⟩ := oD h25
  obtain ⟨s12, r15, rfl, h30⟩ := cR h28
  obtain ⟨rfl, h31⟩ := cN h30
  intro J hJ
  have hp : wH 10 Try.f10 (body Try.f10 12) nL := all_eq (by kernel_rfl) all_nil
  exact h31.of (fun s1 s2 s3 s4 s5 s6 s7 s8 s9 s10 s11 s12 => J [(11000012, .undef), (1, I s1), (3, .ptr 0 0 []), (8, .vec 1), (9, I s2), (39, I s3), (40, I s4), (43, .d (.sl w0) s5), (44, I s6), (45, I s7), (52, .d (.sl w3) s8), (53, I s9), (54, I s10)] [.one w1 (.d w1 s11), .row .bool s12 false]) (fun s1 s2 s3 s4 s5 s6 s7 s8 s9 s10 s11 s12 hb => loop_round2 nS (inlOK _) hp hJ (by kernel_rfl) hb)
abbrev Ll10r9 : wL := [(11000012, [1, 3, 8, 9, 39, 40, 43, 44, 45, 52, 53, 54], none, lsl10r12)]
def lsl10r9 : LSp := fun vs σ K => dD wI vs fun s1 r1 => dP (.ptr 0 0 []) r1 fun r2 => dP (.vec 1) r2 fun r3 => dD wI r3 fun s2 r4 => dD wI r4 fun s3 r5 => dD (.sl w0) r5 fun s4 r6 => dD wI r6 fun s5 r7 => dD wI r7 fun s6 r8 => asNil r8 <| dO w1 w1 σ fun s7 r9 => dR .bool false r9 fun s8 r11 => asNil r11 <| l10r9 (fun z1 z2 z3 z4 z5 => K (.exit 2) [(1, I z1), (3, .ptr 0 0 []), (8, .vec 1), (39, I z2), (40, I z3)] [.one w1 (.d w1 z4), .row .bool z5 false]) s1 s2 s3 s4 s5 s6 s7 s8
theorem l10r9v : LoopV E wF (E.info 10).keep 0 Try.f10.ntmps 11000009 (body Try.f10 9) ([1, 3, 8, 39, 40, 43, 44, 45], lsl10r9) := by
  intro vs σ K h0
  obtain ⟨s1, s2, r4, rfl, h8⟩ := cDPPD h0
  obtain ⟨s3, s4, s5, s6, r8, rfl, h16⟩ := cDDDD h8
  obtain ⟨rfl, h17⟩ := cN h16
  obtain ⟨s7, r9, rfl, h20⟩ := oD h17
  obtain ⟨s8, r11, rfl, h22⟩ := cR h20
  obtain ⟨rfl, h23⟩ := cN h22
  intro J hJ
  have hp : wH 10 Try.f10 (body Try.f10 9) Ll10r9 := all_eq (by kernel_rfl : subsOf (E.info 10).keep (body Try.f10 9) = [.loop (body Try.f10 12)]) (all_cons (loopOK_of (mk := 11000012) (sl := [1, 3, 8, 9, 39, 40, 43, 44, 45, 52, 53, 54]) (ss := [([1, 3, 8, 9, 39, 40, 43, 44, 45, 52, 53, 54], lsl10r12)]) (by kernel_rfl) (by kernel_rfl) (all_cons l10r12v all_nil)) all_nil)
  exact h23.of (fun s1 s2 s3 s4 s5 s6 s7 s8 => J [(11000009, .undef), (1, I s1), (3, .ptr 0 0 []), (8, .vec 1), (39, I s2), (40, I s3), (43, .d (.sl w0) s4), (44, I s5), (45, I s6)] [.one w1 (.d w1 s7), .row .bool s8 false]) (fun s1 s2 s3 s4 s5 s6 s7 s8 hb => loop_round2 nS (inlOK _) hp hJ (by kernel_rfl) hb)
abbrev Ll10r7 : wL := [(11000009, [1, 3, 8, 39, 40, 43, 44, 45], none, lsl10r9)]
def lsl10r7 : LSp := fun vs σ K => dD wI vs fun s1 r1 => dP (.ptr 0 0 []) r1 fun r2 => dP (.vec 1) r2 fun r3 => dD wI r3 fun s2 r4 => dD wI r4 fun s3 r5 => asNil r5 <| dO w1 w1 σ fun s4 r6 => dR .bool false r6 fun s5 r8 => asNil r8 <| l10r7 (fun z1 z2 z3 => K (.exit 0) [(1, I z1), (3, .ptr 0 0 []), (8, .vec 1)] [.one w1 (.d w1 z2), .row .bool z3 false]) s1 s2 s3 s4 s5
theorem l10r7v : LoopV E wF (E.info 10).keep 0 Try.f10.ntmps 11000007 (body Try.f10 7) ([1, 3, 8, 39, 40], lsl10r7) := by
  intro vs σ K h0
  obtain ⟨s1, s2, r4, rfl, h8⟩ := cDPPD h0
  obtain ⟨s3, r5, rfl, h10⟩ := cD h8
  obtain ⟨rfl, h11⟩ := cN h10
  obtain ⟨s4, r6, rfl, h14⟩ := oD h11
  obtain ⟨s5, r8, rfl, h16⟩ := cR h14
  obtain ⟨rfl, h17⟩ := cN h16
  intro J hJ
  have hp : wH 10 Try.f10 (body Try.f10 7) Ll10r7 := all_eq (by kernel_rfl : subsOf (E.info 10).keep (body Try.f10 7) = [.loop (body Try.f10 9)]) (all_cons (loopOK_of (mk := 11000009) (sl := [1, 3, 8, 39, 40, 43, 44, 45]) (ss := [([1, 3, 8, 39, 40, 43, 44, 45], lsl10r9)]) (by kernel_rfl) (by kernel_rfl) (all_cons l10r9v all_nil)) all_nil)
  exact h17.of (fun s1 s2 s3 s4 s5 => J [(11000007, .undef), (1, I s1), (3, .ptr 0 0 []), (8, .vec 1), (39, I s2), (40, I s3)] [.one w1 (.d w1 s4), .row .bool s5 false]) (fun s1 s2 s3 s4 s5 hb => loop_round2 nS (inlOK _) hp hJ (by kernel_rfl) hb)
abbrev Sl10r20 : wS := [(29, none, sp29)]
theorem hSl10r20 : SpecOK E (ofL Sl10r20) := specOK_cons h29 specOK_nil
def lsl10r20 : LSp := fun vs σ K => dD wI vs fun s1 r1 => dP (.ptr 0 0 []) r1 fun r2 => dP (.vec 1) r2 fun r3 => dP (.vec 2) r3 fun r4 => dD wI r4 fun s2 r5 => dD wI r5 fun s3 r6 => asNil r6 <| dO w1 w1 σ fun s4 r7 => dR .bool false r7 fun s5 r9 => dR wI false r9 fun s6 r10 => asNil r10 <| l10r20 (fun z1 => K .ret [(6, B z1)] []) (K (.exit 6) [(6, .undef)] []) s1 s2 s3 s4 s5 s6
theorem l10r20v : LoopV E wF (E.info 10).keep 0 Try.f10.ntmps 11000020 (body Try.f10 20) ([1, 3, 8, 77, 78, 79], lsl10r20) := by
  intro vs σ K h0
  obtain ⟨s1, r4, rfl, h8⟩ := cDPPP h0
  obtain ⟨s2, s3, r6, rfl, h12⟩ := cDD h8
  obtain ⟨rfl, h13⟩ := cN h12
  obtain ⟨s4, r7, rfl, h16⟩ := oD h13
  obtain ⟨s5, r9, rfl, h18⟩ := cR h16
  obtain ⟨s6, r10, rfl, h20⟩ := cR h18
  obtain ⟨rfl, h21⟩ := cN h20
  intro J hJ
  have hp : wH 10 Try.f10 (body Try.f10 20) nL := all_eq (by kernel_rfl) all_nil
  exact h21.of (fun s1 s2 s3 s4 s5 s6 => J [(11000020, .undef), (1, I s1), (3, .ptr 0 0 []), (8, .vec 1), (77, .vec 2), (78, I s2), (79, I s3)] [.one w1 (.d w1 s4), .row .bool s5 false, .row wI s6 false]) (fun s1 s2 s3 s4 s5 s6 hb => loop_round2 hSl10r20 (inlOK _) hp hJ (by kernel_rfl) hb)
abbrev S10 : wS := [(25, none, sp25), (28, none, sp28)]
theorem hS10 : SpecOK E (ofL S10) := specOK_cons h25 (specOK_cons h28 specOK_nil)
abbrev L10 : wL := [(11000007, [1, 3, 8, 39, 40], none, lsl10r7), (11000020, [1, 3, 8, 77, 78, 79], none, lsl10r20)]
def sp10 : Sp := fun args τ K => dD w1 args fun x1 r1 => dD wI r1 fun x2 r2 => dD wI r2 fun x3 r3 => asNil r3 <| asNil τ <| c10 x1 x2 x3 (fun z1 => K (B z1) [])
theorem h10 : ∀ args τ K, sp10 args τ K → ACall E 10 args τ K := by
  intro args τ K h0
  obtain ⟨x1, x2, x3, r3, rfl, h6⟩ := cDDD h0
  obtain ⟨rfl, rfl, h8⟩ := cM h6
  exact ACall.spec2 (fn := Try.f10) (c := codeOf Try.f10) (L := lofL L10) hS10 (by kernel_rfl) (by kernel_rfl) (inlOK _) (all_eq (by kernel_rfl : subsOf (E.info 10).keep (codeOf Try.f10) = [.loop (body Try.f10 7), .loop (body Try.f10 20)]) (all_cons (loopOK_of (mk := 11000007) (sl := [1, 3, 8, 39, 40]) (ss := [([1, 3, 8, 39, 40], lsl10r7)]) (by kernel_rfl) (by kernel_rfl) (all_cons l10r7v all_nil)) (all_cons (loopOK_of (mk := 11000020) (sl := [1, 3, 8, 77, 78, 79]) (ss := [([1, 3, 8, 77, 78, 79], lsl10r20)]) (by kernel_rfl) (by kernel_rfl) (all_cons l10r20v all_nil)) all_nil))) (by kernel_rfl) h8.of
abbrev Sl3r25 : wS := [(10, none, sp10)]
theorem hSl3r25 : SpecOK E (ofL Sl3r25) := specOK_cons h10 specOK_nil
def lsl3r25 : LSp := fun vs σ K => dP (.ptr 0 0 []) vs fun r1 => dP (.vec 1) r1 fun r2 => dP (.vec 2) r2 fun r3 => dP (.vec 3) r3 fun r4 => dD wI r4 fun s1 r5 => dD wI r5 fun s2 r6 => dP (.vec 4) r6 fun r7 => dP (.vec 5) r7 fun r8 => dD wI r8 fun s3 r9 => dD wI r9 fun s4 r10 => dD wI r10 fun s5 r11 => dD wI r11 fun s6 r12 => asNil r12 <| dO w1 w1 σ fun s7 r13 => dR w4 false r13 fun s8 r15 => dR wI false r15 fun s9 r16 => dR wI false r16 fun s10 r17 => dR wI false r17 fun s11 r18 => dR wI false r18 fun s12 r19 => asNil r19 <| l3r25 (fun z1 z2 z3 z4 z5 z6 z7 z8 z9 z10 => K (.exit 4) [(1, .ptr 0 0 []), (3, .vec 1), (5, .vec 2), (9, .vec 3), (11, I z1), (12, I z2), (13, .vec 4), (86, .vec 5), (87, I z3), (88, I z4)] [.one w1 (.d w1 z5), .row w4 z6 false, .row wI z7 false, .row wI z8 false, .row wI z9 false, .row wI z10 false]) s1 s2 s3 s4 s5 s6 s7 s8 s9 s10 s11 s12
theorem l3r25v : LoopV E wF (E.info 3).keep 0 Try.f3.ntmps 4000025 (body Try.f3 25) ([1, 3, 5, 9, 11, 12, 13, 86, 87, 88, 95, 96], lsl3r25) := by
  intro vs σ K h0
  obtain ⟨r4, rfl, h8⟩ := cPPPP h0
  obtain ⟨s1, s2, r8, rfl, h16⟩ := cDDPP h8
  obtain ⟨s3, s4, s5, s6, r12, rfl, h24⟩ := cDDDD h16
  obtain ⟨rfl, h25⟩ := cN h24
  obtain ⟨s7, r13, rfl, h28⟩ := oD h25
  obtain ⟨s8, r15, rfl, h30⟩ := cR h28
  obtain ⟨s9, r16, rfl, h32⟩ := cR h30
  obtain ⟨s10, r17, rfl, h34⟩ := cR h32
  obtain ⟨s11, r18, rfl, h36⟩ := cR h34
  obtain ⟨s12, r19, rfl, h38⟩ := cR h36
  obtain ⟨rfl, h39⟩ := cN h38
  intro J hJ
  have hp : wH 3 Try.f3 (body Try.f3 25) nL := all_eq (by kernel_rfl) all_nil
  exact h39.of (fun s1 s2 s3 s4 s5 s6 s7 s8 s9 s10 s11 s12 => J [(4000025, .undef), (1, .ptr 0 0 []), (3, .vec 1), (5, .vec 2), (9, .vec 3), (11, I s1), (12, I s2), (13, .vec 4), (86, .vec 5), (87, I s3), (88, I s4), (95, I s5), (96, I s6)] [.one w1 (.d w1 s7), .row w4 s8 false, .row wI s9 false, .row wI s10 false, .row wI s11 false, .row wI s12 false]) (fun s1 s2 s3 s4 s5 s6 s7 s8 s9 s10 s11 s12 hb => loop_round2 hSl3r25 (inlOK _) hp hJ (by kernel_rfl) hb)
abbrev Sl3r21 : wS := [(11, none, sp11)]
theorem hSl3r21 : SpecOK E (ofL Sl3r21) := specOK_cons h11 specOK_nil
abbrev Ll3r21 : wL := [(4000025, [1, 3, 5, 9, 11, 12, 13, 86, 87, 88, 95, 96], none, lsl3r25)]
def lsl3r21 : LSp := fun vs σ K => dP (.ptr 0 0 []) vs fun r1 => dP (.vec 1) r1 fun r2 => dP (.vec 2) r2 fun r3 => dP (.vec 3) r3 fun r4 => dP (.vec 4) r4 fun r5 => dD wI r5 fun s1 r6 => dD wI r6 fun s2 r7 => asNil r7 <| dO w1 w1 σ fun s3 r8 => dR w4 false r8 fun s4 r10 => dR wI false r10 fun s5 r11 => dR wI false r11 fun s6 r12 => dR wI false r12 fun s7 r13 => asNil r13 <| l3r21 (fun z1 => K .ret [(2, B z1), (3, .undef), (5, .undef), (9, .undef)] []) (fun z1 z2 z3 => K (.exit 2) [(2, .undef), (3, .vec 0), (5, .vec 1), (9, .vec 2)] [.row w4 z1 false, .row wI z2 false, .row wI z3 false]) s1 s2 s3 s4 s5 s6 s7
theorem l3r21v : LoopV E wF (E.info 3).keep 0 Try.f3.ntmps 4000021 (body Try.f3 21) ([1, 3, 5, 9, 86, 87, 88], lsl3r21) := by
  intro vs σ K h0
  obtain ⟨r4, rfl, h8⟩ := cPPPP h0
  obtain ⟨s1, s2, r7, rfl, h14⟩ := cPDD h8
  obtain ⟨rfl, h15⟩ := cN h14
  obtain ⟨s3, r8, rfl, h18⟩ := oD h15
  obtain ⟨s4, r10, rfl, h20⟩ := cR h18
  obtain ⟨s5, r11, rfl, h22⟩ := cR h20
  obtain ⟨s6, r12, rfl, h24⟩ := cR h22
  obtain ⟨s7, r13, rfl, h26⟩ := cR h24
  obtain ⟨rfl, h27⟩ := cN h26
  intro J hJ
  have hp : wH 3 Try.f3 (body Try.f3 21) Ll3r21 := all_eq (by kernel_rfl : subsOf (E.info 3).keep (body Try.f3 21) = [.loop (body Try.f3 25)]) (all_cons (loopOK_of (mk := 4000025) (sl := [1, 3, 5, 9, 11, 12, 13, 86, 87, 88, 95, 96]) (ss := [([1, 3, 5, 9, 11, 12, 13, 86, 87, 88, 95, 96], lsl3r25)]) (by kernel_rfl) (by kernel_rfl) (all_cons l3r25v all_nil)) all_nil)
  exact h27.of (fun s1 s2 s3 s4 s5 s6 s7 => J [(4000021, .undef), (1, .ptr 0 0 []), (3, .vec 1), (5, .vec 2), (9, .vec 3), (86, .vec 4), (87, I s1), (88, I s2)] [.one w1 (.d w1 s3), .row w4 s4 false, .row wI s5 false, .row wI s6 false, .row wI s7 false]) (fun s1 s2 s3 s4 s5 s6 s7 hb => loop_round2 hSl3r21 (inlOK _) hp hJ (by kernel_rfl) hb)
abbrev Sl3r39 : wS := [(12, none, sp12)]
theorem hSl3r39 : SpecOK E (ofL Sl3r39) := specOK_cons h12 specOK_nil
def lsl3r39 : LSp := fun vs σ K => dP (.vec 0) vs fun r1 => dP (.vec 1) r1 fun r2 => dP (.vec 2) r2 fun r3 => dD wI r3 fun s1 r4 => dP (.ptr 3 0 []) r4 fun r5 => dD wI r5 fun s2 r6 => dP (.vec 0) r6 fun r7 => dD wI r7 fun s3 r8 => dD wI r8 fun s4 r9 => dP (.vec 0) r9 fun r10 => dD wI r10 fun s5 r11 => dD wI r11 fun s6 r12 => asNil r12 <| dR w4 false σ fun s7 r13 => dR wI false r13 fun s8 r14 => dR wI false r14 fun s9 r15 => dO w4 w4 r15 fun s10 r16 => asNil r16 <| l3r39 (fun z1 z2 z3 z4 z5 z6 z7 => K (.exit 8) [(3, .vec 0), (5, .vec 1), (9, .vec 2), (16, .ptr 3 0 []), (17, I z1), (132, .vec 0), (133, I z2), (134, I z3)] [.row w4 z4 false, .row wI z5 false, .row wI z6 false, .one w4 (.d w4 z7)]) s1 s2 s3 s4 s5 s6 s7 s8 s9 s10
theorem l3r39v : LoopV E wF (E.info 3).keep 0 Try.f3.ntmps 4000039 (body Try.f3 39) ([3, 5, 9, 15, 16, 17, 132, 133, 134, 139, 140, 141], lsl3r39) := by
  intro vs σ K h0
  obtain ⟨s1, r4, rfl, h8⟩ := cPPPD h0
  obtain ⟨s2, s3, r8, rfl, h16⟩ := cPDPD h8
  obtain ⟨s4, s5, s6, r12, rfl, h24⟩ := cDPDD h16
  obtain ⟨rfl, h25⟩ := cN h24
  obtain ⟨s7, r13, rfl, h27⟩ := cR h25
  obtain ⟨s8, r14, rfl, h29⟩ := cR h27
  obtain ⟨s9, r15, rfl, h31⟩ := cR h29
  obtain ⟨s10, r16, rfl, h34⟩ := oD h31
  obtain ⟨rfl, h35⟩ := cN h34
  intro J hJ
  have hp : wH 3 Try.f3 (body Try.f3 39) nL := all_eq (by kernel_rfl) all_nil
  exact h35.of (fun s1 s2 s3 s4 s5 s6 s7 s8 s9 s10 => J [(4000039, .undef), (3, .vec 0), (5, .vec 1), (9, .vec 2), (15, I s1), (16, .ptr 3 0 []), (17, I s2), (132, .vec 0), (133, I s3), (134, I s4), (139, .vec 0), (140, I s5), (141, I s6)] [.row w4 s7 false, .row wI s8 false, .row wI s9 false, .one w4 (.d w4 s10)]) (fun s1 s2 s3 s4 s5 s6 s7 s8 s9 s10 hb => loop_round2 hSl3r39 (inlOK _) hp hJ (by kernel_rfl) hb)
abbrev Ll3r35 : wL := [(4000039, [3, 5, 9, 15, 16, 17, 132, 133, 134, 139, 140, 141], none, lsl3r39)]
def lsl3r35 : LSp := fun vs σ K => dP (.vec 0) vs fun r1 => dP (.vec 1) r1 fun r2 => dP (.vec 2) r2 fun r3 => dP (.vec 0) r3 fun r4 => dD wI r4 fun s1 r5 => dD wI r5 fun s2 r6 => asNil r6 <| dR w4 false σ fun s3 r7 => dR wI false r7 fun s4 r8 => dR wI false r8 fun s5 r9 => asNil r9 <| l3r35 (fun z1 => K .ret [(2, B z1), (5, .undef), (9, .undef)] []) (fun z1 z2 => K (.exit 6) [(2, .undef), (5, .vec 0), (9, .vec 1)] [.row wI z1 false, .row wI z2 false]) s1 s2 s3 s4 s5
theorem l3r35v : LoopV E wF (E.info 3).keep 0 Try.f3.ntmps 4000035 (body Try.f3 35) ([3, 5, 9, 132, 133, 134], lsl3r35) := by
  intro vs σ K h0
  obtain ⟨r4, rfl, h8⟩ := cPPPP h0
  obtain ⟨s1, s2, r6, rfl, h12⟩ := cDD h8
  obtain ⟨rfl, h13⟩ := cN h12
  obtain ⟨s3, r7, rfl, h15⟩ := cR h13
  obtain ⟨s4, r8, rfl, h17⟩ := cR h15
  obtain ⟨s5, r9, rfl, h19⟩ := cR h17
  obtain ⟨rfl, h20⟩ := cN h19
  intro J hJ
  have hp : wH 3 Try.f3 (body Try.f3 35) Ll3r35 := all_eq (by kernel_rfl : subsOf (E.info 3).keep (body Try.f3 35) = [.loop (body Try.f3 39)]) (all_cons (loopOK_of (mk := 4000039) (sl := [3, 5, 9, 15, 16, 17, 132, 133, 134, 139, 140, 141]) (ss := [([3, 5, 9, 15, 16, 17, 132, 133, 134, 139, 140, 141], lsl3r39)]) (by kernel_rfl) (by kernel_rfl) (all_cons l3r39v all_nil)) all_nil)
  exact h20.of (fun s1 s2 s3 s4 s5 => J [(4000035, .undef), (3, .vec 0), (5, .vec 1), (9, .vec 2), (132, .vec 0), (133, I s1), (134, I s2)] [.row w4 s3 false, .row wI s4 false, .row wI s5 false]) (fun s1 s2 s3 s4 s5 hb => loop_round2 nS (inlOK _) hp hJ (by kernel_rfl) hb)
abbrev S3 : wS := [(4, none, sp4), (5, none, sp5), (6, none, sp6), (7, none, sp7), (8, none, sp8), (11, none, sp11)]
theorem hS3 : SpecOK E (ofL S3) := specOK_cons h4 (specOK_cons h5 (specOK_cons h6 (specOK_cons h7 (specOK_cons h8 (specOK_cons h11 specOK_nil)))))
abbrev L3 : wL := [(4000013, [1, 3, 4, 5, 6, 8, 9, 61, 62], none, lsl3r13), (4000021, [1, 3, 5, 9, 86, 87, 88], none, lsl3r21), (4000035, [3, 5, 9, 132, 133, 134], none, lsl3r35)]
def sp3 : Sp := fun args τ K => dD w1 args fun x1 r1 => asNil r1 <| asNil τ <| c3 x1 (fun z1 => K (B z1) [])
theorem h3 : ∀ args τ K, sp3 args τ K → ACall E 3 args τ K := by
  intro args τ K h0
  obtain ⟨x1, r1, rfl, h2⟩ := cD h0
  obtain ⟨rfl, rfl, h4⟩ := cM h2
  exact ACall.spec2 (fn := Try.f3) (c := codeOf Try.f3) (L := lofL L3) hS3 (by kernel_rfl) (by kernel_rfl) (inlOK _) (all_eq (by kernel_rfl : subsOf (E.info 3).keep (codeOf Try.f3) = [.loop (body Try.f3 13), .loop (body Try.f3 21), .loop (body Try.f3 35)]) (all_cons (loopOK_of (mk := 4000013) (sl := [1, 3, 4, 5, 6, 8, 9, 61, 62]) (ss := [([1, 3, 4, 5, 6, 8, 9, 61, 62], lsl3r13)]) (by kernel_rfl) (by kernel_rfl) (all_cons l3r13v all_nil)) (all_cons (loopOK_of (mk := 4000021) (sl := [1, 3, 5, 9, 86, 87, 88]) (ss := [([1, 3, 5, 9, 86, 87, 88], lsl3r21)]) (by kernel_rfl) (by kernel_rfl) (all_cons l3r21v all_nil)) (all_cons (loopOK_of (mk := 4000035) (sl := [3, 5, 9, 132, 133, 134]) (ss := [([3, 5, 9, 132, 133, 134], lsl3r35)]) (by kernel_rfl) (by kernel_rfl) (all_cons l3r35v all_nil)) all_nil)))) (by kernel_rfl) h4.of
end Go.Proofs.Yteeigkbjjoedoac
