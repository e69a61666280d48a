/- The functions compute that (printed by a program). -/
import Derived.Test.YtcelldbjjlkcdadAD3
import Derived.Test.YtcelldbjjlkcdadAEnvC
import Derived.Test.YtcelldbjjlkcdadAW3a
import Derived.KernelRfl
namespace Go.Proofs.Ytcelldbjjlkcdad
open Go.Abs
set_option maxRecDepth 100000
set_option maxHeartbeats 4000000
set_option linter.unusedVariables false
abbrev Sl18r22 : wS := []
theorem hSl18r22 : SpecOK E (ofL Sl18r22) := specOK_nil
abbrev Ll18r22 : wL := []
def lsl18r22 : LSp := fun vs σ K => asCons vs fun a1 r1 => asP (.ptr 0 0 []) a1 <| asCons r1 fun a2 r2 => asD wI a2 fun s1 => asCons r2 fun a3 r3 => asP (.vec 6) a3 <| asCons r3 fun a4 r4 => asD wI a4 fun s2 => asCons r4 fun a5 r5 => asP (.vec 7) a5 <| asCons r5 fun a6 r6 => asP (.vec 4) a6 <| asCons r6 fun a7 r7 => asD wI a7 fun s3 => asCons r7 fun a8 r8 => asD wI a8 fun s4 => asCons r8 fun a9 r9 => asP (.vec 5) a9 <| asCons r9 fun a10 r10 => asD wI a10 fun s5 => asCons r10 fun a11 r11 => asD wI a11 fun s6 => asNil r11 <| asCons σ fun a12 r12 => asOne w2 a12 fun a13 => asAgL a13 fun l14 => asCons l14 fun a15 r15 => asP (.vec 1) a15 <| asCons r15 fun a16 r16 => asP (.vec 2) a16 <| asCons r16 fun a17 r17 => asP (.vec 3) a17 <| asCons r17 fun a18 r18 => asP (.vec 4) a18 <| asNil r18 <| asCons r12 fun a19 r19 => asDeep .bool a19 fun s7 l20 => asCons l20 fun a21 r21 => asHole 5 a21 fun s8 => asNil r21 <| asCons r19 fun a22 r22 => asRw .bool false a22 fun s9 => asCons r22 fun a23 r23 => asRw .bool false a23 fun s10 => asCons r23 fun a24 r24 => asRw (.arr 2 wI) false a24 fun s11 => asCons r24 fun a25 r25 => asRw .bool false a25 fun s12 => asCons r25 fun a26 r26 => asRw wI false a26 fun s13 => asCons r26 fun a27 r27 => asRw .bool false a27 fun s14 => asNil r27 <| l18r22 (fun z1 z2 z3 z4 z5 z6 z7 z8 => K (.exit 6) [(0, .ptr 0 0 []), (1, I z1), (5, .vec 5), (38, .vec 4), (39, I z2), (40, I z3)] [.one w2 (.agg [.vec 1, .vec 2, .vec 3, .vec 4]), .deep .bool z4 [], .row .bool z5 false, .row .bool z6 false, .row (.arr 2 wI) z7 false, .row wI z8 false]) s1 s2 s3 s4 s5 s6 s7 s8 s9 s10 s11 s12 s13 s14
theorem l18r22v : LoopV E wF (E.info 18).keep 5 Try.f18.ntmps 19000022 (body Try.f18 22) ([0, 1, 5, 9, 11, 38, 39, 40, 143, 144, 145], lsl18r22) := by
  intro vs σ K (h0 : lsl18r22 vs σ K)
  unfold lsl18r22 at h0
  obtain ⟨r1, rfl, h2⟩ := cP h0
  obtain ⟨s1, r2, rfl, h4⟩ := cD h2
  obtain ⟨r3, rfl, h6⟩ := cP h4
  obtain ⟨s2, r4, rfl, h8⟩ := cD h6
  obtain ⟨r5, rfl, h10⟩ := cP h8
  obtain ⟨r6, rfl, h12⟩ := cP h10
  obtain ⟨s3, r7, rfl, h14⟩ := cD h12
  obtain ⟨s4, r8, rfl, h16⟩ := cD h14
  obtain ⟨r9, rfl, h18⟩ := cP h16
  obtain ⟨s5, r10, rfl, h20⟩ := cD h18
  obtain ⟨s6, r11, rfl, h22⟩ := cD h20
  obtain ⟨rfl, h23⟩ := cN h22
  obtain ⟨a12, r12, rfl, h24⟩ := asCons_inv h23
  obtain ⟨a13, rfl, h25⟩ := asOne_inv h24
  obtain ⟨l14, rfl, h26⟩ := asAgL_inv h25
  obtain ⟨r15, rfl, h28⟩ := cP h26
  obtain ⟨r16, rfl, h30⟩ := cP h28
  obtain ⟨r17, rfl, h32⟩ := cP h30
  obtain ⟨r18, rfl, h34⟩ := cP h32
  obtain ⟨rfl, h35⟩ := cN h34
  obtain ⟨a19, r19, rfl, h36⟩ := asCons_inv h35
  obtain ⟨s7, l20, rfl, h37⟩ := asDeep_inv h36
  obtain ⟨a21, r21, rfl, h38⟩ := asCons_inv h37
  obtain ⟨s8, rfl, h39⟩ := asHole_inv h38
  obtain ⟨rfl, h40⟩ := cN h39
  obtain ⟨s9, r22, rfl, h42⟩ := cR h40
  obtain ⟨s10, r23, rfl, h44⟩ := cR h42
  obtain ⟨s11, r24, rfl, h46⟩ := cR h44
  obtain ⟨s12, r25, rfl, h48⟩ := cR h46
  obtain ⟨s13, r26, rfl, h50⟩ := cR h48
  obtain ⟨s14, r27, rfl, h52⟩ := cR h50
  obtain ⟨rfl, h53⟩ := cN h52
  intro J hJ
  have hp : ∀ c' ∈ subsOf (E.info 18).keep (body Try.f18 22), SubOK E wF (E.info 18).keep 5 Try.f18.ntmps (lofL Ll18r22) c' := all_eq (by kernel_rfl : subsOf (E.info 18).keep (body Try.f18 22) = []) (all_nil)
  exact h53.of (fun s1 s2 s3 s4 s5 s6 s7 s8 s9 s10 s11 s12 s13 s14 => J [(19000022, .undef), (0, .ptr 0 0 []), (1, I s1), (5, .vec 6), (9, I s2), (11, .vec 7), (38, .vec 4), (39, I s3), (40, I s4), (143, .vec 5), (144, I s5), (145, I s6)] [.one w2 (.agg [.vec 1, .vec 2, .vec 3, .vec 4]), .deep .bool s7 [(s8, 5)], .row .bool s9 false, .row .bool s10 false, .row (.arr 2 wI) s11 false, .row .bool s12 false, .row wI s13 false, .row .bool s14 false]) (fun s1 s2 s3 s4 s5 s6 s7 s8 s9 s10 s11 s12 s13 s14 hb => loop_round2 (S := ofL Sl18r22) (L := lofL Ll18r22) hSl18r22 (inlOK _) hp hJ (by kernel_rfl) hb)
abbrev Sl18r28 : wS := []
theorem hSl18r28 : SpecOK E (ofL Sl18r28) := specOK_nil
abbrev Ll18r28 : wL := []
def lsl18r28 : LSp := fun vs σ K => asCons vs fun a1 r1 => asP (.ptr 0 0 []) a1 <| asCons r1 fun a2 r2 => asD wI a2 fun s1 => asCons r2 fun a3 r3 => asP (.vec 5) a3 <| asCons r3 fun a4 r4 => asD wI a4 fun s2 => asCons r4 fun a5 r5 => asD wI a5 fun s3 => asCons r5 fun a6 r6 => asP (.vec 4) a6 <| asCons r6 fun a7 r7 => asD wI a7 fun s4 => asCons r7 fun a8 r8 => asD wI a8 fun s5 => asCons r8 fun a9 r9 => asD wI a9 fun s6 => asCons r9 fun a10 r10 => asD wI a10 fun s7 => asNil r10 <| asCons σ fun a11 r11 => asOne w2 a11 fun a12 => asAgL a12 fun l13 => asCons l13 fun a14 r14 => asP (.vec 1) a14 <| asCons r14 fun a15 r15 => asP (.vec 2) a15 <| asCons r15 fun a16 r16 => asP (.vec 3) a16 <| asCons r16 fun a17 r17 => asP (.vec 4) a17 <| asNil r17 <| asCons r11 fun a18 r18 => asDeep .bool a18 fun s8 l19 => asNil l19 <| asCons r18 fun a20 r20 => asRw .bool false a20 fun s9 => asCons r20 fun a21 r21 => asRw .bool false a21 fun s10 => asCons r21 fun a22 r22 => asRw (.arr 2 wI) false a22 fun s11 => asCons r22 fun a23 r23 => asRw wI false a23 fun s12 => asNil r23 <| l18r28 (fun z1 z2 z3 z4 z5 z6 z7 z8 z9 z10 => K (.exit 8) [(0, .ptr 0 0 []), (1, I z1), (5, .vec 5), (9, I z2), (10, I z3), (38, .vec 4), (39, I z4), (40, I z5)] [.one w2 (.agg [.vec 1, .vec 2, .vec 3, .vec 4]), .deep .bool z6 [], .row .bool z7 false, .row .bool z8 false, .row (.arr 2 wI) z9 false, .row wI z10 false]) s1 s2 s3 s4 s5 s6 s7 s8 s9 s10 s11 s12
theorem l18r28v : LoopV E wF (E.info 18).keep 5 Try.f18.ntmps 19000028 (body Try.f18 28) ([0, 1, 5, 9, 10, 38, 39, 40, 184, 185], lsl18r28) := by
  intro vs σ K (h0 : lsl18r28 vs σ K)
  unfold lsl18r28 at h0
  obtain ⟨r1, rfl, h2⟩ := cP h0
  obtain ⟨s1, r2, rfl, h4⟩ := cD h2
  obtain ⟨r3, rfl, h6⟩ := cP h4
  obtain ⟨s2, r4, rfl, h8⟩ := cD h6
  obtain ⟨s3, r5, rfl, h10⟩ := cD h8
  obtain ⟨r6, rfl, h12⟩ := cP h10
  obtain ⟨s4, r7, rfl, h14⟩ := cD h12
  obtain ⟨s5, r8, rfl, h16⟩ := cD h14
  obtain ⟨s6, r9, rfl, h18⟩ := cD h16
  obtain ⟨s7, r10, rfl, h20⟩ := cD h18
  obtain ⟨rfl, h21⟩ := cN h20
  obtain ⟨a11, r11, rfl, h22⟩ := asCons_inv h21
  obtain ⟨a12, rfl, h23⟩ := asOne_inv h22
  obtain ⟨l13, rfl, h24⟩ := asAgL_inv h23
  obtain ⟨r14, rfl, h26⟩ := cP h24
  obtain ⟨r15, rfl, h28⟩ := cP h26
  obtain ⟨r16, rfl, h30⟩ := cP h28
  obtain ⟨r17, rfl, h32⟩ := cP h30
  obtain ⟨rfl, h33⟩ := cN h32
  obtain ⟨a18, r18, rfl, h34⟩ := asCons_inv h33
  obtain ⟨s8, l19, rfl, h35⟩ := asDeep_inv h34
  obtain ⟨rfl, h36⟩ := cN h35
  obtain ⟨s9, r20, rfl, h38⟩ := cR h36
  obtain ⟨s10, r21, rfl, h40⟩ := cR h38
  obtain ⟨s11, r22, rfl, h42⟩ := cR h40
  obtain ⟨s12, r23, rfl, h44⟩ := cR h42
  obtain ⟨rfl, h45⟩ := cN h44
  intro J hJ
  have hp : ∀ c' ∈ subsOf (E.info 18).keep (body Try.f18 28), SubOK E wF (E.info 18).keep 5 Try.f18.ntmps (lofL Ll18r28) c' := all_eq (by kernel_rfl : subsOf (E.info 18).keep (body Try.f18 28) = []) (all_nil)
  exact h45.of (fun s1 s2 s3 s4 s5 s6 s7 s8 s9 s10 s11 s12 => J [(19000028, .undef), (0, .ptr 0 0 []), (1, I s1), (5, .vec 5), (9, I s2), (10, I s3), (38, .vec 4), (39, I s4), (40, I s5), (184, I s6), (185, I s7)] [.one w2 (.agg [.vec 1, .vec 2, .vec 3, .vec 4]), .deep .bool s8 [], .row .bool s9 false, .row .bool s10 false, .row (.arr 2 wI) s11 false, .row wI s12 false]) (fun s1 s2 s3 s4 s5 s6 s7 s8 s9 s10 s11 s12 hb => loop_round2 (S := ofL Sl18r28) (L := lofL Ll18r28) hSl18r28 (inlOK _) hp hJ (by kernel_rfl) hb)
abbrev Sj18r12 : wS := [(38, none, sp38), (39, none, sp39)]
theorem hSj18r12 : SpecOK E (ofL Sj18r12) := specOK_cons h38 (specOK_cons h39 (specOK_nil))
abbrev Lj18r12 : wL := [(19000014, [0, 1, 5, 9, 10, 11, 38, 39, 40, 104, 105, 106], none, lsl18r14), (19000022, [0, 1, 5, 9, 11, 38, 39, 40, 143, 144, 145], none, lsl18r22), (19000028, [0, 1, 5, 9, 10, 38, 39, 40, 184, 185], none, lsl18r28)]
def lsj18r12 : LSp := fun vs σ K => asCons vs fun a1 r1 => asP (.ptr 0 0 []) a1 <| asCons r1 fun a2 r2 => asD wI a2 fun s1 => asCons r2 fun a3 r3 => asP (.vec 5) a3 <| asCons r3 fun a4 r4 => asD wI a4 fun s2 => asCons r4 fun a5 r5 => asD wI a5 fun s3 => asCons r5 fun a6 r6 => asP (.vec 4) a6 <| asCons r6 fun a7 r7 => asD wI a7 fun s4 => asCons r7 fun a8 r8 => asD wI a8 fun s5 => asNil r8 <| asCons σ fun a9 r9 => asOne w2 a9 fun a10 => asAgL a10 fun l11 => asCons l11 fun a12 r12 => asP (.vec 1) a12 <| asCons r12 fun a13 r13 => asP (.vec 2) a13 <| asCons r13 fun a14 r14 => asP (.vec 3) a14 <| asCons r14 fun a15 r15 => asP (.vec 4) a15 <| asNil r15 <| asCons r9 fun a16 r16 => asDeep .bool a16 fun s6 l17 => asNil l17 <| asCons r16 fun a18 r18 => asRw .bool false a18 fun s7 => asCons r18 fun a19 r19 => asRw .bool false a19 fun s8 => asCons r19 fun a20 r20 => asRw (.arr 2 wI) false a20 fun s9 => asCons r20 fun a21 r21 => asRw wI false a21 fun s10 => asNil r21 <| j18r12 (fun z1 z2 z3 z4 z5 z6 z7 z8 => K (.exit 3) [(0, .ptr 0 0 []), (1, I z1), (5, .vec 5), (38, .vec 4), (39, I z2), (40, I z3)] [.one w2 (.agg [.vec 1, .vec 2, .vec 3, .vec 4]), .deep .bool z4 [], .row .bool z5 false, .row .bool z6 false, .row (.arr 2 wI) z7 false, .row wI z8 false]) (fun z1 z2 z3 z4 z5 z6 z7 z8 => K .normal [(0, .ptr 0 0 []), (1, I z1), (5, .vec 5), (38, .vec 4), (39, I z2), (40, I z3)] [.one w2 (.agg [.vec 1, .vec 2, .vec 3, .vec 4]), .deep .bool z4 [], .row .bool z5 false, .row .bool z6 false, .row (.arr 2 wI) z7 false, .row wI z8 false]) s1 s2 s3 s4 s5 s6 s7 s8 s9 s10
theorem j18r12v : JoinV E wF (E.info 18).keep 5 Try.f18.ntmps 19400012 4000012 (jbody Try.f18 4000012) ([0, 1, 5, 9, 10, 38, 39, 40], lsj18r12) := by
  intro vs σ K (h0 : lsj18r12 vs σ K)
  unfold lsj18r12 at h0
  obtain ⟨r1, rfl, h2⟩ := cP h0
  obtain ⟨s1, r2, rfl, h4⟩ := cD h2
  obtain ⟨r3, rfl, h6⟩ := cP h4
  obtain ⟨s2, r4, rfl, h8⟩ := cD h6
  obtain ⟨s3, r5, rfl, h10⟩ := cD h8
  obtain ⟨r6, rfl, h12⟩ := cP h10
  obtain ⟨s4, r7, rfl, h14⟩ := cD h12
  obtain ⟨s5, r8, rfl, h16⟩ := cD h14
  obtain ⟨rfl, h17⟩ := cN h16
  obtain ⟨a9, r9, rfl, h18⟩ := asCons_inv h17
  obtain ⟨a10, rfl, h19⟩ := asOne_inv h18
  obtain ⟨l11, rfl, h20⟩ := asAgL_inv h19
  obtain ⟨r12, rfl, h22⟩ := cP h20
  obtain ⟨r13, rfl, h24⟩ := cP h22
  obtain ⟨r14, rfl, h26⟩ := cP h24
  obtain ⟨r15, rfl, h28⟩ := cP h26
  obtain ⟨rfl, h29⟩ := cN h28
  obtain ⟨a16, r16, rfl, h30⟩ := asCons_inv h29
  obtain ⟨s6, l17, rfl, h31⟩ := asDeep_inv h30
  obtain ⟨rfl, h32⟩ := cN h31
  obtain ⟨s7, r18, rfl, h34⟩ := cR h32
  obtain ⟨s8, r19, rfl, h36⟩ := cR h34
  obtain ⟨s9, r20, rfl, h38⟩ := cR h36
  obtain ⟨s10, r21, rfl, h40⟩ := cR h38
  obtain ⟨rfl, h41⟩ := cN h40
  exact join_round2 (S := ofL Sj18r12) (L := lofL Lj18r12) hSj18r12 (inlOK _) (all_eq (by kernel_rfl : subsOf (E.info 18).keep (jbody Try.f18 4000012) = [.loop (body Try.f18 14), .loop (body Try.f18 22), .loop (body Try.f18 28)]) (all_cons (loopOK_of (mk := 19000014) (sl := [0, 1, 5, 9, 10, 11, 38, 39, 40, 104, 105, 106]) (ss := [([0, 1, 5, 9, 10, 11, 38, 39, 40, 104, 105, 106], lsl18r14)]) (by kernel_rfl) (by kernel_rfl) (all_cons l18r14v (all_nil))) (all_cons (loopOK_of (mk := 19000022) (sl := [0, 1, 5, 9, 11, 38, 39, 40, 143, 144, 145]) (ss := [([0, 1, 5, 9, 11, 38, 39, 40, 143, 144, 145], lsl18r22)]) (by kernel_rfl) (by kernel_rfl) (all_cons l18r22v (all_nil))) (all_cons (loopOK_of (mk := 19000028) (sl := [0, 1, 5, 9, 10, 38, 39, 40, 184, 185]) (ss := [([0, 1, 5, 9, 10, 38, 39, 40, 184, 185], lsl18r28)]) (by kernel_rfl) (by kernel_rfl) (all_cons l18r28v (all_nil))) (all_nil))))) (by kernel_rfl) h41.of
abbrev Sl18r8 : wS := [(21, none, sp21)]
theorem hSl18r8 : SpecOK E (ofL Sl18r8) := specOK_cons h21 (specOK_nil)
abbrev Ll18r8 : wL := [(19400012, [0, 1, 5, 9, 10, 38, 39, 40], none, lsj18r12)]
def lsl18r8 : LSp := fun vs σ K => asCons vs fun a1 r1 => asP (.ptr 0 0 []) a1 <| asCons r1 fun a2 r2 => asD wI a2 fun s1 => asCons r2 fun a3 r3 => asP (.vec 5) a3 <| asCons r3 fun a4 r4 => asP (.vec 4) a4 <| asCons r4 fun a5 r5 => asD wI a5 fun s2 => asCons r5 fun a6 r6 => asD wI a6 fun s3 => asNil r6 <| asCons σ fun a7 r7 => asOne w2 a7 fun a8 => asAgL a8 fun l9 => asCons l9 fun a10 r10 => asP (.vec 1) a10 <| asCons r10 fun a11 r11 => asP (.vec 2) a11 <| asCons r11 fun a12 r12 => asP (.vec 3) a12 <| asCons r12 fun a13 r13 => asP (.vec 4) a13 <| asNil r13 <| asCons r7 fun a14 r14 => asDeep .bool a14 fun s4 l15 => asNil l15 <| asCons r14 fun a16 r16 => asRw .bool false a16 fun s5 => asCons r16 fun a17 r17 => asRw .bool false a17 fun s6 => asCons r17 fun a18 r18 => asRw (.arr 2 wI) false a18 fun s7 => asCons r18 fun a19 r19 => asRw wI false a19 fun s8 => asNil r19 <| l18r8 (fun z1 z2 z3 z4 z5 => K (.exit 2) [(5, .vec 5)] [.one w2 (.agg [.vec 1, .vec 2, .vec 3, .vec 4]), .deep .bool z1 [], .row .bool z2 false, .row .bool z3 false, .row (.arr 2 wI) z4 false, .row wI z5 false]) s1 s2 s3 s4 s5 s6 s7 s8
theorem l18r8v : LoopV E wF (E.info 18).keep 5 Try.f18.ntmps 19000008 (body Try.f18 8) ([0, 1, 5, 38, 39, 40], lsl18r8) := by
  intro vs σ K (h0 : lsl18r8 vs σ K)
  unfold lsl18r8 at h0
  obtain ⟨r1, rfl, h2⟩ := cP h0
  obtain ⟨s1, r2, rfl, h4⟩ := cD h2
  obtain ⟨r3, rfl, h6⟩ := cP h4
  obtain ⟨r4, rfl, h8⟩ := cP h6
  obtain ⟨s2, r5, rfl, h10⟩ := cD h8
  obtain ⟨s3, r6, rfl, h12⟩ := cD h10
  obtain ⟨rfl, h13⟩ := cN h12
  obtain ⟨a7, r7, rfl, h14⟩ := asCons_inv h13
  obtain ⟨a8, rfl, h15⟩ := asOne_inv h14
  obtain ⟨l9, rfl, h16⟩ := asAgL_inv h15
  obtain ⟨r10, rfl, h18⟩ := cP h16
  obtain ⟨r11, rfl, h20⟩ := cP h18
  obtain ⟨r12, rfl, h22⟩ := cP h20
  obtain ⟨r13, rfl, h24⟩ := cP h22
  obtain ⟨rfl, h25⟩ := cN h24
  obtain ⟨a14, r14, rfl, h26⟩ := asCons_inv h25
  obtain ⟨s4, l15, rfl, h27⟩ := asDeep_inv h26
  obtain ⟨rfl, h28⟩ := cN h27
  obtain ⟨s5, r16, rfl, h30⟩ := cR h28
  obtain ⟨s6, r17, rfl, h32⟩ := cR h30
  obtain ⟨s7, r18, rfl, h34⟩ := cR h32
  obtain ⟨s8, r19, rfl, h36⟩ := cR h34
  obtain ⟨rfl, h37⟩ := cN h36
  intro J hJ
  have hp : ∀ c' ∈ subsOf (E.info 18).keep (body Try.f18 8), SubOK E wF (E.info 18).keep 5 Try.f18.ntmps (lofL Ll18r8) c' := all_eq (by kernel_rfl : subsOf (E.info 18).keep (body Try.f18 8) = [.join 4000012 (jbody Try.f18 4000012)]) (all_cons (joinOK_of (mk := 19400012) (sl := [0, 1, 5, 9, 10, 38, 39, 40]) (ss := [([0, 1, 5, 9, 10, 38, 39, 40], lsj18r12)]) (by kernel_rfl) (by kernel_rfl) (all_cons j18r12v (all_nil))) (all_nil))
  exact h37.of (fun s1 s2 s3 s4 s5 s6 s7 s8 => J [(19000008, .undef), (0, .ptr 0 0 []), (1, I s1), (5, .vec 5), (38, .vec 4), (39, I s2), (40, I s3)] [.one w2 (.agg [.vec 1, .vec 2, .vec 3, .vec 4]), .deep .bool s4 [], .row .bool s5 false, .row .bool s6 false, .row (.arr 2 wI) s7 false, .row wI s8 false]) (fun s1 s2 s3 s4 s5 s6 s7 s8 hb => loop_round2 (S := ofL Sl18r8) (L := lofL Ll18r8) hSl18r8 (inlOK _) hp hJ (by kernel_rfl) hb)
abbrev S18 : wS := []
theorem hS18 : SpecOK E (ofL S18) := specOK_nil
abbrev L18 : wL := [(19000003, [0, 1, 5, 26, 27], none, lsl18r3), (19000008, [0, 1, 5, 38, 39, 40], none, lsl18r8)]
def sp18 : Sp := fun args τ K => asCons args fun a1 r1 => asP (.ptr 0 0 []) a1 <| asCons r1 fun a2 r2 => asD wI a2 fun x1 => asNil r2 <| asCons τ fun a3 r3 => asOne w2 a3 fun a4 => asAgL a4 fun l5 => asCons l5 fun a6 r6 => asP (.vec 1) a6 <| asCons r6 fun a7 r7 => asP (.vec 2) a7 <| asCons r7 fun a8 r8 => asP (.vec 3) a8 <| asCons r8 fun a9 r9 => asP (.vec 4) a9 <| asNil r9 <| asCons r3 fun a10 r10 => asDeep .bool a10 fun x2 l11 => asNil l11 <| asCons r10 fun a12 r12 => asRw .bool false a12 fun x3 => asCons r12 fun a13 r13 => asRw .bool false a13 fun x4 => asCons r13 fun a14 r14 => asRw (.arr 2 wI) false a14 fun x5 => asNil r14 <| c18 x1 x2 x3 x4 x5 (fun z1 z2 z3 z4 z5 => K (.vec 5) [.one w2 (.agg [.vec 1, .vec 2, .vec 3, .vec 4]), .deep .bool z1 [], .row .bool z2 false, .row .bool z3 false, .row (.arr 2 wI) z4 false, .row wI z5 false])
theorem h18 : ∀ args τ K, sp18 args τ K → ACall E 18 args τ K := by
  intro args τ K h0
  unfold sp18 at h0
  obtain ⟨r1, rfl, h2⟩ := cP h0
  obtain ⟨x1, r2, rfl, h4⟩ := cD h2
  obtain ⟨rfl, h5⟩ := cN h4
  obtain ⟨a3, r3, rfl, h6⟩ := asCons_inv h5
  obtain ⟨a4, rfl, h7⟩ := asOne_inv h6
  obtain ⟨l5, rfl, h8⟩ := asAgL_inv h7
  obtain ⟨r6, rfl, h10⟩ := cP h8
  obtain ⟨r7, rfl, h12⟩ := cP h10
  obtain ⟨r8, rfl, h14⟩ := cP h12
  obtain ⟨r9, rfl, h16⟩ := cP h14
  obtain ⟨rfl, h17⟩ := cN h16
  obtain ⟨a10, r10, rfl, h18⟩ := asCons_inv h17
  obtain ⟨x2, l11, rfl, h19⟩ := asDeep_inv h18
  obtain ⟨rfl, h20⟩ := cN h19
  obtain ⟨x3, r12, rfl, h22⟩ := cR h20
  obtain ⟨x4, r13, rfl, h24⟩ := cR h22
  obtain ⟨x5, r14, rfl, h26⟩ := cR h24
  obtain ⟨rfl, h27⟩ := cN h26
  exact ACall.spec2 (fn := Try.f18) (c := codeOf Try.f18) (S := ofL S18) (L := lofL L18) hS18 (by kernel_rfl) (by kernel_rfl) (inlOK _) (all_eq (by kernel_rfl : subsOf (E.info 18).keep (codeOf Try.f18) = [.loop (body Try.f18 3), .loop (body Try.f18 8)]) (all_cons (loopOK_of (mk := 19000003) (sl := [0, 1, 5, 26, 27]) (ss := [([0, 1, 5, 26, 27], lsl18r3)]) (by kernel_rfl) (by kernel_rfl) (all_cons l18r3v (all_nil))) (all_cons (loopOK_of (mk := 19000008) (sl := [0, 1, 5, 38, 39, 40]) (ss := [([0, 1, 5, 38, 39, 40], lsl18r8)]) (by kernel_rfl) (by kernel_rfl) (all_cons l18r8v (all_nil))) (all_nil)))) (by kernel_rfl) h27.of
abbrev Sl9r10 : wS := []
theorem hSl9r10 : SpecOK E (ofL Sl9r10) := specOK_nil
abbrev Ll9r10 : wL := []
def lsl9r10 : LSp := fun vs σ K => asCons vs fun a1 r1 => asD wI a1 fun s1 => asCons r1 fun a2 r2 => asP (.ptr 0 0 []) a2 <| asCons r2 fun a3 r3 => asP (.ptr 3 0 []) a3 <| asCons r3 fun a4 r4 => asP (.vec 8) a4 <| asCons r4 fun a5 r5 => asP (.ptr 9 0 []) a5 <| asCons r5 fun a6 r6 => asD wI a6 fun s2 => asCons r6 fun a7 r7 => asD wI a7 fun s3 => asNil r7 <| asCons σ fun a8 r8 => asOne w4 a8 fun a9 => asAgL a9 fun l10 => asCons l10 fun a11 r11 => asP (.vec 1) a11 <| asCons r11 fun a12 r12 => asP (.vec 2) a12 <| asCons r12 fun a13 r13 => asD wI a13 fun s4 => asNil r13 <| asCons r8 fun a14 r14 => asRw wI false a14 fun s5 => asCons r14 fun a15 r15 => asRw wI false a15 fun s6 => asCons r15 fun a16 r16 => asOne w2 a16 fun a17 => asAgL a17 fun l18 => asCons l18 fun a19 r19 => asP (.vec 4) a19 <| asCons r19 fun a20 r20 => asP (.vec 5) a20 <| asCons r20 fun a21 r21 => asP (.vec 6) a21 <| asCons r21 fun a22 r22 => asP (.vec 7) a22 <| asNil r22 <| asCons r16 fun a23 r23 => asDeep .bool a23 fun s7 l24 => asNil l24 <| asCons r23 fun a25 r25 => asRw .bool false a25 fun s8 => asCons r25 fun a26 r26 => asRw .bool false a26 fun s9 => asCons r26 fun a27 r27 => asRw (.arr 2 wI) false a27 fun s10 => asCons r27 fun a28 r28 => asRw wI false a28 fun s11 => asCons r28 fun a29 r29 => asOne w4 a29 fun a30 => asAgL a30 fun l31 => asCons l31 fun a32 r32 => asP (.vec 10) a32 <| asCons r32 fun a33 r33 => asP (.vec 11) a33 <| asCons r33 fun a34 r34 => asD wI a34 fun s12 => asNil r34 <| asCons r29 fun a35 r35 => asRw wI false a35 fun s13 => asCons r35 fun a36 r36 => asRw wI false a36 fun s14 => asNil r36 <| l9r10 (fun z1 z2 z3 z4 z5 z6 z7 z8 z9 z10 z11 z12 => K (.exit 0) [(1, I z1), (4, .ptr 0 0 []), (7, .ptr 3 0 []), (8, .vec 8), (9, .ptr 9 0 [])] [.one w4 (.agg [.vec 1, .vec 2, I z2]), .row wI z3 false, .row wI z4 false, .one w2 (.agg [.vec 4, .vec 5, .vec 6, .vec 7]), .deep .bool z5 [], .row .bool z6 false, .row .bool z7 false, .row (.arr 2 wI) z8 false, .row wI z9 false, .one w4 (.agg [.vec 10, .vec 11, I z10]), .row wI z11 false, .row wI z12 false]) s1 s2 s3 s4 s5 s6 s7 s8 s9 s10 s11 s12 s13 s14
theorem l9r10v : LoopV E wF (E.info 9).keep 0 Try.f9.ntmps 10000010 (body Try.f9 10) ([1, 4, 7, 8, 9, 43, 44], lsl9r10) := by
  intro vs σ K (h0 : lsl9r10 vs σ K)
  unfold lsl9r10 at h0
  obtain ⟨s1, r1, rfl, h2⟩ := cD h0
  obtain ⟨r2, rfl, h4⟩ := cP h2
  obtain ⟨r3, rfl, h6⟩ := cP h4
  obtain ⟨r4, rfl, h8⟩ := cP h6
  obtain ⟨r5, rfl, h10⟩ := cP h8
  obtain ⟨s2, r6, rfl, h12⟩ := cD h10
  obtain ⟨s3, r7, rfl, h14⟩ := cD h12
  obtain ⟨rfl, h15⟩ := cN h14
  obtain ⟨a8, r8, rfl, h16⟩ := asCons_inv h15
  obtain ⟨a9, rfl, h17⟩ := asOne_inv h16
  obtain ⟨l10, rfl, h18⟩ := asAgL_inv h17
  obtain ⟨r11, rfl, h20⟩ := cP h18
  obtain ⟨r12, rfl, h22⟩ := cP h20
  obtain ⟨s4, r13, rfl, h24⟩ := cD h22
  obtain ⟨rfl, h25⟩ := cN h24
  obtain ⟨s5, r14, rfl, h27⟩ := cR h25
  obtain ⟨s6, r15, rfl, h29⟩ := cR h27
  obtain ⟨a16, r16, rfl, h30⟩ := asCons_inv h29
  obtain ⟨a17, rfl, h31⟩ := asOne_inv h30
  obtain ⟨l18, rfl, h32⟩ := asAgL_inv h31
  obtain ⟨r19, rfl, h34⟩ := cP h32
  obtain ⟨r20, rfl, h36⟩ := cP h34
  obtain ⟨r21, rfl, h38⟩ := cP h36
  obtain ⟨r22, rfl, h40⟩ := cP h38
  obtain ⟨rfl, h41⟩ := cN h40
  obtain ⟨a23, r23, rfl, h42⟩ := asCons_inv h41
  obtain ⟨s7, l24, rfl, h43⟩ := asDeep_inv h42
  obtain ⟨rfl, h44⟩ := cN h43
  obtain ⟨s8, r25, rfl, h46⟩ := cR h44
  obtain ⟨s9, r26, rfl, h48⟩ := cR h46
  obtain ⟨s10, r27, rfl, h50⟩ := cR h48
  obtain ⟨s11, r28, rfl, h52⟩ := cR h50
  obtain ⟨a29, r29, rfl, h53⟩ := asCons_inv h52
  obtain ⟨a30, rfl, h54⟩ := asOne_inv h53
  obtain ⟨l31, rfl, h55⟩ := asAgL_inv h54
  obtain ⟨r32, rfl, h57⟩ := cP h55
  obtain ⟨r33, rfl, h59⟩ := cP h57
  obtain ⟨s12, r34, rfl, h61⟩ := cD h59
  obtain ⟨rfl, h62⟩ := cN h61
  obtain ⟨s13, r35, rfl, h64⟩ := cR h62
  obtain ⟨s14, r36, rfl, h66⟩ := cR h64
  obtain ⟨rfl, h67⟩ := cN h66
  intro J hJ
  have hp : ∀ c' ∈ subsOf (E.info 9).keep (body Try.f9 10), SubOK E wF (E.info 9).keep 0 Try.f9.ntmps (lofL Ll9r10) c' := all_eq (by kernel_rfl : subsOf (E.info 9).keep (body Try.f9 10) = []) (all_nil)
  exact h67.of (fun s1 s2 s3 s4 s5 s6 s7 s8 s9 s10 s11 s12 s13 s14 => J [(10000010, .undef), (1, I s1), (4, .ptr 0 0 []), (7, .ptr 3 0 []), (8, .vec 8), (9, .ptr 9 0 []), (43, I s2), (44, I s3)] [.one w4 (.agg [.vec 1, .vec 2, I s4]), .row wI s5 false, .row wI s6 false, .one w2 (.agg [.vec 4, .vec 5, .vec 6, .vec 7]), .deep .bool s7 [], .row .bool s8 false, .row .bool s9 false, .row (.arr 2 wI) s10 false, .row wI s11 false, .one w4 (.agg [.vec 10, .vec 11, I s12]), .row wI s13 false, .row wI s14 false]) (fun s1 s2 s3 s4 s5 s6 s7 s8 s9 s10 s11 s12 s13 s14 hb => loop_round2 (S := ofL Sl9r10) (L := lofL Ll9r10) hSl9r10 (inlOK _) hp hJ (by kernel_rfl) hb)
abbrev Sl19r5 : wS := []
theorem hSl19r5 : SpecOK E (ofL Sl19r5) := specOK_nil
abbrev Ll19r5 : wL := []
def lsl19r5 : LSp := fun vs σ K => asCons vs fun a1 r1 => asP (.ptr 0 0 []) a1 <| asCons r1 fun a2 r2 => asD wI a2 fun s1 => asCons r2 fun a3 r3 => asP (.vec 5) a3 <| asCons r3 fun a4 r4 => asP (.vec 6) a4 <| asCons r4 fun a5 r5 => asD wI a5 fun s2 => asCons r5 fun a6 r6 => asD wI a6 fun s3 => asCons r6 fun a7 r7 => asD wI a7 fun s4 => asNil r7 <| asCons σ fun a8 r8 => asOne w2 a8 fun a9 => asAgL a9 fun l10 => asCons l10 fun a11 r11 => asP (.vec 1) a11 <| asCons r11 fun a12 r12 => asP (.vec 2) a12 <| asCons r12 fun a13 r13 => asP (.vec 3) a13 <| asCons r13 fun a14 r14 => asP (.vec 4) a14 <| asNil r14 <| asCons r8 fun a15 r15 => asDeep .bool a15 fun s5 l16 => asNil l16 <| asCons r15 fun a17 r17 => asRw .bool false a17 fun s6 => asCons r17 fun a18 r18 => asRw .bool false a18 fun s7 => asCons r18 fun a19 r19 => asRw (.arr 2 wI) false a19 fun s8 => asCons r19 fun a20 r20 => asRw .bool false a20 fun s9 => asCons r20 fun a21 r21 => asRw wI false a21 fun s10 => asNil r21 <| l19r5 (fun z1 z2 z3 z4 z5 z6 z7 z8 => K (.exit 0) [(0, .ptr 0 0 []), (1, I z1), (5, .vec 5), (6, .vec 6), (7, I z2)] [.one w2 (.agg [.vec 1, .vec 2, .vec 3, .vec 4]), .deep .bool z3 [], .row .bool z4 false, .row .bool z5 false, .row (.arr 2 wI) z6 false, .row .bool z7 false, .row wI z8 false]) s1 s2 s3 s4 s5 s6 s7 s8 s9 s10
theorem l19r5v : LoopV E wF (E.info 19).keep 5 Try.f19.ntmps 20000005 (body Try.f19 5) ([0, 1, 5, 6, 7, 35, 36], lsl19r5) := by
  intro vs σ K (h0 : lsl19r5 vs σ K)
  unfold lsl19r5 at h0
  obtain ⟨r1, rfl, h2⟩ := cP h0
  obtain ⟨s1, r2, rfl, h4⟩ := cD h2
  obtain ⟨r3, rfl, h6⟩ := cP h4
  obtain ⟨r4, rfl, h8⟩ := cP h6
  obtain ⟨s2, r5, rfl, h10⟩ := cD h8
  obtain ⟨s3, r6, rfl, h12⟩ := cD h10
  obtain ⟨s4, r7, rfl, h14⟩ := cD h12
  obtain ⟨rfl, h15⟩ := cN h14
  obtain ⟨a8, r8, rfl, h16⟩ := asCons_inv h15
  obtain ⟨a9, rfl, h17⟩ := asOne_inv h16
  obtain ⟨l10, rfl, h18⟩ := asAgL_inv h17
  obtain ⟨r11, rfl, h20⟩ := cP h18
  obtain ⟨r12, rfl, h22⟩ := cP h20
  obtain ⟨r13, rfl, h24⟩ := cP h22
  obtain ⟨r14, rfl, h26⟩ := cP h24
  obtain ⟨rfl, h27⟩ := cN h26
  obtain ⟨a15, r15, rfl, h28⟩ := asCons_inv h27
  obtain ⟨s5, l16, rfl, h29⟩ := asDeep_inv h28
  obtain ⟨rfl, h30⟩ := cN h29
  obtain ⟨s6, r17, rfl, h32⟩ := cR h30
  obtain ⟨s7, r18, rfl, h34⟩ := cR h32
  obtain ⟨s8, r19, rfl, h36⟩ := cR h34
  obtain ⟨s9, r20, rfl, h38⟩ := cR h36
  obtain ⟨s10, r21, rfl, h40⟩ := cR h38
  obtain ⟨rfl, h41⟩ := cN h40
  intro J hJ
  have hp : ∀ c' ∈ subsOf (E.info 19).keep (body Try.f19 5), SubOK E wF (E.info 19).keep 5 Try.f19.ntmps (lofL Ll19r5) c' := all_eq (by kernel_rfl : subsOf (E.info 19).keep (body Try.f19 5) = []) (all_nil)
  exact h41.of (fun s1 s2 s3 s4 s5 s6 s7 s8 s9 s10 => J [(20000005, .undef), (0, .ptr 0 0 []), (1, I s1), (5, .vec 5), (6, .vec 6), (7, I s2), (35, I s3), (36, I s4)] [.one w2 (.agg [.vec 1, .vec 2, .vec 3, .vec 4]), .deep .bool s5 [], .row .bool s6 false, .row .bool s7 false, .row (.arr 2 wI) s8 false, .row .bool s9 false, .row wI s10 false]) (fun s1 s2 s3 s4 s5 s6 s7 s8 s9 s10 hb => loop_round2 (S := ofL Sl19r5) (L := lofL Ll19r5) hSl19r5 (inlOK _) hp hJ (by kernel_rfl) hb)
abbrev Sl19r15 : wS := []
theorem hSl19r15 : SpecOK E (ofL Sl19r15) := specOK_nil
abbrev Ll19r15 : wL := []
def lsl19r15 : LSp := fun vs σ K => asCons vs fun a1 r1 => asP (.ptr 0 0 []) a1 <| asCons r1 fun a2 r2 => asD wI a2 fun s1 => asCons r2 fun a3 r3 => asP (.vec 6) a3 <| asCons r3 fun a4 r4 => asP (.vec 7) a4 <| asCons r4 fun a5 r5 => asD wI a5 fun s2 => asCons r5 fun a6 r6 => asD wI a6 fun s3 => asCons r6 fun a7 r7 => asP (.vec 1) a7 <| asCons r7 fun a8 r8 => asD wI a8 fun s4 => asCons r8 fun a9 r9 => asD wI a9 fun s5 => asCons r9 fun a10 r10 => asP (.vec 5) a10 <| asCons r10 fun a11 r11 => asD wI a11 fun s6 => asCons r11 fun a12 r12 => asD wI a12 fun s7 => asNil r12 <| asCons σ fun a13 r13 => asOne w2 a13 fun a14 => asAgL a14 fun l15 => asCons l15 fun a16 r16 => asP (.vec 1) a16 <| asCons r16 fun a17 r17 => asP (.vec 2) a17 <| asCons r17 fun a18 r18 => asP (.vec 3) a18 <| asCons r18 fun a19 r19 => asP (.vec 4) a19 <| asNil r19 <| asCons r13 fun a20 r20 => asDeep .bool a20 fun s8 l21 => asCons l21 fun a22 r22 => asHole 5 a22 fun s9 => asNil r22 <| asCons r20 fun a23 r23 => asRw .bool false a23 fun s10 => asCons r23 fun a24 r24 => asRw .bool false a24 fun s11 => asCons r24 fun a25 r25 => asRw (.arr 2 wI) false a25 fun s12 => asCons r25 fun a26 r26 => asRw .bool false a26 fun s13 => asCons r26 fun a27 r27 => asRw .bool false a27 fun s14 => asCons r27 fun a28 r28 => asRw wI false a28 fun s15 => asNil r28 <| l19r15 (fun z1 z2 z3 z4 z5 z6 z7 z8 z9 z10 => K (.exit 4) [(0, .ptr 0 0 []), (1, I z1), (5, .vec 5), (6, .vec 6), (7, I z2), (69, .vec 1), (70, I z3), (71, I z4)] [.one w2 (.agg [.vec 1, .vec 2, .vec 3, .vec 4]), .deep .bool z5 [], .row .bool z6 false, .row .bool z7 false, .row (.arr 2 wI) z8 false, .row .bool z9 false, .row wI z10 false]) s1 s2 s3 s4 s5 s6 s7 s8 s9 s10 s11 s12 s13 s14 s15
theorem l19r15v : LoopV E wF (E.info 19).keep 5 Try.f19.ntmps 20000015 (body Try.f19 15) ([0, 1, 5, 6, 7, 9, 69, 70, 71, 76, 77, 78], lsl19r15) := by
  intro vs σ K (h0 : lsl19r15 vs σ K)
  unfold lsl19r15 at h0
  obtain ⟨r1, rfl, h2⟩ := cP h0
  obtain ⟨s1, r2, rfl, h4⟩ := cD h2
  obtain ⟨r3, rfl, h6⟩ := cP h4
  obtain ⟨r4, rfl, h8⟩ := cP h6
  obtain ⟨s2, r5, rfl, h10⟩ := cD h8
  obtain ⟨s3, r6, rfl, h12⟩ := cD h10
  obtain ⟨r7, rfl, h14⟩ := cP h12
  obtain ⟨s4, r8, rfl, h16⟩ := cD h14
  obtain ⟨s5, r9, rfl, h18⟩ := cD h16
  obtain ⟨r10, rfl, h20⟩ := cP h18
  obtain ⟨s6, r11, rfl, h22⟩ := cD h20
  obtain ⟨s7, r12, rfl, h24⟩ := cD h22
  obtain ⟨rfl, h25⟩ := cN h24
  obtain ⟨a13, r13, rfl, h26⟩ := asCons_inv h25
  obtain ⟨a14, rfl, h27⟩ := asOne_inv h26
  obtain ⟨l15, rfl, h28⟩ := asAgL_inv h27
  obtain ⟨r16, rfl, h30⟩ := cP h28
  obtain ⟨r17, rfl, h32⟩ := cP h30
  obtain ⟨r18, rfl, h34⟩ := cP h32
  obtain ⟨r19, rfl, h36⟩ := cP h34
  obtain ⟨rfl, h37⟩ := cN h36
  obtain ⟨a20, r20, rfl, h38⟩ := asCons_inv h37
  obtain ⟨s8, l21, rfl, h39⟩ := asDeep_inv h38
  obtain ⟨a22, r22, rfl, h40⟩ := asCons_inv h39
  obtain ⟨s9, rfl, h41⟩ := asHole_inv h40
  obtain ⟨rfl, h42⟩ := cN h41
  obtain ⟨s10, r23, rfl, h44⟩ := cR h42
  obtain ⟨s11, r24, rfl, h46⟩ := cR h44
  obtain ⟨s12, r25, rfl, h48⟩ := cR h46
  obtain ⟨s13, r26, rfl, h50⟩ := cR h48
  obtain ⟨s14, r27, rfl, h52⟩ := cR h50
  obtain ⟨s15, r28, rfl, h54⟩ := cR h52
  obtain ⟨rfl, h55⟩ := cN h54
  intro J hJ
  have hp : ∀ c' ∈ subsOf (E.info 19).keep (body Try.f19 15), SubOK E wF (E.info 19).keep 5 Try.f19.ntmps (lofL Ll19r15) c' := all_eq (by kernel_rfl : subsOf (E.info 19).keep (body Try.f19 15) = []) (all_nil)
  exact h55.of (fun s1 s2 s3 s4 s5 s6 s7 s8 s9 s10 s11 s12 s13 s14 s15 => J [(20000015, .undef), (0, .ptr 0 0 []), (1, I s1), (5, .vec 6), (6, .vec 7), (7, I s2), (9, I s3), (69, .vec 1), (70, I s4), (71, I s5), (76, .vec 5), (77, I s6), (78, I s7)] [.one w2 (.agg [.vec 1, .vec 2, .vec 3, .vec 4]), .deep .bool s8 [(s9, 5)], .row .bool s10 false, .row .bool s11 false, .row (.arr 2 wI) s12 false, .row .bool s13 false, .row .bool s14 false, .row wI s15 false]) (fun s1 s2 s3 s4 s5 s6 s7 s8 s9 s10 s11 s12 s13 s14 s15 hb => loop_round2 (S := ofL Sl19r15) (L := lofL Ll19r15) hSl19r15 (inlOK _) hp hJ (by kernel_rfl) hb)
abbrev Sl19r12 : wS := []
theorem hSl19r12 : SpecOK E (ofL Sl19r12) := specOK_nil
abbrev Ll19r12 : wL := [(20000015, [0, 1, 5, 6, 7, 9, 69, 70, 71, 76, 77, 78], none, lsl19r15)]
def lsl19r12 : LSp := fun vs σ K => asCons vs fun a1 r1 => asP (.ptr 0 0 []) a1 <| asCons r1 fun a2 r2 => asD wI a2 fun s1 => asCons r2 fun a3 r3 => asP (.vec 5) a3 <| asCons r3 fun a4 r4 => asP (.vec 6) a4 <| asCons r4 fun a5 r5 => asD wI a5 fun s2 => asCons r5 fun a6 r6 => asP (.vec 1) a6 <| asCons r6 fun a7 r7 => asD wI a7 fun s3 => asCons r7 fun a8 r8 => asD wI a8 fun s4 => asNil r8 <| asCons σ fun a9 r9 => asOne w2 a9 fun a10 => asAgL a10 fun l11 => asCons l11 fun a12 r12 => asP (.vec 1) a12 <| asCons r12 fun a13 r13 => asP (.vec 2) a13 <| asCons r13 fun a14 r14 => asP (.vec 3) a14 <| asCons r14 fun a15 r15 => asP (.vec 4) a15 <| asNil r15 <| asCons r9 fun a16 r16 => asDeep .bool a16 fun s5 l17 => asNil l17 <| asCons r16 fun a18 r18 => asRw .bool false a18 fun s6 => asCons r18 fun a19 r19 => asRw .bool false a19 fun s7 => asCons r19 fun a20 r20 => asRw (.arr 2 wI) false a20 fun s8 => asCons r20 fun a21 r21 => asRw .bool false a21 fun s9 => asCons r21 fun a22 r22 => asRw wI false a22 fun s10 => asNil r22 <| l19r12 (fun z1 z2 z3 z4 z5 z6 z7 z8 => K (.exit 2) [(0, .ptr 0 0 []), (1, I z1), (5, .vec 5), (6, .vec 6), (7, I z2)] [.one w2 (.agg [.vec 1, .vec 2, .vec 3, .vec 4]), .deep .bool z3 [], .row .bool z4 false, .row .bool z5 false, .row (.arr 2 wI) z6 false, .row .bool z7 false, .row wI z8 false]) s1 s2 s3 s4 s5 s6 s7 s8 s9 s10
theorem l19r12v : LoopV E wF (E.info 19).keep 5 Try.f19.ntmps 20000012 (body Try.f19 12) ([0, 1, 5, 6, 7, 69, 70, 71], lsl19r12) := by
  intro vs σ K (h0 : lsl19r12 vs σ K)
  unfold lsl19r12 at h0
  obtain ⟨r1, rfl, h2⟩ := cP h0
  obtain ⟨s1, r2, rfl, h4⟩ := cD h2
  obtain ⟨r3, rfl, h6⟩ := cP h4
  obtain ⟨r4, rfl, h8⟩ := cP h6
  obtain ⟨s2, r5, rfl, h10⟩ := cD h8
  obtain ⟨r6, rfl, h12⟩ := cP h10
  obtain ⟨s3, r7, rfl, h14⟩ := cD h12
  obtain ⟨s4, r8, rfl, h16⟩ := cD h14
  obtain ⟨rfl, h17⟩ := cN h16
  obtain ⟨a9, r9, rfl, h18⟩ := asCons_inv h17
  obtain ⟨a10, rfl, h19⟩ := asOne_inv h18
  obtain ⟨l11, rfl, h20⟩ := asAgL_inv h19
  obtain ⟨r12, rfl, h22⟩ := cP h20
  obtain ⟨r13, rfl, h24⟩ := cP h22
  obtain ⟨r14, rfl, h26⟩ := cP h24
  obtain ⟨r15, rfl, h28⟩ := cP h26
  obtain ⟨rfl, h29⟩ := cN h28
  obtain ⟨a16, r16, rfl, h30⟩ := asCons_inv h29
  obtain ⟨s5, l17, rfl, h31⟩ := asDeep_inv h30
  obtain ⟨rfl, h32⟩ := cN h31
  obtain ⟨s6, r18, rfl, h34⟩ := cR h32
  obtain ⟨s7, r19, rfl, h36⟩ := cR h34
  obtain ⟨s8, r20, rfl, h38⟩ := cR h36
  obtain ⟨s9, r21, rfl, h40⟩ := cR h38
  obtain ⟨s10, r22, rfl, h42⟩ := cR h40
  obtain ⟨rfl, h43⟩ := cN h42
  intro J hJ
  have hp : ∀ c' ∈ subsOf (E.info 19).keep (body Try.f19 12), SubOK E wF (E.info 19).keep 5 Try.f19.ntmps (lofL Ll19r12) c' := all_eq (by kernel_rfl : subsOf (E.info 19).keep (body Try.f19 12) = [.loop (body Try.f19 15)]) (all_cons (loopOK_of (mk := 20000015) (sl := [0, 1, 5, 6, 7, 9, 69, 70, 71, 76, 77, 78]) (ss := [([0, 1, 5, 6, 7, 9, 69, 70, 71, 76, 77, 78], lsl19r15)]) (by kernel_rfl) (by kernel_rfl) (all_cons l19r15v (all_nil))) (all_nil))
  exact h43.of (fun s1 s2 s3 s4 s5 s6 s7 s8 s9 s10 => J [(20000012, .undef), (0, .ptr 0 0 []), (1, I s1), (5, .vec 5), (6, .vec 6), (7, I s2), (69, .vec 1), (70, I s3), (71, I s4)] [.one w2 (.agg [.vec 1, .vec 2, .vec 3, .vec 4]), .deep .bool s5 [], .row .bool s6 false, .row .bool s7 false, .row (.arr 2 wI) s8 false, .row .bool s9 false, .row wI s10 false]) (fun s1 s2 s3 s4 s5 s6 s7 s8 s9 s10 hb => loop_round2 (S := ofL Sl19r12) (L := lofL Ll19r12) hSl19r12 (inlOK _) hp hJ (by kernel_rfl) hb)
abbrev Sl19r26 : wS := []
theorem hSl19r26 : SpecOK E (ofL Sl19r26) := specOK_nil
abbrev Ll19r26 : wL := []
def lsl19r26 : LSp := fun vs σ K => asCons vs fun a1 r1 => asP (.ptr 0 0 []) a1 <| asCons r1 fun a2 r2 => asD wI a2 fun s1 => asCons r2 fun a3 r3 => asP (.vec 5) a3 <| asCons r3 fun a4 r4 => asP (.vec 6) a4 <| asCons r4 fun a5 r5 => asP (.vec 7) a5 <| asCons r5 fun a6 r6 => asD wI a6 fun s2 => asCons r6 fun a7 r7 => asD wI a7 fun s3 => asCons r7 fun a8 r8 => asD wI a8 fun s4 => asCons r8 fun a9 r9 => asP (.vec 5) a9 <| asCons r9 fun a10 r10 => asD wI a10 fun s5 => asCons r10 fun a11 r11 => asD wI a11 fun s6 => asNil r11 <| asCons σ fun a12 r12 => asOne w2 a12 fun a13 => asAgL a13 fun l14 => asCons l14 fun a15 r15 => asP (.vec 1) a15 <| asCons r15 fun a16 r16 => asP (.vec 2) a16 <| asCons r16 fun a17 r17 => asP (.vec 3) a17 <| asCons r17 fun a18 r18 => asP (.vec 4) a18 <| asNil r18 <| asCons r12 fun a19 r19 => asDeep .bool a19 fun s7 l20 => asNil l20 <| asCons r19 fun a21 r21 => asRw .bool false a21 fun s8 => asCons r21 fun a22 r22 => asRw .bool false a22 fun s9 => asCons r22 fun a23 r23 => asRw (.arr 2 wI) false a23 fun s10 => asCons r23 fun a24 r24 => asRw .bool false a24 fun s11 => asCons r24 fun a25 r25 => asRw wI false a25 fun s12 => asCons r25 fun a26 r26 => asRw wI false a26 fun s13 => asNil r26 <| l19r26 (fun z1 z2 z3 z4 z5 z6 z7 z8 z9 z10 z11 => K (.exit 8) [(0, .ptr 0 0 []), (1, I z1), (5, .vec 5), (6, .vec 6), (13, .vec 7), (14, I z2), (98, I z3), (99, I z4)] [.one w2 (.agg [.vec 1, .vec 2, .vec 3, .vec 4]), .deep .bool z5 [], .row .bool z6 false, .row .bool z7 false, .row (.arr 2 wI) z8 false, .row .bool z9 false, .row wI z10 false, .row wI z11 false]) s1 s2 s3 s4 s5 s6 s7 s8 s9 s10 s11 s12 s13
theorem l19r26v : LoopV E wF (E.info 19).keep 5 Try.f19.ntmps 20000026 (body Try.f19 26) ([0, 1, 5, 6, 13, 14, 98, 99, 101, 102, 103], lsl19r26) := by
  intro vs σ K (h0 : lsl19r26 vs σ K)
  unfold lsl19r26 at h0
  obtain ⟨r1, rfl, h2⟩ := cP h0
  obtain ⟨s1, r2, rfl, h4⟩ := cD h2
  obtain ⟨r3, rfl, h6⟩ := cP h4
  obtain ⟨r4, rfl, h8⟩ := cP h6
  obtain ⟨r5, rfl, h10⟩ := cP h8
  obtain ⟨s2, r6, rfl, h12⟩ := cD h10
  obtain ⟨s3, r7, rfl, h14⟩ := cD h12
  obtain ⟨s4, r8, rfl, h16⟩ := cD h14
  obtain ⟨r9, rfl, h18⟩ := cP h16
  obtain ⟨s5, r10, rfl, h20⟩ := cD h18
  obtain ⟨s6, r11, rfl, h22⟩ := cD h20
  obtain ⟨rfl, h23⟩ := cN h22
  obtain ⟨a12, r12, rfl, h24⟩ := asCons_inv h23
  obtain ⟨a13, rfl, h25⟩ := asOne_inv h24
  obtain ⟨l14, rfl, h26⟩ := asAgL_inv h25
  obtain ⟨r15, rfl, h28⟩ := cP h26
  obtain ⟨r16, rfl, h30⟩ := cP h28
  obtain ⟨r17, rfl, h32⟩ := cP h30
  obtain ⟨r18, rfl, h34⟩ := cP h32
  obtain ⟨rfl, h35⟩ := cN h34
  obtain ⟨a19, r19, rfl, h36⟩ := asCons_inv h35
  obtain ⟨s7, l20, rfl, h37⟩ := asDeep_inv h36
  obtain ⟨rfl, h38⟩ := cN h37
  obtain ⟨s8, r21, rfl, h40⟩ := cR h38
  obtain ⟨s9, r22, rfl, h42⟩ := cR h40
  obtain ⟨s10, r23, rfl, h44⟩ := cR h42
  obtain ⟨s11, r24, rfl, h46⟩ := cR h44
  obtain ⟨s12, r25, rfl, h48⟩ := cR h46
  obtain ⟨s13, r26, rfl, h50⟩ := cR h48
  obtain ⟨rfl, h51⟩ := cN h50
  intro J hJ
  have hp : ∀ c' ∈ subsOf (E.info 19).keep (body Try.f19 26), SubOK E wF (E.info 19).keep 5 Try.f19.ntmps (lofL Ll19r26) c' := all_eq (by kernel_rfl : subsOf (E.info 19).keep (body Try.f19 26) = []) (all_nil)
  exact h51.of (fun s1 s2 s3 s4 s5 s6 s7 s8 s9 s10 s11 s12 s13 => J [(20000026, .undef), (0, .ptr 0 0 []), (1, I s1), (5, .vec 5), (6, .vec 6), (13, .vec 7), (14, I s2), (98, I s3), (99, I s4), (101, .vec 5), (102, I s5), (103, I s6)] [.one w2 (.agg [.vec 1, .vec 2, .vec 3, .vec 4]), .deep .bool s7 [], .row .bool s8 false, .row .bool s9 false, .row (.arr 2 wI) s10 false, .row .bool s11 false, .row wI s12 false, .row wI s13 false]) (fun s1 s2 s3 s4 s5 s6 s7 s8 s9 s10 s11 s12 s13 hb => loop_round2 (S := ofL Sl19r26) (L := lofL Ll19r26) hSl19r26 (inlOK _) hp hJ (by kernel_rfl) hb)
abbrev Sl19r37 : wS := []
theorem hSl19r37 : SpecOK E (ofL Sl19r37) := specOK_nil
abbrev Ll19r37 : wL := []
def lsl19r37 : LSp := fun vs σ K => asCons vs fun a1 r1 => asP (.ptr 0 0 []) a1 <| asCons r1 fun a2 r2 => asD wI a2 fun s1 => asCons r2 fun a3 r3 => asP (.vec 6) a3 <| asCons r3 fun a4 r4 => asP (.vec 7) a4 <| asCons r4 fun a5 r5 => asP (.vec 8) a5 <| asCons r5 fun a6 r6 => asD wI a6 fun s2 => asCons r6 fun a7 r7 => asD wI a7 fun s3 => asCons r7 fun a8 r8 => asP (.vec 5) a8 <| asCons r8 fun a9 r9 => asD wI a9 fun s4 => asCons r9 fun a10 r10 => asD wI a10 fun s5 => asNil r10 <| asCons σ fun a11 r11 => asOne w2 a11 fun a12 => asAgL a12 fun l13 => asCons l13 fun a14 r14 => asP (.vec 1) a14 <| asCons r14 fun a15 r15 => asP (.vec 2) a15 <| asCons r15 fun a16 r16 => asP (.vec 3) a16 <| asCons r16 fun a17 r17 => asP (.vec 4) a17 <| asNil r17 <| asCons r11 fun a18 r18 => asDeep .bool a18 fun s6 l19 => asCons l19 fun a20 r20 => asHole 5 a20 fun s7 => asNil r20 <| asCons r18 fun a21 r21 => asRw .bool false a21 fun s8 => asCons r21 fun a22 r22 => asRw .bool false a22 fun s9 => asCons r22 fun a23 r23 => asRw (.arr 2 wI) false a23 fun s10 => asCons r23 fun a24 r24 => asRw .bool false a24 fun s11 => asCons r24 fun a25 r25 => asRw .bool false a25 fun s12 => asCons r25 fun a26 r26 => asRw wI false a26 fun s13 => asCons r26 fun a27 r27 => asRw wI false a27 fun s14 => asNil r27 <| l19r37 (fun z1 z2 z3 z4 z5 z6 z7 z8 z9 z10 => K (.exit 10) [(0, .ptr 0 0 []), (1, I z1), (5, .vec 5), (6, .vec 6), (13, .vec 7), (98, I z2), (99, I z3)] [.one w2 (.agg [.vec 1, .vec 2, .vec 3, .vec 4]), .deep .bool z4 [], .row .bool z5 false, .row .bool z6 false, .row (.arr 2 wI) z7 false, .row .bool z8 false, .row wI z9 false, .row wI z10 false]) s1 s2 s3 s4 s5 s6 s7 s8 s9 s10 s11 s12 s13 s14
theorem l19r37v : LoopV E wF (E.info 19).keep 5 Try.f19.ntmps 20000037 (body Try.f19 37) ([0, 1, 5, 6, 13, 98, 99, 145, 146, 147], lsl19r37) := by
  intro vs σ K (h0 : lsl19r37 vs σ K)
  unfold lsl19r37 at h0
  obtain ⟨r1, rfl, h2⟩ := cP h0
  obtain ⟨s1, r2, rfl, h4⟩ := cD h2
  obtain ⟨r3, rfl, h6⟩ := cP h4
  obtain ⟨r4, rfl, h8⟩ := cP h6
  obtain ⟨r5, rfl, h10⟩ := cP h8
  obtain ⟨s2, r6, rfl, h12⟩ := cD h10
  obtain ⟨s3, r7, rfl, h14⟩ := cD h12
  obtain ⟨r8, rfl, h16⟩ := cP h14
  obtain ⟨s4, r9, rfl, h18⟩ := cD h16
  obtain ⟨s5, r10, rfl, h20⟩ := cD h18
  obtain ⟨rfl, h21⟩ := cN h20
  obtain ⟨a11, r11, rfl, h22⟩ := asCons_inv h21
  obtain ⟨a12, rfl, h23⟩ := asOne_inv h22
  obtain ⟨l13, rfl, h24⟩ := asAgL_inv h23
  obtain ⟨r14, rfl, h26⟩ := cP h24
  obtain ⟨r15, rfl, h28⟩ := cP h26
  obtain ⟨r16, rfl, h30⟩ := cP h28
  obtain ⟨r17, rfl, h32⟩ := cP h30
  obtain ⟨rfl, h33⟩ := cN h32
  obtain ⟨a18, r18, rfl, h34⟩ := asCons_inv h33
  obtain ⟨s6, l19, rfl, h35⟩ := asDeep_inv h34
  obtain ⟨a20, r20, rfl, h36⟩ := asCons_inv h35
  obtain ⟨s7, rfl, h37⟩ := asHole_inv h36
  obtain ⟨rfl, h38⟩ := cN h37
  obtain ⟨s8, r21, rfl, h40⟩ := cR h38
  obtain ⟨s9, r22, rfl, h42⟩ := cR h40
  obtain ⟨s10, r23, rfl, h44⟩ := cR h42
  obtain ⟨s11, r24, rfl, h46⟩ := cR h44
  obtain ⟨s12, r25, rfl, h48⟩ := cR h46
  obtain ⟨s13, r26, rfl, h50⟩ := cR h48
  obtain ⟨s14, r27, rfl, h52⟩ := cR h50
  obtain ⟨rfl, h53⟩ := cN h52
  intro J hJ
  have hp : ∀ c' ∈ subsOf (E.info 19).keep (body Try.f19 37), SubOK E wF (E.info 19).keep 5 Try.f19.ntmps (lofL Ll19r37) c' := all_eq (by kernel_rfl : subsOf (E.info 19).keep (body Try.f19 37) = []) (all_nil)
  exact h53.of (fun s1 s2 s3 s4 s5 s6 s7 s8 s9 s10 s11 s12 s13 s14 => J [(20000037, .undef), (0, .ptr 0 0 []), (1, I s1), (5, .vec 6), (6, .vec 7), (13, .vec 8), (98, I s2), (99, I s3), (145, .vec 5), (146, I s4), (147, I s5)] [.one w2 (.agg [.vec 1, .vec 2, .vec 3, .vec 4]), .deep .bool s6 [(s7, 5)], .row .bool s8 false, .row .bool s9 false, .row (.arr 2 wI) s10 false, .row .bool s11 false, .row .bool s12 false, .row wI s13 false, .row wI s14 false]) (fun s1 s2 s3 s4 s5 s6 s7 s8 s9 s10 s11 s12 s13 s14 hb => loop_round2 (S := ofL Sl19r37) (L := lofL Ll19r37) hSl19r37 (inlOK _) hp hJ (by kernel_rfl) hb)
abbrev Sl19r23 : wS := []
theorem hSl19r23 : SpecOK E (ofL Sl19r23) := specOK_nil
abbrev Ll19r23 : wL := [(20000026, [0, 1, 5, 6, 13, 14, 98, 99, 101, 102, 103], none, lsl19r26), (20000037, [0, 1, 5, 6, 13, 98, 99, 145, 146, 147], none, lsl19r37)]
def lsl19r23 : LSp := fun vs σ K => asCons vs fun a1 r1 => asP (.ptr 0 0 []) a1 <| asCons r1 fun a2 r2 => asD wI a2 fun s1 => asCons r2 fun a3 r3 => asP (.vec 5) a3 <| asCons r3 fun a4 r4 => asP (.vec 6) a4 <| asCons r4 fun a5 r5 => asP (.vec 7) a5 <| asCons r5 fun a6 r6 => asD wI a6 fun s2 => asCons r6 fun a7 r7 => asD wI a7 fun s3 => asNil r7 <| asCons σ fun a8 r8 => asOne w2 a8 fun a9 => asAgL a9 fun l10 => asCons l10 fun a11 r11 => asP (.vec 1) a11 <| asCons r11 fun a12 r12 => asP (.vec 2) a12 <| asCons r12 fun a13 r13 => asP (.vec 3) a13 <| asCons r13 fun a14 r14 => asP (.vec 4) a14 <| asNil r14 <| asCons r8 fun a15 r15 => asDeep .bool a15 fun s4 l16 => asNil l16 <| asCons r15 fun a17 r17 => asRw .bool false a17 fun s5 => asCons r17 fun a18 r18 => asRw .bool false a18 fun s6 => asCons r18 fun a19 r19 => asRw (.arr 2 wI) false a19 fun s7 => asCons r19 fun a20 r20 => asRw .bool false a20 fun s8 => asCons r20 fun a21 r21 => asRw wI false a21 fun s9 => asCons r21 fun a22 r22 => asRw wI false a22 fun s10 => asNil r22 <| l19r23 (fun z1 z2 z3 z4 z5 => K (.exit 6) [(13, .vec 5)] [.one w2 (.agg [.vec 1, .vec 2, .vec 3, .vec 4]), .deep .bool z1 [], .row .bool z2 false, .row .bool z3 false, .row (.arr 2 wI) z4 false, .row wI z5 false]) s1 s2 s3 s4 s5 s6 s7 s8 s9 s10
theorem l19r23v : LoopV E wF (E.info 19).keep 5 Try.f19.ntmps 20000023 (body Try.f19 23) ([0, 1, 5, 6, 13, 98, 99], lsl19r23) := by
  intro vs σ K (h0 : lsl19r23 vs σ K)
  unfold lsl19r23 at h0
  obtain ⟨r1, rfl, h2⟩ := cP h0
  obtain ⟨s1, r2, rfl, h4⟩ := cD h2
  obtain ⟨r3, rfl, h6⟩ := cP h4
  obtain ⟨r4, rfl, h8⟩ := cP h6
  obtain ⟨r5, rfl, h10⟩ := cP h8
  obtain ⟨s2, r6, rfl, h12⟩ := cD h10
  obtain ⟨s3, r7, rfl, h14⟩ := cD h12
  obtain ⟨rfl, h15⟩ := cN h14
  obtain ⟨a8, r8, rfl, h16⟩ := asCons_inv h15
  obtain ⟨a9, rfl, h17⟩ := asOne_inv h16
  obtain ⟨l10, rfl, h18⟩ := asAgL_inv h17
  obtain ⟨r11, rfl, h20⟩ := cP h18
  obtain ⟨r12, rfl, h22⟩ := cP h20
  obtain ⟨r13, rfl, h24⟩ := cP h22
  obtain ⟨r14, rfl, h26⟩ := cP h24
  obtain ⟨rfl, h27⟩ := cN h26
  obtain ⟨a15, r15, rfl, h28⟩ := asCons_inv h27
  obtain ⟨s4, l16, rfl, h29⟩ := asDeep_inv h28
  obtain ⟨rfl, h30⟩ := cN h29
  obtain ⟨s5, r17, rfl, h32⟩ := cR h30
  obtain ⟨s6, r18, rfl, h34⟩ := cR h32
  obtain ⟨s7, r19, rfl, h36⟩ := cR h34
  obtain ⟨s8, r20, rfl, h38⟩ := cR h36
  obtain ⟨s9, r21, rfl, h40⟩ := cR h38
  obtain ⟨s10, r22, rfl, h42⟩ := cR h40
  obtain ⟨rfl, h43⟩ := cN h42
  intro J hJ
  have hp : ∀ c' ∈ subsOf (E.info 19).keep (body Try.f19 23), SubOK E wF (E.info 19).keep 5 Try.f19.ntmps (lofL Ll19r23) c' := all_eq (by kernel_rfl : subsOf (E.info 19).keep (body Try.f19 23) = [.loop (body Try.f19 26), .loop (body Try.f19 37)]) (all_cons (loopOK_of (mk := 20000026) (sl := [0, 1, 5, 6, 13, 14, 98, 99, 101, 102, 103]) (ss := [([0, 1, 5, 6, 13, 14, 98, 99, 101, 102, 103], lsl19r26)]) (by kernel_rfl) (by kernel_rfl) (all_cons l19r26v (all_nil))) (all_cons (loopOK_of (mk := 20000037) (sl := [0, 1, 5, 6, 13, 98, 99, 145, 146, 147]) (ss := [([0, 1, 5, 6, 13, 98, 99, 145, 146, 147], lsl19r37)]) (by kernel_rfl) (by kernel_rfl) (all_cons l19r37v (all_nil))) (all_nil)))
  exact h43.of (fun s1 s2 s3 s4 s5 s6 s7 s8 s9 s10 => J [(20000023, .undef), (0, .ptr 0 0 []), (1, I s1), (5, .vec 5), (6, .vec 6), (13, .vec 7), (98, I s2), (99, I s3)] [.one w2 (.agg [.vec 1, .vec 2, .vec 3, .vec 4]), .deep .bool s4 [], .row .bool s5 false, .row .bool s6 false, .row (.arr 2 wI) s7 false, .row .bool s8 false, .row wI s9 false, .row wI s10 false]) (fun s1 s2 s3 s4 s5 s6 s7 s8 s9 s10 hb => loop_round2 (S := ofL Sl19r23) (L := lofL Ll19r23) hSl19r23 (inlOK _) hp hJ (by kernel_rfl) hb)
abbrev Sl40r1 : wS := []
theorem hSl40r1 : SpecOK E (ofL Sl40r1) := specOK_nil
abbrev Ll40r1 : wL := []
def lsl40r1 : LSp := fun vs σ K => asCons vs fun a1 r1 => asP (.vec 0) a1 <| asCons r1 fun a2 r2 => asD wI a2 fun s1 => asCons r2 fun a3 r3 => asD wI a3 fun s2 => asNil r3 <| asCons σ fun a4 r4 => asRw wI false a4 fun s3 => asNil r4 <| l40r1 (fun z1 => K (.exit 0) [] [.row wI z1 false]) s1 s2 s3
theorem l40r1v : LoopV E wF (E.info 40).keep 1 Try.f40.ntmps 41000001 (body Try.f40 1) ([0, 2, 3], lsl40r1) := by
  intro vs σ K (h0 : lsl40r1 vs σ K)
  unfold lsl40r1 at h0
  obtain ⟨r1, rfl, h2⟩ := cP h0
  obtain ⟨s1, r2, rfl, h4⟩ := cD h2
  obtain ⟨s2, r3, rfl, h6⟩ := cD h4
  obtain ⟨rfl, h7⟩ := cN h6
  obtain ⟨s3, r4, rfl, h9⟩ := cR h7
  obtain ⟨rfl, h10⟩ := cN h9
  intro J hJ
  have hp : ∀ c' ∈ subsOf (E.info 40).keep (body Try.f40 1), SubOK E wF (E.info 40).keep 1 Try.f40.ntmps (lofL Ll40r1) c' := all_eq (by kernel_rfl : subsOf (E.info 40).keep (body Try.f40 1) = []) (all_nil)
  exact h10.of (fun s1 s2 s3 => J [(41000001, .undef), (0, .vec 0), (2, I s1), (3, I s2)] [.row wI s3 false]) (fun s1 s2 s3 hb => loop_round2 (S := ofL Sl40r1) (L := lofL Ll40r1) hSl40r1 (inlOK _) hp hJ (by kernel_rfl) hb)
abbrev S40 : wS := []
theorem hS40 : SpecOK E (ofL S40) := specOK_nil
abbrev L40 : wL := [(41000001, [0, 2, 3], none, lsl40r1)]
def sp40 : Sp := fun args τ K => asCons args fun a1 r1 => asP (.vec 0) a1 <| asNil r1 <| asCons τ fun a2 r2 => asRw wI false a2 fun x1 => asNil r2 <| c40 x1 (fun z1 => K (.tup []) [.row wI z1 false])
theorem h40 : ∀ args τ K, sp40 args τ K → ACall E 40 args τ K := by
  intro args τ K h0
  unfold sp40 at h0
  obtain ⟨r1, rfl, h2⟩ := cP h0
  obtain ⟨rfl, h3⟩ := cN h2
  obtain ⟨x1, r2, rfl, h5⟩ := cR h3
  obtain ⟨rfl, h6⟩ := cN h5
  exact ACall.spec2 (fn := Try.f40) (c := codeOf Try.f40) (S := ofL S40) (L := lofL L40) hS40 (by kernel_rfl) (by kernel_rfl) (inlOK _) (all_eq (by kernel_rfl : subsOf (E.info 40).keep (codeOf Try.f40) = [.loop (body Try.f40 1)]) (all_cons (loopOK_of (mk := 41000001) (sl := [0, 2, 3]) (ss := [([0, 2, 3], lsl40r1)]) (by kernel_rfl) (by kernel_rfl) (all_cons l40r1v (all_nil))) (all_nil))) (by kernel_rfl) h6.of
abbrev S19 : wS := [(40, none, sp40)]
theorem hS19 : SpecOK E (ofL S19) := specOK_cons h40 (specOK_nil)
abbrev L19 : wL := [(20000005, [0, 1, 5, 6, 7, 35, 36], none, lsl19r5), (20000012, [0, 1, 5, 6, 7, 69, 70, 71], none, lsl19r12), (20000023, [0, 1, 5, 6, 13, 98, 99], none, lsl19r23)]
def sp19 : Sp := fun args τ K => asCons args fun a1 r1 => asP (.ptr 0 0 []) a1 <| asCons r1 fun a2 r2 => asD wI a2 fun x1 => asNil r2 <| asCons τ fun a3 r3 => asOne w2 a3 fun a4 => asAgL a4 fun l5 => asCons l5 fun a6 r6 => asP (.vec 1) a6 <| asCons r6 fun a7 r7 => asP (.vec 2) a7 <| asCons r7 fun a8 r8 => asP (.vec 3) a8 <| asCons r8 fun a9 r9 => asP (.vec 4) a9 <| asNil r9 <| asCons r3 fun a10 r10 => asDeep .bool a10 fun x2 l11 => asNil l11 <| asCons r10 fun a12 r12 => asRw .bool false a12 fun x3 => asCons r12 fun a13 r13 => asRw .bool false a13 fun x4 => asCons r13 fun a14 r14 => asRw (.arr 2 wI) false a14 fun x5 => asNil r14 <| c19 x1 x2 x3 x4 x5 (fun z1 z2 z3 z4 z5 => K (.vec 5) [.one w2 (.agg [.vec 1, .vec 2, .vec 3, .vec 4]), .deep .bool z1 [], .row .bool z2 false, .row .bool z3 false, .row (.arr 2 wI) z4 false, .row wI z5 false])
theorem h19 : ∀ args τ K, sp19 args τ K → ACall E 19 args τ K := by
  intro args τ K h0
  unfold sp19 at h0
  obtain ⟨r1, rfl, h2⟩ := cP h0
  obtain ⟨x1, r2, rfl, h4⟩ := cD h2
  obtain ⟨rfl, h5⟩ := cN h4
  obtain ⟨a3, r3, rfl, h6⟩ := asCons_inv h5
  obtain ⟨a4, rfl, h7⟩ := asOne_inv h6
  obtain ⟨l5, rfl, h8⟩ := asAgL_inv h7
  obtain ⟨r6, rfl, h10⟩ := cP h8
  obtain ⟨r7, rfl, h12⟩ := cP h10
  obtain ⟨r8, rfl, h14⟩ := cP h12
  obtain ⟨r9, rfl, h16⟩ := cP h14
  obtain ⟨rfl, h17⟩ := cN h16
  obtain ⟨a10, r10, rfl, h18⟩ := asCons_inv h17
  obtain ⟨x2, l11, rfl, h19⟩ := asDeep_inv h18
  obtain ⟨rfl, h20⟩ := cN h19
  obtain ⟨x3, r12, rfl, h22⟩ := cR h20
  obtain ⟨x4, r13, rfl, h24⟩ := cR h22
  obtain ⟨x5, r14, rfl, h26⟩ := cR h24
  obtain ⟨rfl, h27⟩ := cN h26
  exact ACall.spec2 (fn := Try.f19) (c := codeOf Try.f19) (S := ofL S19) (L := lofL L19) hS19 (by kernel_rfl) (by kernel_rfl) (inlOK _) (all_eq (by kernel_rfl : subsOf (E.info 19).keep (codeOf Try.f19) = [.loop (body Try.f19 5), .loop (body Try.f19 12), .loop (body Try.f19 23)]) (all_cons (loopOK_of (mk := 20000005) (sl := [0, 1, 5, 6, 7, 35, 36]) (ss := [([0, 1, 5, 6, 7, 35, 36], lsl19r5)]) (by kernel_rfl) (by kernel_rfl) (all_cons l19r5v (all_nil))) (all_cons (loopOK_of (mk := 20000012) (sl := [0, 1, 5, 6, 7, 69, 70, 71]) (ss := [([0, 1, 5, 6, 7, 69, 70, 71], lsl19r12)]) (by kernel_rfl) (by kernel_rfl) (all_cons l19r12v (all_nil))) (all_cons (loopOK_of (mk := 20000023) (sl := [0, 1, 5, 6, 13, 98, 99]) (ss := [([0, 1, 5, 6, 13, 98, 99], lsl19r23)]) (by kernel_rfl) (by kernel_rfl) (all_cons l19r23v (all_nil))) (all_nil))))) (by kernel_rfl) h27.of
abbrev Sl20r6 : wS := []
theorem hSl20r6 : SpecOK E (ofL Sl20r6) := specOK_nil
abbrev Ll20r6 : wL := []
def lsl20r6 : LSp := fun vs σ K => asCons vs fun a1 r1 => asP (.ptr 0 0 []) a1 <| asCons r1 fun a2 r2 => asD wI a2 fun s1 => asCons r2 fun a3 r3 => asD (.sl wI) a3 fun s2 => asCons r3 fun a4 r4 => asD wI a4 fun s3 => asCons r4 fun a5 r5 => asD .bool a5 fun s4 => asCons r5 fun a6 r6 => asP (.vec 5) a6 <| asCons r6 fun a7 r7 => asD wI a7 fun s5 => asCons r7 fun a8 r8 => asD wI a8 fun s6 => asNil r8 <| asCons σ fun a9 r9 => asOne w2 a9 fun a10 => asAgL a10 fun l11 => asCons l11 fun a12 r12 => asP (.vec 1) a12 <| asCons r12 fun a13 r13 => asP (.vec 2) a13 <| asCons r13 fun a14 r14 => asP (.vec 3) a14 <| asCons r14 fun a15 r15 => asP (.vec 4) a15 <| asNil r15 <| asCons r9 fun a16 r16 => asDeep .bool a16 fun s7 l17 => asCons l17 fun a18 r18 => asHole 5 a18 fun s8 => asNil r18 <| asCons r16 fun a19 r19 => asRw .bool false a19 fun s9 => asCons r19 fun a20 r20 => asRw .bool false a20 fun s10 => asCons r20 fun a21 r21 => asRw (.arr 2 wI) false a21 fun s11 => asCons r21 fun a22 r22 => asRw .bool false a22 fun s12 => asNil r22 <| l20r6 (fun z1 z2 z3 z4 z5 z6 z7 z8 => K (.exit 2) [(0, .ptr 0 0 []), (1, I z1), (3, .d (.sl wI) z2), (9, I z3), (10, B z4)] [.one w2 (.agg [.vec 1, .vec 2, .vec 3, .vec 4]), .deep .bool z5 [], .row .bool z6 false, .row .bool z7 false, .row (.arr 2 wI) z8 false]) s1 s2 s3 s4 s5 s6 s7 s8 s9 s10 s11 s12
theorem l20r6v : LoopV E wF (E.info 20).keep 5 Try.f20.ntmps 21000006 (body Try.f20 6) ([0, 1, 3, 9, 10, 21, 22, 23], lsl20r6) := by
  intro vs σ K (h0 : lsl20r6 vs σ K)
  unfold lsl20r6 at h0
  obtain ⟨r1, rfl, h2⟩ := cP h0
  obtain ⟨s1, r2, rfl, h4⟩ := cD h2
  obtain ⟨s2, r3, rfl, h6⟩ := cD h4
  obtain ⟨s3, r4, rfl, h8⟩ := cD h6
  obtain ⟨s4, r5, rfl, h10⟩ := cD h8
  obtain ⟨r6, rfl, h12⟩ := cP h10
  obtain ⟨s5, r7, rfl, h14⟩ := cD h12
  obtain ⟨s6, r8, rfl, h16⟩ := cD h14
  obtain ⟨rfl, h17⟩ := cN h16
  obtain ⟨a9, r9, rfl, h18⟩ := asCons_inv h17
  obtain ⟨a10, rfl, h19⟩ := asOne_inv h18
  obtain ⟨l11, rfl, h20⟩ := asAgL_inv h19
  obtain ⟨r12, rfl, h22⟩ := cP h20
  obtain ⟨r13, rfl, h24⟩ := cP h22
  obtain ⟨r14, rfl, h26⟩ := cP h24
  obtain ⟨r15, rfl, h28⟩ := cP h26
  obtain ⟨rfl, h29⟩ := cN h28
  obtain ⟨a16, r16, rfl, h30⟩ := asCons_inv h29
  obtain ⟨s7, l17, rfl, h31⟩ := asDeep_inv h30
  obtain ⟨a18, r18, rfl, h32⟩ := asCons_inv h31
  obtain ⟨s8, rfl, h33⟩ := asHole_inv h32
  obtain ⟨rfl, h34⟩ := cN h33
  obtain ⟨s9, r19, rfl, h36⟩ := cR h34
  obtain ⟨s10, r20, rfl, h38⟩ := cR h36
  obtain ⟨s11, r21, rfl, h40⟩ := cR h38
  obtain ⟨s12, r22, rfl, h42⟩ := cR h40
  obtain ⟨rfl, h43⟩ := cN h42
  intro J hJ
  have hp : ∀ c' ∈ subsOf (E.info 20).keep (body Try.f20 6), SubOK E wF (E.info 20).keep 5 Try.f20.ntmps (lofL Ll20r6) c' := all_eq (by kernel_rfl : subsOf (E.info 20).keep (body Try.f20 6) = []) (all_nil)
  exact h43.of (fun s1 s2 s3 s4 s5 s6 s7 s8 s9 s10 s11 s12 => J [(21000006, .undef), (0, .ptr 0 0 []), (1, I s1), (3, .d (.sl wI) s2), (9, I s3), (10, B s4), (21, .vec 5), (22, I s5), (23, I s6)] [.one w2 (.agg [.vec 1, .vec 2, .vec 3, .vec 4]), .deep .bool s7 [(s8, 5)], .row .bool s9 false, .row .bool s10 false, .row (.arr 2 wI) s11 false, .row .bool s12 false]) (fun s1 s2 s3 s4 s5 s6 s7 s8 s9 s10 s11 s12 hb => loop_round2 (S := ofL Sl20r6) (L := lofL Ll20r6) hSl20r6 (inlOK _) hp hJ (by kernel_rfl) hb)
abbrev Sl20r3 : wS := []
theorem hSl20r3 : SpecOK E (ofL Sl20r3) := specOK_nil
abbrev Ll20r3 : wL := [(21000006, [0, 1, 3, 9, 10, 21, 22, 23], none, lsl20r6)]
def lsl20r3 : LSp := fun vs σ K => asCons vs fun a1 r1 => asP (.ptr 0 0 []) a1 <| asCons r1 fun a2 r2 => asD wI a2 fun s1 => asCons r2 fun a3 r3 => asD (.sl wI) a3 fun s2 => asCons r3 fun a4 r4 => asD wI a4 fun s3 => asCons r4 fun a5 r5 => asD .bool a5 fun s4 => asNil r5 <| asCons σ fun a6 r6 => asOne w2 a6 fun a7 => asAgL a7 fun l8 => asCons l8 fun a9 r9 => asP (.vec 1) a9 <| asCons r9 fun a10 r10 => asP (.vec 2) a10 <| asCons r10 fun a11 r11 => asP (.vec 3) a11 <| asCons r11 fun a12 r12 => asP (.vec 4) a12 <| asNil r12 <| asCons r6 fun a13 r13 => asDeep .bool a13 fun s5 l14 => asNil l14 <| asCons r13 fun a15 r15 => asRw .bool false a15 fun s6 => asCons r15 fun a16 r16 => asRw .bool false a16 fun s7 => asCons r16 fun a17 r17 => asRw (.arr 2 wI) false a17 fun s8 => asNil r17 <| l20r3 (fun z1 z2 z3 z4 z5 => K (.exit 0) [(9, I z1)] [.one w2 (.agg [.vec 1, .vec 2, .vec 3, .vec 4]), .deep .bool z2 [], .row .bool z3 false, .row .bool z4 false, .row (.arr 2 wI) z5 false]) s1 s2 s3 s4 s5 s6 s7 s8
theorem l20r3v : LoopV E wF (E.info 20).keep 5 Try.f20.ntmps 21000003 (body Try.f20 3) ([0, 1, 3, 9, 10], lsl20r3) := by
  intro vs σ K (h0 : lsl20r3 vs σ K)
  unfold lsl20r3 at h0
  obtain ⟨r1, rfl, h2⟩ := cP h0
  obtain ⟨s1, r2, rfl, h4⟩ := cD h2
  obtain ⟨s2, r3, rfl, h6⟩ := cD h4
  obtain ⟨s3, r4, rfl, h8⟩ := cD h6
  obtain ⟨s4, r5, rfl, h10⟩ := cD h8
  obtain ⟨rfl, h11⟩ := cN h10
  obtain ⟨a6, r6, rfl, h12⟩ := asCons_inv h11
  obtain ⟨a7, rfl, h13⟩ := asOne_inv h12
  obtain ⟨l8, rfl, h14⟩ := asAgL_inv h13
  obtain ⟨r9, rfl, h16⟩ := cP h14
  obtain ⟨r10, rfl, h18⟩ := cP h16
  obtain ⟨r11, rfl, h20⟩ := cP h18
  obtain ⟨r12, rfl, h22⟩ := cP h20
  obtain ⟨rfl, h23⟩ := cN h22
  obtain ⟨a13, r13, rfl, h24⟩ := asCons_inv h23
  obtain ⟨s5, l14, rfl, h25⟩ := asDeep_inv h24
  obtain ⟨rfl, h26⟩ := cN h25
  obtain ⟨s6, r15, rfl, h28⟩ := cR h26
  obtain ⟨s7, r16, rfl, h30⟩ := cR h28
  obtain ⟨s8, r17, rfl, h32⟩ := cR h30
  obtain ⟨rfl, h33⟩ := cN h32
  intro J hJ
  have hp : ∀ c' ∈ subsOf (E.info 20).keep (body Try.f20 3), SubOK E wF (E.info 20).keep 5 Try.f20.ntmps (lofL Ll20r3) c' := all_eq (by kernel_rfl : subsOf (E.info 20).keep (body Try.f20 3) = [.loop (body Try.f20 6)]) (all_cons (loopOK_of (mk := 21000006) (sl := [0, 1, 3, 9, 10, 21, 22, 23]) (ss := [([0, 1, 3, 9, 10, 21, 22, 23], lsl20r6)]) (by kernel_rfl) (by kernel_rfl) (all_cons l20r6v (all_nil))) (all_nil))
  exact h33.of (fun s1 s2 s3 s4 s5 s6 s7 s8 => J [(21000003, .undef), (0, .ptr 0 0 []), (1, I s1), (3, .d (.sl wI) s2), (9, I s3), (10, B s4)] [.one w2 (.agg [.vec 1, .vec 2, .vec 3, .vec 4]), .deep .bool s5 [], .row .bool s6 false, .row .bool s7 false, .row (.arr 2 wI) s8 false]) (fun s1 s2 s3 s4 s5 s6 s7 s8 hb => loop_round2 (S := ofL Sl20r3) (L := lofL Ll20r3) hSl20r3 (inlOK _) hp hJ (by kernel_rfl) hb)
abbrev S20 : wS := []
theorem hS20 : SpecOK E (ofL S20) := specOK_nil
abbrev L20 : wL := [(21000003, [0, 1, 3, 9, 10], none, lsl20r3)]
def sp20 : Sp := fun args τ K => asCons args fun a1 r1 => asP (.ptr 0 0 []) a1 <| asCons r1 fun a2 r2 => asD wI a2 fun x1 => asCons r2 fun a3 r3 => asD wI a3 fun x2 => asCons r3 fun a4 r4 => asD (.sl wI) a4 fun x3 => asNil r4 <| asCons τ fun a5 r5 => asOne w2 a5 fun a6 => asAgL a6 fun l7 => asCons l7 fun a8 r8 => asP (.vec 1) a8 <| asCons r8 fun a9 r9 => asP (.vec 2) a9 <| asCons r9 fun a10 r10 => asP (.vec 3) a10 <| asCons r10 fun a11 r11 => asP (.vec 4) a11 <| asNil r11 <| asCons r5 fun a12 r12 => asDeep .bool a12 fun x4 l13 => asNil l13 <| asCons r12 fun a14 r14 => asRw .bool false a14 fun x5 => asCons r14 fun a15 r15 => asRw .bool false a15 fun x6 => asCons r15 fun a16 r16 => asRw (.arr 2 wI) false a16 fun x7 => asNil r16 <| c20 x1 x2 x3 x4 x5 x6 x7 (fun z1 z2 z3 z4 z5 => K (I z1) [.one w2 (.agg [.vec 1, .vec 2, .vec 3, .vec 4]), .deep .bool z2 [], .row .bool z3 false, .row .bool z4 false, .row (.arr 2 wI) z5 false])
theorem h20 : ∀ args τ K, sp20 args τ K → ACall E 20 args τ K := by
  intro args τ K h0
  unfold sp20 at h0
  obtain ⟨r1, rfl, h2⟩ := cP h0
  obtain ⟨x1, r2, rfl, h4⟩ := cD h2
  obtain ⟨x2, r3, rfl, h6⟩ := cD h4
  obtain ⟨x3, r4, rfl, h8⟩ := cD h6
  obtain ⟨rfl, h9⟩ := cN h8
  obtain ⟨a5, r5, rfl, h10⟩ := asCons_inv h9
  obtain ⟨a6, rfl, h11⟩ := asOne_inv h10
  obtain ⟨l7, rfl, h12⟩ := asAgL_inv h11
  obtain ⟨r8, rfl, h14⟩ := cP h12
  obtain ⟨r9, rfl, h16⟩ := cP h14
  obtain ⟨r10, rfl, h18⟩ := cP h16
  obtain ⟨r11, rfl, h20⟩ := cP h18
  obtain ⟨rfl, h21⟩ := cN h20
  obtain ⟨a12, r12, rfl, h22⟩ := asCons_inv h21
  obtain ⟨x4, l13, rfl, h23⟩ := asDeep_inv h22
  obtain ⟨rfl, h24⟩ := cN h23
  obtain ⟨x5, r14, rfl, h26⟩ := cR h24
  obtain ⟨x6, r15, rfl, h28⟩ := cR h26
  obtain ⟨x7, r16, rfl, h30⟩ := cR h28
  obtain ⟨rfl, h31⟩ := cN h30
  exact ACall.spec2 (fn := Try.f20) (c := codeOf Try.f20) (S := ofL S20) (L := lofL L20) hS20 (by kernel_rfl) (by kernel_rfl) (inlOK _) (all_eq (by kernel_rfl : subsOf (E.info 20).keep (codeOf Try.f20) = [.loop (body Try.f20 3)]) (all_cons (loopOK_of (mk := 21000003) (sl := [0, 1, 3, 9, 10]) (ss := [([0, 1, 3, 9, 10], lsl20r3)]) (by kernel_rfl) (by kernel_rfl) (all_cons l20r3v (all_nil))) (all_nil))) (by kernel_rfl) h31.of
abbrev Sl9r15 : wS := [(20, none, sp20)]
theorem hSl9r15 : SpecOK E (ofL Sl9r15) := specOK_cons h20 (specOK_nil)
abbrev Ll9r15 : wL := []
def lsl9r15 : LSp := fun vs σ K => asCons vs fun a1 r1 => asD wI a1 fun s1 => asCons r1 fun a2 r2 => asP (.ptr 0 0 []) a2 <| asCons r2 fun a3 r3 => asP (.ptr 3 0 []) a3 <| asCons r3 fun a4 r4 => asP (.vec 8) a4 <| asCons r4 fun a5 r5 => asP (.ptr 9 0 []) a5 <| asCons r5 fun a6 r6 => asP (.vec 12) a6 <| asCons r6 fun a7 r7 => asD wI a7 fun s2 => asCons r7 fun a8 r8 => asD wI a8 fun s3 => asNil r8 <| asCons σ fun a9 r9 => asOne w4 a9 fun a10 => asAgL a10 fun l11 => asCons l11 fun a12 r12 => asP (.vec 1) a12 <| asCons r12 fun a13 r13 => asP (.vec 2) a13 <| asCons r13 fun a14 r14 => asD wI a14 fun s4 => asNil r14 <| asCons r9 fun a15 r15 => asRw wI false a15 fun s5 => asCons r15 fun a16 r16 => asRw wI false a16 fun s6 => asCons r16 fun a17 r17 => asOne w2 a17 fun a18 => asAgL a18 fun l19 => asCons l19 fun a20 r20 => asP (.vec 4) a20 <| asCons r20 fun a21 r21 => asP (.vec 5) a21 <| asCons r21 fun a22 r22 => asP (.vec 6) a22 <| asCons r22 fun a23 r23 => asP (.vec 7) a23 <| asNil r23 <| asCons r17 fun a24 r24 => asDeep .bool a24 fun s7 l25 => asNil l25 <| asCons r24 fun a26 r26 => asRw .bool false a26 fun s8 => asCons r26 fun a27 r27 => asRw .bool false a27 fun s9 => asCons r27 fun a28 r28 => asRw (.arr 2 wI) false a28 fun s10 => asCons r28 fun a29 r29 => asRw wI false a29 fun s11 => asCons r29 fun a30 r30 => asOne w4 a30 fun a31 => asAgL a31 fun l32 => asCons l32 fun a33 r33 => asP (.vec 10) a33 <| asCons r33 fun a34 r34 => asP (.vec 11) a34 <| asCons r34 fun a35 r35 => asD wI a35 fun s12 => asNil r35 <| asCons r30 fun a36 r36 => asRw wI false a36 fun s13 => asCons r36 fun a37 r37 => asRw wI false a37 fun s14 => asCons r37 fun a38 r38 => asRw wI false a38 fun s15 => asNil r38 <| l9r15 (fun z1 z2 z3 z4 z5 z6 z7 z8 z9 z10 z11 => K (.exit 2) [(4, .ptr 0 0 []), (7, .ptr 3 0 []), (8, .vec 8), (9, .ptr 9 0 [])] [.one w4 (.agg [.vec 1, .vec 2, I z1]), .row wI z2 false, .row wI z3 false, .one w2 (.agg [.vec 4, .vec 5, .vec 6, .vec 7]), .deep .bool z4 [], .row .bool z5 false, .row .bool z6 false, .row (.arr 2 wI) z7 false, .row wI z8 false, .one w4 (.agg [.vec 10, .vec 11, I z9]), .row wI z10 false, .row wI z11 false]) s1 s2 s3 s4 s5 s6 s7 s8 s9 s10 s11 s12 s13 s14 s15
theorem l9r15v : LoopV E wF (E.info 9).keep 0 Try.f9.ntmps 10000015 (body Try.f9 15) ([1, 4, 7, 8, 9, 58, 59, 60], lsl9r15) := by
  intro vs σ K (h0 : lsl9r15 vs σ K)
  unfold lsl9r15 at h0
  obtain ⟨s1, r1, rfl, h2⟩ := cD h0
  obtain ⟨r2, rfl, h4⟩ := cP h2
  obtain ⟨r3, rfl, h6⟩ := cP h4
  obtain ⟨r4, rfl, h8⟩ := cP h6
  obtain ⟨r5, rfl, h10⟩ := cP h8
  obtain ⟨r6, rfl, h12⟩ := cP h10
  obtain ⟨s2, r7, rfl, h14⟩ := cD h12
  obtain ⟨s3, r8, rfl, h16⟩ := cD h14
  obtain ⟨rfl, h17⟩ := cN h16
  obtain ⟨a9, r9, rfl, h18⟩ := asCons_inv h17
  obtain ⟨a10, rfl, h19⟩ := asOne_inv h18
  obtain ⟨l11, rfl, h20⟩ := asAgL_inv h19
  obtain ⟨r12, rfl, h22⟩ := cP h20
  obtain ⟨r13, rfl, h24⟩ := cP h22
  obtain ⟨s4, r14, rfl, h26⟩ := cD h24
  obtain ⟨rfl, h27⟩ := cN h26
  obtain ⟨s5, r15, rfl, h29⟩ := cR h27
  obtain ⟨s6, r16, rfl, h31⟩ := cR h29
  obtain ⟨a17, r17, rfl, h32⟩ := asCons_inv h31
  obtain ⟨a18, rfl, h33⟩ := asOne_inv h32
  obtain ⟨l19, rfl, h34⟩ := asAgL_inv h33
  obtain ⟨r20, rfl, h36⟩ := cP h34
  obtain ⟨r21, rfl, h38⟩ := cP h36
  obtain ⟨r22, rfl, h40⟩ := cP h38
  obtain ⟨r23, rfl, h42⟩ := cP h40
  obtain ⟨rfl, h43⟩ := cN h42
  obtain ⟨a24, r24, rfl, h44⟩ := asCons_inv h43
  obtain ⟨s7, l25, rfl, h45⟩ := asDeep_inv h44
  obtain ⟨rfl, h46⟩ := cN h45
  obtain ⟨s8, r26, rfl, h48⟩ := cR h46
  obtain ⟨s9, r27, rfl, h50⟩ := cR h48
  obtain ⟨s10, r28, rfl, h52⟩ := cR h50
  obtain ⟨s11, r29, rfl, h54⟩ := cR h52
  obtain ⟨a30, r30, rfl, h55⟩ := asCons_inv h54
  obtain ⟨a31, rfl, h56⟩ := asOne_inv h55
  obtain ⟨l32, rfl, h57⟩ := asAgL_inv h56
  obtain ⟨r33, rfl, h59⟩ := cP h57
  obtain ⟨r34, rfl, h61⟩ := cP h59
  obtain ⟨s12, r35, rfl, h63⟩ := cD h61
  obtain ⟨rfl, h64⟩ := cN h63
  obtain ⟨s13, r36, rfl, h66⟩ := cR h64
  obtain ⟨s14, r37, rfl, h68⟩ := cR h66
  obtain ⟨s15, r38, rfl, h70⟩ := cR h68
  obtain ⟨rfl, h71⟩ := cN h70
  intro J hJ
  have hp : ∀ c' ∈ subsOf (E.info 9).keep (body Try.f9 15), SubOK E wF (E.info 9).keep 0 Try.f9.ntmps (lofL Ll9r15) c' := all_eq (by kernel_rfl : subsOf (E.info 9).keep (body Try.f9 15) = []) (all_nil)
  exact h71.of (fun s1 s2 s3 s4 s5 s6 s7 s8 s9 s10 s11 s12 s13 s14 s15 => J [(10000015, .undef), (1, I s1), (4, .ptr 0 0 []), (7, .ptr 3 0 []), (8, .vec 8), (9, .ptr 9 0 []), (58, .vec 12), (59, I s2), (60, I s3)] [.one w4 (.agg [.vec 1, .vec 2, I s4]), .row wI s5 false, .row wI s6 false, .one w2 (.agg [.vec 4, .vec 5, .vec 6, .vec 7]), .deep .bool s7 [], .row .bool s8 false, .row .bool s9 false, .row (.arr 2 wI) s10 false, .row wI s11 false, .one w4 (.agg [.vec 10, .vec 11, I s12]), .row wI s13 false, .row wI s14 false, .row wI s15 false]) (fun s1 s2 s3 s4 s5 s6 s7 s8 s9 s10 s11 s12 s13 s14 s15 hb => loop_round2 (S := ofL Sl9r15) (L := lofL Ll9r15) hSl9r15 (inlOK _) hp hJ (by kernel_rfl) hb)
abbrev Sl9r22 : wS := [(20, none, sp20)]
theorem hSl9r22 : SpecOK E (ofL Sl9r22) := specOK_cons h20 (specOK_nil)
abbrev Ll9r22 : wL := []
def lsl9r22 : LSp := fun vs σ K => asCons vs fun a1 r1 => asP (.ptr 0 0 []) a1 <| asCons r1 fun a2 r2 => asP (.ptr 3 0 []) a2 <| asCons r2 fun a3 r3 => asP (.vec 8) a3 <| asCons r3 fun a4 r4 => asP (.ptr 9 0 []) a4 <| asCons r4 fun a5 r5 => asD wI a5 fun s1 => asCons r5 fun a6 r6 => asD wI a6 fun s2 => asNil r6 <| asCons σ fun a7 r7 => asOne w4 a7 fun a8 => asAgL a8 fun l9 => asCons l9 fun a10 r10 => asP (.vec 1) a10 <| asCons r10 fun a11 r11 => asP (.vec 2) a11 <| asCons r11 fun a12 r12 => asD wI a12 fun s3 => asNil r12 <| asCons r7 fun a13 r13 => asRw wI false a13 fun s4 => asCons r13 fun a14 r14 => asRw wI false a14 fun s5 => asCons r14 fun a15 r15 => asOne w2 a15 fun a16 => asAgL a16 fun l17 => asCons l17 fun a18 r18 => asP (.vec 4) a18 <| asCons r18 fun a19 r19 => asP (.vec 5) a19 <| asCons r19 fun a20 r20 => asP (.vec 6) a20 <| asCons r20 fun a21 r21 => asP (.vec 7) a21 <| asNil r21 <| asCons r15 fun a22 r22 => asDeep .bool a22 fun s6 l23 => asNil l23 <| asCons r22 fun a24 r24 => asRw .bool false a24 fun s7 => asCons r24 fun a25 r25 => asRw .bool false a25 fun s8 => asCons r25 fun a26 r26 => asRw (.arr 2 wI) false a26 fun s9 => asCons r26 fun a27 r27 => asRw wI false a27 fun s10 => asCons r27 fun a28 r28 => asOne w4 a28 fun a29 => asAgL a29 fun l30 => asCons l30 fun a31 r31 => asP (.vec 10) a31 <| asCons r31 fun a32 r32 => asP (.vec 11) a32 <| asCons r32 fun a33 r33 => asD wI a33 fun s11 => asNil r33 <| asCons r28 fun a34 r34 => asRw wI false a34 fun s12 => asCons r34 fun a35 r35 => asRw wI false a35 fun s13 => asNil r35 <| l9r22 (fun z1 z2 z3 z4 z5 z6 z7 => K (.exit 4) [(4, .ptr 0 0 []), (8, .vec 3), (9, .ptr 4 0 [])] [.one w4 (.agg [.vec 1, .vec 2, I z1]), .row wI z2 false, .row wI z3 false, .row wI z4 false, .one w4 (.agg [.vec 5, .vec 6, I z5]), .row wI z6 false, .row wI z7 false]) s1 s2 s3 s4 s5 s6 s7 s8 s9 s10 s11 s12 s13
theorem l9r22v : LoopV E wF (E.info 9).keep 0 Try.f9.ntmps 10000022 (body Try.f9 22) ([4, 7, 8, 9, 80, 81], lsl9r22) := by
  intro vs σ K (h0 : lsl9r22 vs σ K)
  unfold lsl9r22 at h0
  obtain ⟨r1, rfl, h2⟩ := cP h0
  obtain ⟨r2, rfl, h4⟩ := cP h2
  obtain ⟨r3, rfl, h6⟩ := cP h4
  obtain ⟨r4, rfl, h8⟩ := cP h6
  obtain ⟨s1, r5, rfl, h10⟩ := cD h8
  obtain ⟨s2, r6, rfl, h12⟩ := cD h10
  obtain ⟨rfl, h13⟩ := cN h12
  obtain ⟨a7, r7, rfl, h14⟩ := asCons_inv h13
  obtain ⟨a8, rfl, h15⟩ := asOne_inv h14
  obtain ⟨l9, rfl, h16⟩ := asAgL_inv h15
  obtain ⟨r10, rfl, h18⟩ := cP h16
  obtain ⟨r11, rfl, h20⟩ := cP h18
  obtain ⟨s3, r12, rfl, h22⟩ := cD h20
  obtain ⟨rfl, h23⟩ := cN h22
  obtain ⟨s4, r13, rfl, h25⟩ := cR h23
  obtain ⟨s5, r14, rfl, h27⟩ := cR h25
  obtain ⟨a15, r15, rfl, h28⟩ := asCons_inv h27
  obtain ⟨a16, rfl, h29⟩ := asOne_inv h28
  obtain ⟨l17, rfl, h30⟩ := asAgL_inv h29
  obtain ⟨r18, rfl, h32⟩ := cP h30
  obtain ⟨r19, rfl, h34⟩ := cP h32
  obtain ⟨r20, rfl, h36⟩ := cP h34
  obtain ⟨r21, rfl, h38⟩ := cP h36
  obtain ⟨rfl, h39⟩ := cN h38
  obtain ⟨a22, r22, rfl, h40⟩ := asCons_inv h39
  obtain ⟨s6, l23, rfl, h41⟩ := asDeep_inv h40
  obtain ⟨rfl, h42⟩ := cN h41
  obtain ⟨s7, r24, rfl, h44⟩ := cR h42
  obtain ⟨s8, r25, rfl, h46⟩ := cR h44
  obtain ⟨s9, r26, rfl, h48⟩ := cR h46
  obtain ⟨s10, r27, rfl, h50⟩ := cR h48
  obtain ⟨a28, r28, rfl, h51⟩ := asCons_inv h50
  obtain ⟨a29, rfl, h52⟩ := asOne_inv h51
  obtain ⟨l30, rfl, h53⟩ := asAgL_inv h52
  obtain ⟨r31, rfl, h55⟩ := cP h53
  obtain ⟨r32, rfl, h57⟩ := cP h55
  obtain ⟨s11, r33, rfl, h59⟩ := cD h57
  obtain ⟨rfl, h60⟩ := cN h59
  obtain ⟨s12, r34, rfl, h62⟩ := cR h60
  obtain ⟨s13, r35, rfl, h64⟩ := cR h62
  obtain ⟨rfl, h65⟩ := cN h64
  intro J hJ
  have hp : ∀ c' ∈ subsOf (E.info 9).keep (body Try.f9 22), SubOK E wF (E.info 9).keep 0 Try.f9.ntmps (lofL Ll9r22) c' := all_eq (by kernel_rfl : subsOf (E.info 9).keep (body Try.f9 22) = []) (all_nil)
  exact h65.of (fun s1 s2 s3 s4 s5 s6 s7 s8 s9 s10 s11 s12 s13 => J [(10000022, .undef), (4, .ptr 0 0 []), (7, .ptr 3 0 []), (8, .vec 8), (9, .ptr 9 0 []), (80, I s1), (81, I s2)] [.one w4 (.agg [.vec 1, .vec 2, I s3]), .row wI s4 false, .row wI s5 false, .one w2 (.agg [.vec 4, .vec 5, .vec 6, .vec 7]), .deep .bool s6 [], .row .bool s7 false, .row .bool s8 false, .row (.arr 2 wI) s9 false, .row wI s10 false, .one w4 (.agg [.vec 10, .vec 11, I s11]), .row wI s12 false, .row wI s13 false]) (fun s1 s2 s3 s4 s5 s6 s7 s8 s9 s10 s11 s12 s13 hb => loop_round2 (S := ofL Sl9r22) (L := lofL Ll9r22) hSl9r22 (inlOK _) hp hJ (by kernel_rfl) hb)
abbrev Sl9r29 : wS := [(21, none, sp21)]
theorem hSl9r29 : SpecOK E (ofL Sl9r29) := specOK_cons h21 (specOK_nil)
abbrev Ll9r29 : wL := []
def lsl9r29 : LSp := fun vs σ K => asCons vs fun a1 r1 => asP (.ptr 0 0 []) a1 <| asCons r1 fun a2 r2 => asP (.vec 3) a2 <| asCons r2 fun a3 r3 => asP (.ptr 4 0 []) a3 <| asCons r3 fun a4 r4 => asD wI a4 fun s1 => asCons r4 fun a5 r5 => asD wI a5 fun s2 => asNil r5 <| asCons σ fun a6 r6 => asOne w4 a6 fun a7 => asAgL a7 fun l8 => asCons l8 fun a9 r9 => asP (.vec 1) a9 <| asCons r9 fun a10 r10 => asP (.vec 2) a10 <| asCons r10 fun a11 r11 => asD wI a11 fun s3 => asNil r11 <| asCons r6 fun a12 r12 => asRw wI false a12 fun s4 => asCons r12 fun a13 r13 => asRw wI false a13 fun s5 => asCons r13 fun a14 r14 => asRw wI false a14 fun s6 => asCons r14 fun a15 r15 => asOne w4 a15 fun a16 => asAgL a16 fun l17 => asCons l17 fun a18 r18 => asP (.vec 5) a18 <| asCons r18 fun a19 r19 => asP (.vec 6) a19 <| asCons r19 fun a20 r20 => asD wI a20 fun s7 => asNil r20 <| asCons r15 fun a21 r21 => asRw wI false a21 fun s8 => asCons r21 fun a22 r22 => asRw wI false a22 fun s9 => asNil r22 <| l9r29 (fun z1 z2 z3 z4 z5 z6 => K (.exit 6) [(4, .ptr 0 0 []), (9, .ptr 3 0 [])] [.one w4 (.agg [.vec 1, .vec 2, I z1]), .row wI z2 false, .row wI z3 false, .one w4 (.agg [.vec 4, .vec 5, I z4]), .row wI z5 false, .row wI z6 false]) s1 s2 s3 s4 s5 s6 s7 s8 s9
theorem l9r29v : LoopV E wF (E.info 9).keep 0 Try.f9.ntmps 10000029 (body Try.f9 29) ([4, 8, 9, 121, 122], lsl9r29) := by
  intro vs σ K (h0 : lsl9r29 vs σ K)
  unfold lsl9r29 at h0
  obtain ⟨r1, rfl, h2⟩ := cP h0
  obtain ⟨r2, rfl, h4⟩ := cP h2
  obtain ⟨r3, rfl, h6⟩ := cP h4
  obtain ⟨s1, r4, rfl, h8⟩ := cD h6
  obtain ⟨s2, r5, rfl, h10⟩ := cD h8
  obtain ⟨rfl, h11⟩ := cN h10
  obtain ⟨a6, r6, rfl, h12⟩ := asCons_inv h11
  obtain ⟨a7, rfl, h13⟩ := asOne_inv h12
  obtain ⟨l8, rfl, h14⟩ := asAgL_inv h13
  obtain ⟨r9, rfl, h16⟩ := cP h14
  obtain ⟨r10, rfl, h18⟩ := cP h16
  obtain ⟨s3, r11, rfl, h20⟩ := cD h18
  obtain ⟨rfl, h21⟩ := cN h20
  obtain ⟨s4, r12, rfl, h23⟩ := cR h21
  obtain ⟨s5, r13, rfl, h25⟩ := cR h23
  obtain ⟨s6, r14, rfl, h27⟩ := cR h25
  obtain ⟨a15, r15, rfl, h28⟩ := asCons_inv h27
  obtain ⟨a16, rfl, h29⟩ := asOne_inv h28
  obtain ⟨l17, rfl, h30⟩ := asAgL_inv h29
  obtain ⟨r18, rfl, h32⟩ := cP h30
  obtain ⟨r19, rfl, h34⟩ := cP h32
  obtain ⟨s7, r20, rfl, h36⟩ := cD h34
  obtain ⟨rfl, h37⟩ := cN h36
  obtain ⟨s8, r21, rfl, h39⟩ := cR h37
  obtain ⟨s9, r22, rfl, h41⟩ := cR h39
  obtain ⟨rfl, h42⟩ := cN h41
  intro J hJ
  have hp : ∀ c' ∈ subsOf (E.info 9).keep (body Try.f9 29), SubOK E wF (E.info 9).keep 0 Try.f9.ntmps (lofL Ll9r29) c' := all_eq (by kernel_rfl : subsOf (E.info 9).keep (body Try.f9 29) = []) (all_nil)
  exact h42.of (fun s1 s2 s3 s4 s5 s6 s7 s8 s9 => J [(10000029, .undef), (4, .ptr 0 0 []), (8, .vec 3), (9, .ptr 4 0 []), (121, I s1), (122, I s2)] [.one w4 (.agg [.vec 1, .vec 2, I s3]), .row wI s4 false, .row wI s5 false, .row wI s6 false, .one w4 (.agg [.vec 5, .vec 6, I s7]), .row wI s8 false, .row wI s9 false]) (fun s1 s2 s3 s4 s5 s6 s7 s8 s9 hb => loop_round2 (S := ofL Sl9r29) (L := lofL Ll9r29) hSl9r29 (inlOK _) hp hJ (by kernel_rfl) hb)
abbrev Sj9r9 : wS := [(19, none, sp19)]
theorem hSj9r9 : SpecOK E (ofL Sj9r9) := specOK_cons h19 (specOK_nil)
abbrev Lj9r9 : wL := [(10000010, [1, 4, 7, 8, 9, 43, 44], none, lsl9r10), (10000015, [1, 4, 7, 8, 9, 58, 59, 60], none, lsl9r15), (10000022, [4, 7, 8, 9, 80, 81], none, lsl9r22), (10000029, [4, 8, 9, 121, 122], none, lsl9r29)]
def lsj9r9 : LSp := fun vs σ K => asCons vs fun a1 r1 => asD wI a1 fun s1 => asCons r1 fun a2 r2 => asP (.ptr 0 0 []) a2 <| asCons r2 fun a3 r3 => asP (.ptr 3 0 []) a3 <| asCons r3 fun a4 r4 => asP (.vec 8) a4 <| asCons r4 fun a5 r5 => asP (.ptr 9 0 []) a5 <| asNil r5 <| asCons σ fun a6 r6 => asOne w4 a6 fun a7 => asAgL a7 fun l8 => asCons l8 fun a9 r9 => asP (.vec 1) a9 <| asCons r9 fun a10 r10 => asP (.vec 2) a10 <| asCons r10 fun a11 r11 => asD wI a11 fun s2 => asNil r11 <| asCons r6 fun a12 r12 => asRw wI false a12 fun s3 => asCons r12 fun a13 r13 => asRw wI false a13 fun s4 => asCons r13 fun a14 r14 => asOne w2 a14 fun a15 => asAgL a15 fun l16 => asCons l16 fun a17 r17 => asP (.vec 4) a17 <| asCons r17 fun a18 r18 => asP (.vec 5) a18 <| asCons r18 fun a19 r19 => asP (.vec 6) a19 <| asCons r19 fun a20 r20 => asP (.vec 7) a20 <| asNil r20 <| asCons r14 fun a21 r21 => asDeep .bool a21 fun s5 l22 => asNil l22 <| asCons r21 fun a23 r23 => asRw .bool false a23 fun s6 => asCons r23 fun a24 r24 => asRw .bool false a24 fun s7 => asCons r24 fun a25 r25 => asRw (.arr 2 wI) false a25 fun s8 => asCons r25 fun a26 r26 => asRw wI false a26 fun s9 => asCons r26 fun a27 r27 => asOne w4 a27 fun a28 => asAgL a28 fun l29 => asCons l29 fun a30 r30 => asP (.vec 10) a30 <| asCons r30 fun a31 r31 => asP (.vec 11) a31 <| asCons r31 fun a32 r32 => asD wI a32 fun s10 => asNil r32 <| asCons r27 fun a33 r33 => asRw wI false a33 fun s11 => asCons r33 fun a34 r34 => asRw wI false a34 fun s12 => asNil r34 <| j9r9 (fun z1 z2 z3 z4 => K .ret [(4, .ptr 0 0 []), (5, I z1)] [.one w4 (.agg [.vec 1, .vec 2, I z2]), .row wI z3 false, .row wI z4 false]) s1 s2 s3 s4 s5 s6 s7 s8 s9 s10 s11 s12
theorem j9r9v : JoinV E wF (E.info 9).keep 0 Try.f9.ntmps 10400009 4000009 (jbody Try.f9 4000009) ([1, 4, 7, 8, 9], lsj9r9) := by
  intro vs σ K (h0 : lsj9r9 vs σ K)
  unfold lsj9r9 at h0
  obtain ⟨s1, r1, rfl, h2⟩ := cD h0
  obtain ⟨r2, rfl, h4⟩ := cP h2
  obtain ⟨r3, rfl, h6⟩ := cP h4
  obtain ⟨r4, rfl, h8⟩ := cP h6
  obtain ⟨r5, rfl, h10⟩ := cP h8
  obtain ⟨rfl, h11⟩ := cN h10
  obtain ⟨a6, r6, rfl, h12⟩ := asCons_inv h11
  obtain ⟨a7, rfl, h13⟩ := asOne_inv h12
  obtain ⟨l8, rfl, h14⟩ := asAgL_inv h13
  obtain ⟨r9, rfl, h16⟩ := cP h14
  obtain ⟨r10, rfl, h18⟩ := cP h16
  obtain ⟨s2, r11, rfl, h20⟩ := cD h18
  obtain ⟨rfl, h21⟩ := cN h20
  obtain ⟨s3, r12, rfl, h23⟩ := cR h21
  obtain ⟨s4, r13, rfl, h25⟩ := cR h23
  obtain ⟨a14, r14, rfl, h26⟩ := asCons_inv h25
  obtain ⟨a15, rfl, h27⟩ := asOne_inv h26
  obtain ⟨l16, rfl, h28⟩ := asAgL_inv h27
  obtain ⟨r17, rfl, h30⟩ := cP h28
  obtain ⟨r18, rfl, h32⟩ := cP h30
  obtain ⟨r19, rfl, h34⟩ := cP h32
  obtain ⟨r20, rfl, h36⟩ := cP h34
  obtain ⟨rfl, h37⟩ := cN h36
  obtain ⟨a21, r21, rfl, h38⟩ := asCons_inv h37
  obtain ⟨s5, l22, rfl, h39⟩ := asDeep_inv h38
  obtain ⟨rfl, h40⟩ := cN h39
  obtain ⟨s6, r23, rfl, h42⟩ := cR h40
  obtain ⟨s7, r24, rfl, h44⟩ := cR h42
  obtain ⟨s8, r25, rfl, h46⟩ := cR h44
  obtain ⟨s9, r26, rfl, h48⟩ := cR h46
  obtain ⟨a27, r27, rfl, h49⟩ := asCons_inv h48
  obtain ⟨a28, rfl, h50⟩ := asOne_inv h49
  obtain ⟨l29, rfl, h51⟩ := asAgL_inv h50
  obtain ⟨r30, rfl, h53⟩ := cP h51
  obtain ⟨r31, rfl, h55⟩ := cP h53
  obtain ⟨s10, r32, rfl, h57⟩ := cD h55
  obtain ⟨rfl, h58⟩ := cN h57
  obtain ⟨s11, r33, rfl, h60⟩ := cR h58
  obtain ⟨s12, r34, rfl, h62⟩ := cR h60
  obtain ⟨rfl, h63⟩ := cN h62
  exact join_round2 (S := ofL Sj9r9) (L := lofL Lj9r9) hSj9r9 (inlOK _) (all_eq (by kernel_rfl : subsOf (E.info 9).keep (jbody Try.f9 4000009) = [.loop (body Try.f9 10), .loop (body Try.f9 15), .loop (body Try.f9 22), .loop (body Try.f9 29)]) (all_cons (loopOK_of (mk := 10000010) (sl := [1, 4, 7, 8, 9, 43, 44]) (ss := [([1, 4, 7, 8, 9, 43, 44], lsl9r10)]) (by kernel_rfl) (by kernel_rfl) (all_cons l9r10v (all_nil))) (all_cons (loopOK_of (mk := 10000015) (sl := [1, 4, 7, 8, 9, 58, 59, 60]) (ss := [([1, 4, 7, 8, 9, 58, 59, 60], lsl9r15)]) (by kernel_rfl) (by kernel_rfl) (all_cons l9r15v (all_nil))) (all_cons (loopOK_of (mk := 10000022) (sl := [4, 7, 8, 9, 80, 81]) (ss := [([4, 7, 8, 9, 80, 81], lsl9r22)]) (by kernel_rfl) (by kernel_rfl) (all_cons l9r22v (all_nil))) (all_cons (loopOK_of (mk := 10000029) (sl := [4, 8, 9, 121, 122]) (ss := [([4, 8, 9, 121, 122], lsl9r29)]) (by kernel_rfl) (by kernel_rfl) (all_cons l9r29v (all_nil))) (all_nil)))))) (by kernel_rfl) h63.of
abbrev Sj9r7 : wS := [(18, none, sp18)]
theorem hSj9r7 : SpecOK E (ofL Sj9r7) := specOK_cons h18 (specOK_nil)
abbrev Lj9r7 : wL := [(10400009, [1, 4, 7, 8, 9], none, lsj9r9)]
def lsj9r7 : LSp := fun vs σ K => asCons vs fun a1 r1 => asD wI a1 fun s1 => asCons r1 fun a2 r2 => asP (.ptr 0 0 []) a2 <| asCons r2 fun a3 r3 => asP (.ptr 1 0 []) a3 <| asCons r3 fun a4 r4 => asP (.ptr 4 0 []) a4 <| asNil r4 <| asCons σ fun a5 r5 => asOne w1 a5 fun a6 => asD w1 a6 fun s2 => asCons r5 fun a7 r7 => asOne w4 a7 fun a8 => asAgL a8 fun l9 => asCons l9 fun a10 r10 => asP (.vec 2) a10 <| asCons r10 fun a11 r11 => asP (.vec 3) a11 <| asCons r11 fun a12 r12 => asD wI a12 fun s3 => asNil r12 <| asCons r7 fun a13 r13 => asRw wI false a13 fun s4 => asCons r13 fun a14 r14 => asRw wI false a14 fun s5 => asCons r14 fun a15 r15 => asOne w2 a15 fun a16 => asAgL a16 fun l17 => asCons l17 fun a18 r18 => asP (.vec 5) a18 <| asCons r18 fun a19 r19 => asP (.vec 6) a19 <| asCons r19 fun a20 r20 => asP (.vec 7) a20 <| asCons r20 fun a21 r21 => asP (.vec 8) a21 <| asNil r21 <| asCons r15 fun a22 r22 => asDeep .bool a22 fun s6 l23 => asNil l23 <| asCons r22 fun a24 r24 => asRw .bool false a24 fun s7 => asCons r24 fun a25 r25 => asRw .bool false a25 fun s8 => asCons r25 fun a26 r26 => asRw (.arr 2 wI) false a26 fun s9 => asNil r26 <| j9r7 (fun z1 z2 z3 z4 => K .ret [(4, .ptr 0 0 []), (5, I z1)] [.one w4 (.agg [.vec 1, .vec 2, I z2]), .row wI z3 false, .row wI z4 false]) s1 s2 s3 s4 s5 s6 s7 s8 s9
theorem j9r7v : JoinV E wF (E.info 9).keep 0 Try.f9.ntmps 10400007 4000007 (jbody Try.f9 4000007) ([1, 2, 4, 7], lsj9r7) := by
  intro vs σ K (h0 : lsj9r7 vs σ K)
  unfold lsj9r7 at h0
  obtain ⟨s1, r1, rfl, h2⟩ := cD h0
  obtain ⟨r2, rfl, h4⟩ := cP h2
  obtain ⟨r3, rfl, h6⟩ := cP h4
  obtain ⟨r4, rfl, h8⟩ := cP h6
  obtain ⟨rfl, h9⟩ := cN h8
  obtain ⟨s2, r5, rfl, h12⟩ := oD h9
  obtain ⟨a7, r7, rfl, h13⟩ := asCons_inv h12
  obtain ⟨a8, rfl, h14⟩ := asOne_inv h13
  obtain ⟨l9, rfl, h15⟩ := asAgL_inv h14
  obtain ⟨r10, rfl, h17⟩ := cP h15
  obtain ⟨r11, rfl, h19⟩ := cP h17
  obtain ⟨s3, r12, rfl, h21⟩ := cD h19
  obtain ⟨rfl, h22⟩ := cN h21
  obtain ⟨s4, r13, rfl, h24⟩ := cR h22
  obtain ⟨s5, r14, rfl, h26⟩ := cR h24
  obtain ⟨a15, r15, rfl, h27⟩ := asCons_inv h26
  obtain ⟨a16, rfl, h28⟩ := asOne_inv h27
  obtain ⟨l17, rfl, h29⟩ := asAgL_inv h28
  obtain ⟨r18, rfl, h31⟩ := cP h29
  obtain ⟨r19, rfl, h33⟩ := cP h31
  obtain ⟨r20, rfl, h35⟩ := cP h33
  obtain ⟨r21, rfl, h37⟩ := cP h35
  obtain ⟨rfl, h38⟩ := cN h37
  obtain ⟨a22, r22, rfl, h39⟩ := asCons_inv h38
  obtain ⟨s6, l23, rfl, h40⟩ := asDeep_inv h39
  obtain ⟨rfl, h41⟩ := cN h40
  obtain ⟨s7, r24, rfl, h43⟩ := cR h41
  obtain ⟨s8, r25, rfl, h45⟩ := cR h43
  obtain ⟨s9, r26, rfl, h47⟩ := cR h45
  obtain ⟨rfl, h48⟩ := cN h47
  exact join_round2 (S := ofL Sj9r7) (L := lofL Lj9r7) hSj9r7 (inlOK _) (all_eq (by kernel_rfl : subsOf (E.info 9).keep (jbody Try.f9 4000007) = [.join 4000009 (jbody Try.f9 4000009)]) (all_cons (joinOK_of (mk := 10400009) (sl := [1, 4, 7, 8, 9]) (ss := [([1, 4, 7, 8, 9], lsj9r9)]) (by kernel_rfl) (by kernel_rfl) (all_cons j9r9v (all_nil))) (all_nil))) (by kernel_rfl) h48.of
abbrev S9 : wS := [(11, none, sp11), (12, none, sp12)]
theorem hS9 : SpecOK E (ofL S9) := specOK_cons h11 (specOK_cons h12 (specOK_nil))
abbrev L9 : wL := [(10400007, [1, 2, 4, 7], none, lsj9r7)]
def sp9 : Sp := fun args τ K => asCons args fun a1 r1 => asD w1 a1 fun x1 => asCons r1 fun a2 r2 => asD wI a2 fun x2 => asNil r2 <| asNil τ <| c9 x1 x2 (fun z1 z2 z3 z4 => K (.tup [.agg [.vec 0, .vec 1, I z1], I z2]) [.row wI z3 false, .row wI z4 false])
theorem h9 : ∀ args τ K, sp9 args τ K → ACall E 9 args τ K := by
  intro args τ K h0
  unfold sp9 at h0
  obtain ⟨x1, r1, rfl, h2⟩ := cD h0
  obtain ⟨x2, r2, rfl, h4⟩ := cD h2
  obtain ⟨rfl, h5⟩ := cN h4
  obtain ⟨rfl, h6⟩ := cN h5
  exact ACall.spec2 (fn := Try.f9) (c := codeOf Try.f9) (S := ofL S9) (L := lofL L9) hS9 (by kernel_rfl) (by kernel_rfl) (inlOK _) (all_eq (by kernel_rfl : subsOf (E.info 9).keep (codeOf Try.f9) = [.join 4000007 (jbody Try.f9 4000007)]) (all_cons (joinOK_of (mk := 10400007) (sl := [1, 2, 4, 7]) (ss := [([1, 2, 4, 7], lsj9r7)]) (by kernel_rfl) (by kernel_rfl) (all_cons j9r7v (all_nil))) (all_nil))) (by kernel_rfl) h6.of
abbrev S4 : wS := [(10, none, sp10), (9, none, sp9)]
theorem hS4 : SpecOK E (ofL S4) := specOK_cons h10 (specOK_cons h9 (specOK_nil))
abbrev L4 : wL := []
def sp4 : Sp := fun args τ K => asNil args <| asNil τ <| c4  (fun z1 => K (B z1) [])
theorem h4 : ∀ args τ K, sp4 args τ K → ACall E 4 args τ K := by
  intro args τ K h0
  unfold sp4 at h0
  obtain ⟨rfl, h1⟩ := cN h0
  obtain ⟨rfl, h2⟩ := cN h1
  exact ACall.spec2 (fn := Try.f4) (c := codeOf Try.f4) (S := ofL S4) (L := lofL L4) hS4 (by kernel_rfl) (by kernel_rfl) (inlOK _) (all_eq (by kernel_rfl : subsOf (E.info 4).keep (codeOf Try.f4) = []) (all_nil)) (by kernel_rfl) h2.of
abbrev Sl5r3 : wS := []
theorem hSl5r3 : SpecOK E (ofL Sl5r3) := specOK_nil
abbrev Ll5r3 : wL := []
def lsl5r3 : LSp := fun vs σ K => asCons vs fun a1 r1 => asP (.ptr 0 0 []) a1 <| asCons r1 fun a2 r2 => asD wI a2 fun s1 => asCons r2 fun a3 r3 => asD (.sl w0) a3 fun s2 => asCons r3 fun a4 r4 => asD wI a4 fun s3 => asCons r4 fun a5 r5 => asD wI a5 fun s4 => asNil r5 <| asCons σ fun a6 r6 => asOne w1 a6 fun a7 => asD w1 a7 fun s5 => asNil r6 <| l5r3 (fun z1 z2 => K (.exit 0) [(1, .ptr 0 0 []), (3, I z1)] [.one w1 (.d w1 z2)]) s1 s2 s3 s4 s5
theorem l5r3v : LoopV E wF (E.info 5).keep 0 Try.f5.ntmps 6000003 (body Try.f5 3) ([1, 3, 7, 8, 9], lsl5r3) := by
  intro vs σ K (h0 : lsl5r3 vs σ K)
  unfold lsl5r3 at h0
  obtain ⟨r1, rfl, h2⟩ := cP h0
  obtain ⟨s1, r2, rfl, h4⟩ := cD h2
  obtain ⟨s2, r3, rfl, h6⟩ := cD h4
  obtain ⟨s3, r4, rfl, h8⟩ := cD h6
  obtain ⟨s4, r5, rfl, h10⟩ := cD h8
  obtain ⟨rfl, h11⟩ := cN h10
  obtain ⟨s5, r6, rfl, h14⟩ := oD h11
  obtain ⟨rfl, h15⟩ := cN h14
  intro J hJ
  have hp : ∀ c' ∈ subsOf (E.info 5).keep (body Try.f5 3), SubOK E wF (E.info 5).keep 0 Try.f5.ntmps (lofL Ll5r3) c' := all_eq (by kernel_rfl : subsOf (E.info 5).keep (body Try.f5 3) = []) (all_nil)
  exact h15.of (fun s1 s2 s3 s4 s5 => J [(6000003, .undef), (1, .ptr 0 0 []), (3, I s1), (7, .d (.sl w0) s2), (8, I s3), (9, I s4)] [.one w1 (.d w1 s5)]) (fun s1 s2 s3 s4 s5 hb => loop_round2 (S := ofL Sl5r3) (L := lofL Ll5r3) hSl5r3 (inlOK _) hp hJ (by kernel_rfl) hb)
abbrev S5 : wS := []
theorem hS5 : SpecOK E (ofL S5) := specOK_nil
abbrev L5 : wL := [(6000003, [1, 3, 7, 8, 9], none, lsl5r3)]
def sp5 : Sp := fun args τ K => asCons args fun a1 r1 => asD w1 a1 fun x1 => asNil r1 <| asNil τ <| c5 x1 (fun z1 => K (B z1) [])
theorem h5 : ∀ args τ K, sp5 args τ K → ACall E 5 args τ K := by
  intro args τ K h0
  unfold sp5 at h0
  obtain ⟨x1, r1, rfl, h2⟩ := cD h0
  obtain ⟨rfl, h3⟩ := cN h2
  obtain ⟨rfl, h4⟩ := cN h3
  exact ACall.spec2 (fn := Try.f5) (c := codeOf Try.f5) (S := ofL S5) (L := lofL L5) hS5 (by kernel_rfl) (by kernel_rfl) (inlOK _) (all_eq (by kernel_rfl : subsOf (E.info 5).keep (codeOf Try.f5) = [.loop (body Try.f5 3)]) (all_cons (loopOK_of (mk := 6000003) (sl := [1, 3, 7, 8, 9]) (ss := [([1, 3, 7, 8, 9], lsl5r3)]) (by kernel_rfl) (by kernel_rfl) (all_cons l5r3v (all_nil))) (all_nil))) (by kernel_rfl) h4.of
abbrev Sl6r10 : wS := []
theorem hSl6r10 : SpecOK E (ofL Sl6r10) := specOK_nil
abbrev Ll6r10 : wL := []
def lsl6r10 : LSp := fun vs σ K => asCons vs fun a1 r1 => asP (.vec 0) a1 <| asCons r1 fun a2 r2 => asD wI a2 fun s1 => asCons r2 fun a3 r3 => asP (.vec 1) a3 <| asCons r3 fun a4 r4 => asD wI a4 fun s2 => asCons r4 fun a5 r5 => asP (.vec 2) a5 <| asCons r5 fun a6 r6 => asD wI a6 fun s3 => asCons r6 fun a7 r7 => asD wI a7 fun s4 => asNil r7 <| asCons σ fun a8 r8 => asRw (.arr 2 wI) false a8 fun s5 => asCons r8 fun a9 r9 => asRw .bool false a9 fun s6 => asCons r9 fun a10 r10 => asDeep .bool a10 fun s7 l11 => asCons l11 fun a12 r12 => asHole 1 a12 fun s8 => asNil r12 <| asNil r10 <| l6r10 (fun z1 z2 z3 z4 => K (.exit 2) [(6, .vec 0), (20, .vec 1), (21, I z1), (22, I z2)] [.row (.arr 2 wI) z3 false, .deep .bool z4 []]) s1 s2 s3 s4 s5 s6 s7 s8
theorem l6r10v : LoopV E wF (E.info 6).keep 0 Try.f6.ntmps 7000010 (body Try.f6 10) ([6, 7, 8, 9, 20, 21, 22], lsl6r10) := by
  intro vs σ K (h0 : lsl6r10 vs σ K)
  unfold lsl6r10 at h0
  obtain ⟨r1, rfl, h2⟩ := cP h0
  obtain ⟨s1, r2, rfl, h4⟩ := cD h2
  obtain ⟨r3, rfl, h6⟩ := cP h4
  obtain ⟨s2, r4, rfl, h8⟩ := cD h6
  obtain ⟨r5, rfl, h10⟩ := cP h8
  obtain ⟨s3, r6, rfl, h12⟩ := cD h10
  obtain ⟨s4, r7, rfl, h14⟩ := cD h12
  obtain ⟨rfl, h15⟩ := cN h14
  obtain ⟨s5, r8, rfl, h17⟩ := cR h15
  obtain ⟨s6, r9, rfl, h19⟩ := cR h17
  obtain ⟨a10, r10, rfl, h20⟩ := asCons_inv h19
  obtain ⟨s7, l11, rfl, h21⟩ := asDeep_inv h20
  obtain ⟨a12, r12, rfl, h22⟩ := asCons_inv h21
  obtain ⟨s8, rfl, h23⟩ := asHole_inv h22
  obtain ⟨rfl, h24⟩ := cN h23
  obtain ⟨rfl, h25⟩ := cN h24
  intro J hJ
  have hp : ∀ c' ∈ subsOf (E.info 6).keep (body Try.f6 10), SubOK E wF (E.info 6).keep 0 Try.f6.ntmps (lofL Ll6r10) c' := all_eq (by kernel_rfl : subsOf (E.info 6).keep (body Try.f6 10) = []) (all_nil)
  exact h25.of (fun s1 s2 s3 s4 s5 s6 s7 s8 => J [(7000010, .undef), (6, .vec 0), (7, I s1), (8, .vec 1), (9, I s2), (20, .vec 2), (21, I s3), (22, I s4)] [.row (.arr 2 wI) s5 false, .row .bool s6 false, .deep .bool s7 [(s8, 1)]]) (fun s1 s2 s3 s4 s5 s6 s7 s8 hb => loop_round2 (S := ofL Sl6r10) (L := lofL Ll6r10) hSl6r10 (inlOK _) hp hJ (by kernel_rfl) hb)
abbrev Sl6r7 : wS := []
theorem hSl6r7 : SpecOK E (ofL Sl6r7) := specOK_nil
abbrev Ll6r7 : wL := [(7000010, [6, 7, 8, 9, 20, 21, 22], none, lsl6r10)]
def lsl6r7 : LSp := fun vs σ K => asCons vs fun a1 r1 => asP (.vec 0) a1 <| asCons r1 fun a2 r2 => asP (.vec 1) a2 <| asCons r2 fun a3 r3 => asD wI a3 fun s1 => asCons r3 fun a4 r4 => asD wI a4 fun s2 => asNil r4 <| asCons σ fun a5 r5 => asRw (.arr 2 wI) false a5 fun s3 => asCons r5 fun a6 r6 => asDeep .bool a6 fun s4 l7 => asNil l7 <| asNil r6 <| l6r7 (fun z1 => K (.exit 0) [(6, .vec 0)] [.row (.arr 2 wI) z1 false]) s1 s2 s3 s4
theorem l6r7v : LoopV E wF (E.info 6).keep 0 Try.f6.ntmps 7000007 (body Try.f6 7) ([6, 20, 21, 22], lsl6r7) := by
  intro vs σ K (h0 : lsl6r7 vs σ K)
  unfold lsl6r7 at h0
  obtain ⟨r1, rfl, h2⟩ := cP h0
  obtain ⟨r2, rfl, h4⟩ := cP h2
  obtain ⟨s1, r3, rfl, h6⟩ := cD h4
  obtain ⟨s2, r4, rfl, h8⟩ := cD h6
  obtain ⟨rfl, h9⟩ := cN h8
  obtain ⟨s3, r5, rfl, h11⟩ := cR h9
  obtain ⟨a6, r6, rfl, h12⟩ := asCons_inv h11
  obtain ⟨s4, l7, rfl, h13⟩ := asDeep_inv h12
  obtain ⟨rfl, h14⟩ := cN h13
  obtain ⟨rfl, h15⟩ := cN h14
  intro J hJ
  have hp : ∀ c' ∈ subsOf (E.info 6).keep (body Try.f6 7), SubOK E wF (E.info 6).keep 0 Try.f6.ntmps (lofL Ll6r7) c' := all_eq (by kernel_rfl : subsOf (E.info 6).keep (body Try.f6 7) = [.loop (body Try.f6 10)]) (all_cons (loopOK_of (mk := 7000010) (sl := [6, 7, 8, 9, 20, 21, 22]) (ss := [([6, 7, 8, 9, 20, 21, 22], lsl6r10)]) (by kernel_rfl) (by kernel_rfl) (all_cons l6r10v (all_nil))) (all_nil))
  exact h15.of (fun s1 s2 s3 s4 => J [(7000007, .undef), (6, .vec 0), (20, .vec 1), (21, I s1), (22, I s2)] [.row (.arr 2 wI) s3 false, .deep .bool s4 []]) (fun s1 s2 s3 s4 hb => loop_round2 (S := ofL Sl6r7) (L := lofL Ll6r7) hSl6r7 (inlOK _) hp hJ (by kernel_rfl) hb)
abbrev S6 : wS := [(11, none, sp11), (12, none, sp12)]
theorem hS6 : SpecOK E (ofL S6) := specOK_cons h11 (specOK_cons h12 (specOK_nil))
abbrev L6 : wL := [(7000007, [6, 20, 21, 22], none, lsl6r7)]
def sp6 : Sp := fun args τ K => asCons args fun a1 r1 => asD w1 a1 fun x1 => asNil r1 <| asNil τ <| c6 x1 (fun z1 z2 => K (.tup [.vec 0, I z1]) [.row (.arr 2 wI) z2 false])
theorem h6 : ∀ args τ K, sp6 args τ K → ACall E 6 args τ K := by
  intro args τ K h0
  unfold sp6 at h0
  obtain ⟨x1, r1, rfl, h2⟩ := cD h0
  obtain ⟨rfl, h3⟩ := cN h2
  obtain ⟨rfl, h4⟩ := cN h3
  exact ACall.spec2 (fn := Try.f6) (c := codeOf Try.f6) (S := ofL S6) (L := lofL L6) hS6 (by kernel_rfl) (by kernel_rfl) (inlOK _) (all_eq (by kernel_rfl : subsOf (E.info 6).keep (codeOf Try.f6) = [.loop (body Try.f6 7)]) (all_cons (loopOK_of (mk := 7000007) (sl := [6, 20, 21, 22]) (ss := [([6, 20, 21, 22], lsl6r7)]) (by kernel_rfl) (by kernel_rfl) (all_cons l6r7v (all_nil))) (all_nil))) (by kernel_rfl) h4.of
abbrev Sl7r11 : wS := []
theorem hSl7r11 : SpecOK E (ofL Sl7r11) := specOK_nil
abbrev Ll7r11 : wL := []
def lsl7r11 : LSp := fun vs σ K => asCons vs fun a1 r1 => asP (.ptr 0 0 []) a1 <| asCons r1 fun a2 r2 => asD wI a2 fun s1 => asCons r2 fun a3 r3 => asD (.sl wI) a3 fun s2 => asCons r3 fun a4 r4 => asD wI a4 fun s3 => asCons r4 fun a5 r5 => asD wI a5 fun s4 => asCons r5 fun a6 r6 => asD (.sl wI) a6 fun s5 => asCons r6 fun a7 r7 => asD wI a7 fun s6 => asCons r7 fun a8 r8 => asD wI a8 fun s7 => asNil r8 <| asCons σ fun a9 r9 => asOne w1 a9 fun a10 => asD w1 a10 fun s8 => asNil r9 <| l7r11 (fun z1 => K .ret [(1, .undef), (2, I z1), (40, .undef), (41, .undef), (42, .undef)] []) (fun z1 z2 z3 z4 => K (.exit 2) [(1, .ptr 0 0 []), (2, .undef), (40, .d (.sl wI) z1), (41, I z2), (42, I z3)] [.one w1 (.d w1 z4)]) s1 s2 s3 s4 s5 s6 s7 s8
theorem l7r11v : LoopV E wF (E.info 7).keep 0 Try.f7.ntmps 8000011 (body Try.f7 11) ([1, 4, 40, 41, 42, 58, 59, 60], lsl7r11) := by
  intro vs σ K (h0 : lsl7r11 vs σ K)
  unfold lsl7r11 at h0
  obtain ⟨r1, rfl, h2⟩ := cP h0
  obtain ⟨s1, r2, rfl, h4⟩ := cD h2
  obtain ⟨s2, r3, rfl, h6⟩ := cD h4
  obtain ⟨s3, r4, rfl, h8⟩ := cD h6
  obtain ⟨s4, r5, rfl, h10⟩ := cD h8
  obtain ⟨s5, r6, rfl, h12⟩ := cD h10
  obtain ⟨s6, r7, rfl, h14⟩ := cD h12
  obtain ⟨s7, r8, rfl, h16⟩ := cD h14
  obtain ⟨rfl, h17⟩ := cN h16
  obtain ⟨s8, r9, rfl, h20⟩ := oD h17
  obtain ⟨rfl, h21⟩ := cN h20
  intro J hJ
  have hp : ∀ c' ∈ subsOf (E.info 7).keep (body Try.f7 11), SubOK E wF (E.info 7).keep 0 Try.f7.ntmps (lofL Ll7r11) c' := all_eq (by kernel_rfl : subsOf (E.info 7).keep (body Try.f7 11) = []) (all_nil)
  exact h21.of (fun s1 s2 s3 s4 s5 s6 s7 s8 => J [(8000011, .undef), (1, .ptr 0 0 []), (4, I s1), (40, .d (.sl wI) s2), (41, I s3), (42, I s4), (58, .d (.sl wI) s5), (59, I s6), (60, I s7)] [.one w1 (.d w1 s8)]) (fun s1 s2 s3 s4 s5 s6 s7 s8 hb => loop_round2 (S := ofL Sl7r11) (L := lofL Ll7r11) hSl7r11 (inlOK _) hp hJ (by kernel_rfl) hb)
abbrev Sl7r6 : wS := []
theorem hSl7r6 : SpecOK E (ofL Sl7r6) := specOK_nil
abbrev Ll7r6 : wL := [(8000011, [1, 4, 40, 41, 42, 58, 59, 60], none, lsl7r11)]
def lsl7r6 : LSp := fun vs σ K => asCons vs fun a1 r1 => asP (.ptr 0 0 []) a1 <| asCons r1 fun a2 r2 => asD (.sl wI) a2 fun s1 => asCons r2 fun a3 r3 => asD wI a3 fun s2 => asCons r3 fun a4 r4 => asD wI a4 fun s3 => asNil r4 <| asCons σ fun a5 r5 => asOne w1 a5 fun a6 => asD w1 a6 fun s4 => asNil r5 <| l7r6 (fun z1 => K .ret [(1, .undef), (2, I z1)] []) (fun z1 => K (.exit 0) [(1, .ptr 0 0 []), (2, .undef)] [.one w1 (.d w1 z1)]) s1 s2 s3 s4
theorem l7r6v : LoopV E wF (E.info 7).keep 0 Try.f7.ntmps 8000006 (body Try.f7 6) ([1, 40, 41, 42], lsl7r6) := by
  intro vs σ K (h0 : lsl7r6 vs σ K)
  unfold lsl7r6 at h0
  obtain ⟨r1, rfl, h2⟩ := cP h0
  obtain ⟨s1, r2, rfl, h4⟩ := cD h2
  obtain ⟨s2, r3, rfl, h6⟩ := cD h4
  obtain ⟨s3, r4, rfl, h8⟩ := cD h6
  obtain ⟨rfl, h9⟩ := cN h8
  obtain ⟨s4, r5, rfl, h12⟩ := oD h9
  obtain ⟨rfl, h13⟩ := cN h12
  intro J hJ
  have hp : ∀ c' ∈ subsOf (E.info 7).keep (body Try.f7 6), SubOK E wF (E.info 7).keep 0 Try.f7.ntmps (lofL Ll7r6) c' := all_eq (by kernel_rfl : subsOf (E.info 7).keep (body Try.f7 6) = [.loop (body Try.f7 11)]) (all_cons (loopOK_of (mk := 8000011) (sl := [1, 4, 40, 41, 42, 58, 59, 60]) (ss := [([1, 4, 40, 41, 42, 58, 59, 60], lsl7r11)]) (by kernel_rfl) (by kernel_rfl) (all_cons l7r11v (all_nil))) (all_nil))
  exact h13.of (fun s1 s2 s3 s4 => J [(8000006, .undef), (1, .ptr 0 0 []), (40, .d (.sl wI) s1), (41, I s2), (42, I s3)] [.one w1 (.d w1 s4)]) (fun s1 s2 s3 s4 hb => loop_round2 (S := ofL Sl7r6) (L := lofL Ll7r6) hSl7r6 (inlOK _) hp hJ (by kernel_rfl) hb)
abbrev S49 : wS := []
theorem hS49 : SpecOK E (ofL S49) := specOK_nil
abbrev L49 : wL := []
def sp49 : Sp := fun args τ K => asNil args <| asNil τ <| c49  (fun z1 => K (.vec 0) [.row .str z1 false])
theorem h49 : ∀ args τ K, sp49 args τ K → ACall E 49 args τ K := by
  intro args τ K h0
  unfold sp49 at h0
  obtain ⟨rfl, h1⟩ := cN h0
  obtain ⟨rfl, h2⟩ := cN h1
  exact ACall.spec2 (fn := Try.f49) (c := codeOf Try.f49) (S := ofL S49) (L := lofL L49) hS49 (by kernel_rfl) (by kernel_rfl) (inlOK _) (all_eq (by kernel_rfl : subsOf (E.info 49).keep (codeOf Try.f49) = []) (all_nil)) (by kernel_rfl) h2.of
abbrev S35 : wS := [(49, none, sp49)]
theorem hS35 : SpecOK E (ofL S35) := specOK_cons h49 (specOK_nil)
abbrev L35 : wL := []
def sp35 : Sp := fun args τ K => asCons args fun a1 r1 => asD wI a1 fun x1 => asNil r1 <| asNil τ <| c35 x1 (fun z1 => K (.d .str z1) [])
theorem h35 : ∀ args τ K, sp35 args τ K → ACall E 35 args τ K := by
  intro args τ K h0
  unfold sp35 at h0
  obtain ⟨x1, r1, rfl, h2⟩ := cD h0
  obtain ⟨rfl, h3⟩ := cN h2
  obtain ⟨rfl, h4⟩ := cN h3
  exact ACall.spec2 (fn := Try.f35) (c := codeOf Try.f35) (S := ofL S35) (L := lofL L35) hS35 (by kernel_rfl) (by kernel_rfl) (inlOK _) (all_eq (by kernel_rfl : subsOf (E.info 35).keep (codeOf Try.f35) = []) (all_nil)) (by kernel_rfl) h4.of
abbrev Sl36r2 : wS := []
theorem hSl36r2 : SpecOK E (ofL Sl36r2) := specOK_nil
abbrev Ll36r2 : wL := []
def lsl36r2 : LSp := fun vs σ K => asCons vs fun a1 r1 => asD .str a1 fun s1 => asCons r1 fun a2 r2 => asD (.int .u8) a2 fun s2 => asCons r2 fun a3 r3 => asD wI a3 fun s3 => asCons r3 fun a4 r4 => asD wI a4 fun s4 => asNil r4 <| asNil σ <| l36r2 (fun z1 => K .ret [(4, B z1)] []) (K (.exit 0) [(4, .undef)] []) s1 s2 s3 s4
theorem l36r2v : LoopV E wF (E.info 36).keep 0 Try.f36.ntmps 37000002 (body Try.f36 2) ([0, 1, 7, 8], lsl36r2) := by
  intro vs σ K (h0 : lsl36r2 vs σ K)
  unfold lsl36r2 at h0
  obtain ⟨s1, r1, rfl, h2⟩ := cD h0
  obtain ⟨s2, r2, rfl, h4⟩ := cD h2
  obtain ⟨s3, r3, rfl, h6⟩ := cD h4
  obtain ⟨s4, r4, rfl, h8⟩ := cD h6
  obtain ⟨rfl, h9⟩ := cN h8
  obtain ⟨rfl, h10⟩ := cN h9
  intro J hJ
  have hp : ∀ c' ∈ subsOf (E.info 36).keep (body Try.f36 2), SubOK E wF (E.info 36).keep 0 Try.f36.ntmps (lofL Ll36r2) c' := all_eq (by kernel_rfl : subsOf (E.info 36).keep (body Try.f36 2) = []) (all_nil)
  exact h10.of (fun s1 s2 s3 s4 => J [(37000002, .undef), (0, .d .str s1), (1, .d (.int .u8) s2), (7, I s3), (8, I s4)] []) (fun s1 s2 s3 s4 hb => loop_round2 (S := ofL Sl36r2) (L := lofL Ll36r2) hSl36r2 (inlOK _) hp hJ (by kernel_rfl) hb)
abbrev S36 : wS := []
theorem hS36 : SpecOK E (ofL S36) := specOK_nil
abbrev L36 : wL := [(37000002, [0, 1, 7, 8], none, lsl36r2)]
def sp36 : Sp := fun args τ K => asCons args fun a1 r1 => asD .str a1 fun x1 => asCons r1 fun a2 r2 => asD (.int .u8) a2 fun x2 => asNil r2 <| asNil τ <| c36 x1 x2 (fun z1 => K (B z1) [])
theorem h36 : ∀ args τ K, sp36 args τ K → ACall E 36 args τ K := by
  intro args τ K h0
  unfold sp36 at h0
  obtain ⟨x1, r1, rfl, h2⟩ := cD h0
  obtain ⟨x2, r2, rfl, h4⟩ := cD h2
  obtain ⟨rfl, h5⟩ := cN h4
  obtain ⟨rfl, h6⟩ := cN h5
  exact ACall.spec2 (fn := Try.f36) (c := codeOf Try.f36) (S := ofL S36) (L := lofL L36) hS36 (by kernel_rfl) (by kernel_rfl) (inlOK _) (all_eq (by kernel_rfl : subsOf (E.info 36).keep (codeOf Try.f36) = [.loop (body Try.f36 2)]) (all_cons (loopOK_of (mk := 37000002) (sl := [0, 1, 7, 8]) (ss := [([0, 1, 7, 8], lsl36r2)]) (by kernel_rfl) (by kernel_rfl) (all_cons l36r2v (all_nil))) (all_nil))) (by kernel_rfl) h6.of
abbrev Sl13r5 : wS := [(36, none, sp36)]
theorem hSl13r5 : SpecOK E (ofL Sl13r5) := specOK_cons h36 (specOK_nil)
abbrev Ll13r5 : wL := []
def lsl13r5 : LSp := fun vs σ K => asCons vs fun a1 r1 => asD wI a1 fun s1 => asCons r1 fun a2 r2 => asP (.ptr 0 0 []) a2 <| asCons r2 fun a3 r3 => asD .str a3 fun s2 => asCons r3 fun a4 r4 => asP (.vec 1) a4 <| asCons r4 fun a5 r5 => asD wI a5 fun s3 => asCons r5 fun a6 r6 => asD wI a6 fun s4 => asNil r6 <| asCons σ fun a7 r7 => asOne w3 a7 fun a8 => asD w3 a8 fun s5 => asCons r7 fun a9 r9 => asRw wI false a9 fun s6 => asNil r9 <| l13r5 (fun z1 => K .ret [(1, .undef), (2, .undef), (4, I z1)] []) (fun z1 z2 => K (.exit 0) [(1, I z1), (2, .ptr 0 0 []), (4, .undef)] [.one w3 (.d w3 z2)]) s1 s2 s3 s4 s5 s6
theorem l13r5v : LoopV E wF (E.info 13).keep 0 Try.f13.ntmps 14000005 (body Try.f13 5) ([1, 2, 5, 28, 29, 30], lsl13r5) := by
  intro vs σ K (h0 : lsl13r5 vs σ K)
  unfold lsl13r5 at h0
  obtain ⟨s1, r1, rfl, h2⟩ := cD h0
  obtain ⟨r2, rfl, h4⟩ := cP h2
  obtain ⟨s2, r3, rfl, h6⟩ := cD h4
  obtain ⟨r4, rfl, h8⟩ := cP h6
  obtain ⟨s3, r5, rfl, h10⟩ := cD h8
  obtain ⟨s4, r6, rfl, h12⟩ := cD h10
  obtain ⟨rfl, h13⟩ := cN h12
  obtain ⟨s5, r7, rfl, h16⟩ := oD h13
  obtain ⟨s6, r9, rfl, h18⟩ := cR h16
  obtain ⟨rfl, h19⟩ := cN h18
  intro J hJ
  have hp : ∀ c' ∈ subsOf (E.info 13).keep (body Try.f13 5), SubOK E wF (E.info 13).keep 0 Try.f13.ntmps (lofL Ll13r5) c' := all_eq (by kernel_rfl : subsOf (E.info 13).keep (body Try.f13 5) = []) (all_nil)
  exact h19.of (fun s1 s2 s3 s4 s5 s6 => J [(14000005, .undef), (1, I s1), (2, .ptr 0 0 []), (5, .d .str s2), (28, .vec 1), (29, I s3), (30, I s4)] [.one w3 (.d w3 s5), .row wI s6 false]) (fun s1 s2 s3 s4 s5 s6 hb => loop_round2 (S := ofL Sl13r5) (L := lofL Ll13r5) hSl13r5 (inlOK _) hp hJ (by kernel_rfl) hb)
abbrev Sl13r23 : wS := []
theorem hSl13r23 : SpecOK E (ofL Sl13r23) := specOK_nil
abbrev Ll13r23 : wL := []
def lsl13r23 : LSp := fun vs σ K => asCons vs fun a1 r1 => asD wI a1 fun s1 => asCons r1 fun a2 r2 => asP (.vec 0) a2 <| asCons r2 fun a3 r3 => asD wI a3 fun s2 => asCons r3 fun a4 r4 => asD wI a4 fun s3 => asNil r4 <| asCons σ fun a5 r5 => asRw wI false a5 fun s4 => asNil r5 <| l13r23 (fun z1 => K .ret [(4, I z1)] []) (K (.exit 3) [(4, .undef)] []) s1 s2 s3 s4
theorem l13r23v : LoopV E wF (E.info 13).keep 0 Try.f13.ntmps 14000023 (body Try.f13 23) ([1, 80, 81, 82], lsl13r23) := by
  intro vs σ K (h0 : lsl13r23 vs σ K)
  unfold lsl13r23 at h0
  obtain ⟨s1, r1, rfl, h2⟩ := cD h0
  obtain ⟨r2, rfl, h4⟩ := cP h2
  obtain ⟨s2, r3, rfl, h6⟩ := cD h4
  obtain ⟨s3, r4, rfl, h8⟩ := cD h6
  obtain ⟨rfl, h9⟩ := cN h8
  obtain ⟨s4, r5, rfl, h11⟩ := cR h9
  obtain ⟨rfl, h12⟩ := cN h11
  intro J hJ
  have hp : ∀ c' ∈ subsOf (E.info 13).keep (body Try.f13 23), SubOK E wF (E.info 13).keep 0 Try.f13.ntmps (lofL Ll13r23) c' := all_eq (by kernel_rfl : subsOf (E.info 13).keep (body Try.f13 23) = []) (all_nil)
  exact h12.of (fun s1 s2 s3 s4 => J [(14000023, .undef), (1, I s1), (80, .vec 0), (81, I s2), (82, I s3)] [.row wI s4 false]) (fun s1 s2 s3 s4 hb => loop_round2 (S := ofL Sl13r23) (L := lofL Ll13r23) hSl13r23 (inlOK _) hp hJ (by kernel_rfl) hb)
abbrev Sj13r20 : wS := []
theorem hSj13r20 : SpecOK E (ofL Sj13r20) := specOK_nil
abbrev Lj13r20 : wL := [(14000023, [1, 80, 81, 82], none, lsl13r23)]
def lsj13r20 : LSp := fun vs σ K => asCons vs fun a1 r1 => asD wI a1 fun s1 => asCons r1 fun a2 r2 => asP (.ptr 0 0 []) a2 <| asCons r2 fun a3 r3 => asD wI a3 fun s2 => asCons r3 fun a4 r4 => asD wI a4 fun s3 => asNil r4 <| asCons σ fun a5 r5 => asOne w3 a5 fun a6 => asD w3 a6 fun s4 => asNil r5 <| j13r20 (fun z1 => K .ret [(4, I z1)] []) s1 s2 s3 s4
theorem j13r20v : JoinV E wF (E.info 13).keep 0 Try.f13.ntmps 14400020 4000020 (jbody Try.f13 4000020) ([1, 2, 8, 9], lsj13r20) := by
  intro vs σ K (h0 : lsj13r20 vs σ K)
  unfold lsj13r20 at h0
  obtain ⟨s1, r1, rfl, h2⟩ := cD h0
  obtain ⟨r2, rfl, h4⟩ := cP h2
  obtain ⟨s2, r3, rfl, h6⟩ := cD h4
  obtain ⟨s3, r4, rfl, h8⟩ := cD h6
  obtain ⟨rfl, h9⟩ := cN h8
  obtain ⟨s4, r5, rfl, h12⟩ := oD h9
  obtain ⟨rfl, h13⟩ := cN h12
  exact join_round2 (S := ofL Sj13r20) (L := lofL Lj13r20) hSj13r20 (inlOK _) (all_eq (by kernel_rfl : subsOf (E.info 13).keep (jbody Try.f13 4000020) = [.loop (body Try.f13 23)]) (all_cons (loopOK_of (mk := 14000023) (sl := [1, 80, 81, 82]) (ss := [([1, 80, 81, 82], lsl13r23)]) (by kernel_rfl) (by kernel_rfl) (all_cons l13r23v (all_nil))) (all_nil))) (by kernel_rfl) h13.of
abbrev S13 : wS := [(35, none, sp35)]
theorem hS13 : SpecOK E (ofL S13) := specOK_cons h35 (specOK_nil)
abbrev L13 : wL := [(14000005, [1, 2, 5, 28, 29, 30], none, lsl13r5), (14400020, [1, 2, 8, 9], none, lsj13r20)]
def sp13 : Sp := fun args τ K => asCons args fun a1 r1 => asD w3 a1 fun x1 => asCons r1 fun a2 r2 => asD wI a2 fun x2 => asNil r2 <| asNil τ <| c13 x1 x2 (fun z1 => K (I z1) [])
theorem h13 : ∀ args τ K, sp13 args τ K → ACall E 13 args τ K := by
  intro args τ K h0
  unfold sp13 at h0
  obtain ⟨x1, r1, rfl, h2⟩ := cD h0
  obtain ⟨x2, r2, rfl, h4⟩ := cD h2
  obtain ⟨rfl, h5⟩ := cN h4
  obtain ⟨rfl, h6⟩ := cN h5
  exact ACall.spec2 (fn := Try.f13) (c := codeOf Try.f13) (S := ofL S13) (L := lofL L13) hS13 (by kernel_rfl) (by kernel_rfl) (inlOK _) (all_eq (by kernel_rfl : subsOf (E.info 13).keep (codeOf Try.f13) = [.loop (body Try.f13 5), .join 4000020 (jbody Try.f13 4000020)]) (all_cons (loopOK_of (mk := 14000005) (sl := [1, 2, 5, 28, 29, 30]) (ss := [([1, 2, 5, 28, 29, 30], lsl13r5)]) (by kernel_rfl) (by kernel_rfl) (all_cons l13r5v (all_nil))) (all_cons (joinOK_of (mk := 14400020) (sl := [1, 2, 8, 9]) (ss := [([1, 2, 8, 9], lsj13r20)]) (by kernel_rfl) (by kernel_rfl) (all_cons j13r20v (all_nil))) (all_nil)))) (by kernel_rfl) h6.of
abbrev Sl7r25 : wS := [(13, none, sp13)]
theorem hSl7r25 : SpecOK E (ofL Sl7r25) := specOK_cons h13 (specOK_nil)
abbrev Ll7r25 : wL := []
def lsl7r25 : LSp := fun vs σ K => asCons vs fun a1 r1 => asP (.ptr 0 0 []) a1 <| asCons r1 fun a2 r2 => asD wI a2 fun s1 => asCons r2 fun a3 r3 => asP (.ptr 1 0 []) a3 <| asCons r3 fun a4 r4 => asD (.sl w0) a4 fun s2 => asCons r4 fun a5 r5 => asD wI a5 fun s3 => asCons r5 fun a6 r6 => asD wI a6 fun s4 => asCons r6 fun a7 r7 => asD (.sl w3) a7 fun s5 => asCons r7 fun a8 r8 => asD wI a8 fun s6 => asCons r8 fun a9 r9 => asD wI a9 fun s7 => asNil r9 <| asCons σ fun a10 r10 => asOne w1 a10 fun a11 => asD w1 a11 fun s8 => asCons r10 fun a12 r12 => asOne w0 a12 fun a13 => asD w0 a13 fun s9 => asNil r12 <| l7r25 (fun z1 => K .ret [(1, .undef), (2, I z1), (7, .undef), (9, .undef), (70, .undef), (71, .undef), (72, .undef)] []) (fun z1 z2 z3 z4 z5 z6 => K (.exit 6) [(1, .ptr 0 0 []), (2, .undef), (7, I z1), (9, .ptr 1 0 []), (70, .d (.sl w0) z2), (71, I z3), (72, I z4)] [.one w1 (.d w1 z5), .one w0 (.d w0 z6)]) s1 s2 s3 s4 s5 s6 s7 s8 s9
theorem l7r25v : LoopV E wF (E.info 7).keep 0 Try.f7.ntmps 8000025 (body Try.f7 25) ([1, 7, 9, 70, 71, 72, 84, 85, 86], lsl7r25) := by
  intro vs σ K (h0 : lsl7r25 vs σ K)
  unfold lsl7r25 at h0
  obtain ⟨r1, rfl, h2⟩ := cP h0
  obtain ⟨s1, r2, rfl, h4⟩ := cD h2
  obtain ⟨r3, rfl, h6⟩ := cP h4
  obtain ⟨s2, r4, rfl, h8⟩ := cD h6
  obtain ⟨s3, r5, rfl, h10⟩ := cD h8
  obtain ⟨s4, r6, rfl, h12⟩ := cD h10
  obtain ⟨s5, r7, rfl, h14⟩ := cD h12
  obtain ⟨s6, r8, rfl, h16⟩ := cD h14
  obtain ⟨s7, r9, rfl, h18⟩ := cD h16
  obtain ⟨rfl, h19⟩ := cN h18
  obtain ⟨s8, r10, rfl, h22⟩ := oD h19
  obtain ⟨s9, r12, rfl, h25⟩ := oD h22
  obtain ⟨rfl, h26⟩ := cN h25
  intro J hJ
  have hp : ∀ c' ∈ subsOf (E.info 7).keep (body Try.f7 25), SubOK E wF (E.info 7).keep 0 Try.f7.ntmps (lofL Ll7r25) c' := all_eq (by kernel_rfl : subsOf (E.info 7).keep (body Try.f7 25) = []) (all_nil)
  exact h26.of (fun s1 s2 s3 s4 s5 s6 s7 s8 s9 => J [(8000025, .undef), (1, .ptr 0 0 []), (7, I s1), (9, .ptr 1 0 []), (70, .d (.sl w0) s2), (71, I s3), (72, I s4), (84, .d (.sl w3) s5), (85, I s6), (86, I s7)] [.one w1 (.d w1 s8), .one w0 (.d w0 s9)]) (fun s1 s2 s3 s4 s5 s6 s7 s8 s9 hb => loop_round2 (S := ofL Sl7r25) (L := lofL Ll7r25) hSl7r25 (inlOK _) hp hJ (by kernel_rfl) hb)
abbrev Sl14r6 : wS := [(36, none, sp36)]
theorem hSl14r6 : SpecOK E (ofL Sl14r6) := specOK_cons h36 (specOK_nil)
abbrev Ll14r6 : wL := []
def lsl14r6 : LSp := fun vs σ K => asCons vs fun a1 r1 => asD wI a1 fun s1 => asCons r1 fun a2 r2 => asD wI a2 fun s2 => asCons r2 fun a3 r3 => asP (.ptr 0 0 []) a3 <| asCons r3 fun a4 r4 => asD .str a4 fun s3 => asCons r4 fun a5 r5 => asD wI a5 fun s4 => asCons r5 fun a6 r6 => asP (.vec 1) a6 <| asCons r6 fun a7 r7 => asD wI a7 fun s5 => asCons r7 fun a8 r8 => asD wI a8 fun s6 => asNil r8 <| asCons σ fun a9 r9 => asOne w3 a9 fun a10 => asD w3 a10 fun s7 => asCons r9 fun a11 r11 => asRw wI false a11 fun s8 => asNil r11 <| l14r6 (fun z1 => K .ret [(1, .undef), (2, .undef), (3, .undef), (6, I z1), (8, .undef)] []) (fun z1 z2 z3 z4 => K (.exit 0) [(1, I z1), (2, I z2), (3, .ptr 0 0 []), (6, .undef), (8, I z3)] [.one w3 (.d w3 z4)]) s1 s2 s3 s4 s5 s6 s7 s8
theorem l14r6v : LoopV E wF (E.info 14).keep 0 Try.f14.ntmps 15000006 (body Try.f14 6) ([1, 2, 3, 7, 8, 39, 40, 41], lsl14r6) := by
  intro vs σ K (h0 : lsl14r6 vs σ K)
  unfold lsl14r6 at h0
  obtain ⟨s1, r1, rfl, h2⟩ := cD h0
  obtain ⟨s2, r2, rfl, h4⟩ := cD h2
  obtain ⟨r3, rfl, h6⟩ := cP h4
  obtain ⟨s3, r4, rfl, h8⟩ := cD h6
  obtain ⟨s4, r5, rfl, h10⟩ := cD h8
  obtain ⟨r6, rfl, h12⟩ := cP h10
  obtain ⟨s5, r7, rfl, h14⟩ := cD h12
  obtain ⟨s6, r8, rfl, h16⟩ := cD h14
  obtain ⟨rfl, h17⟩ := cN h16
  obtain ⟨s7, r9, rfl, h20⟩ := oD h17
  obtain ⟨s8, r11, rfl, h22⟩ := cR h20
  obtain ⟨rfl, h23⟩ := cN h22
  intro J hJ
  have hp : ∀ c' ∈ subsOf (E.info 14).keep (body Try.f14 6), SubOK E wF (E.info 14).keep 0 Try.f14.ntmps (lofL Ll14r6) c' := all_eq (by kernel_rfl : subsOf (E.info 14).keep (body Try.f14 6) = []) (all_nil)
  exact h23.of (fun s1 s2 s3 s4 s5 s6 s7 s8 => J [(15000006, .undef), (1, I s1), (2, I s2), (3, .ptr 0 0 []), (7, .d .str s3), (8, I s4), (39, .vec 1), (40, I s5), (41, I s6)] [.one w3 (.d w3 s7), .row wI s8 false]) (fun s1 s2 s3 s4 s5 s6 s7 s8 hb => loop_round2 (S := ofL Sl14r6) (L := lofL Ll14r6) hSl14r6 (inlOK _) hp hJ (by kernel_rfl) hb)
abbrev Sj14s11 : wS := []
theorem hSj14s11 : SpecOK E (ofL Sj14s11) := specOK_nil
abbrev Lj14s11 : wL := []
def lsj14s11 : LSp := fun vs σ K => asCons vs fun a1 r1 => asD wI a1 fun s1 => asCons r1 fun a2 r2 => asD wI a2 fun s2 => asCons r2 fun a3 r3 => asP (.ptr 0 0 []) a3 <| asCons r3 fun a4 r4 => asD .bool a4 fun s3 => asNil r4 <| asCons σ fun a5 r5 => asOne w3 a5 fun a6 => asD w3 a6 fun s4 => asNil r5 <| j14s11 (fun z1 => K .ret [(1, .undef), (2, .undef), (3, .undef), (6, I z1)] []) (fun z1 z2 z3 => K .normal [(1, I z1), (2, I z2), (3, .ptr 0 0 []), (6, .undef)] [.one w3 (.d w3 z3)]) s1 s2 s3 s4
theorem j14s11v : JoinV E wF (E.info 14).keep 0 Try.f14.ntmps 15500011 5000011 (jbody Try.f14 5000011) ([1, 2, 3, 90], lsj14s11) := by
  intro vs σ K (h0 : lsj14s11 vs σ K)
  unfold lsj14s11 at h0
  obtain ⟨s1, r1, rfl, h2⟩ := cD h0
  obtain ⟨s2, r2, rfl, h4⟩ := cD h2
  obtain ⟨r3, rfl, h6⟩ := cP h4
  obtain ⟨s3, r4, rfl, h8⟩ := cD h6
  obtain ⟨rfl, h9⟩ := cN h8
  obtain ⟨s4, r5, rfl, h12⟩ := oD h9
  obtain ⟨rfl, h13⟩ := cN h12
  exact join_round2 (S := ofL Sj14s11) (L := lofL Lj14s11) hSj14s11 (inlOK _) (all_eq (by kernel_rfl : subsOf (E.info 14).keep (jbody Try.f14 5000011) = []) (all_nil)) (by kernel_rfl) h13.of
abbrev Sl14r16 : wS := []
theorem hSl14r16 : SpecOK E (ofL Sl14r16) := specOK_nil
abbrev Ll14r16 : wL := []
def lsl14r16 : LSp := fun vs σ K => asCons vs fun a1 r1 => asD wI a1 fun s1 => asCons r1 fun a2 r2 => asD (.sl wI) a2 fun s2 => asCons r2 fun a3 r3 => asD wI a3 fun s3 => asCons r3 fun a4 r4 => asD wI a4 fun s4 => asNil r4 <| asNil σ <| l14r16 (fun z1 => K .ret [(6, I z1)] []) (K (.exit 2) [(6, .undef)] []) s1 s2 s3 s4
theorem l14r16v : LoopV E wF (E.info 14).keep 0 Try.f14.ntmps 15000016 (body Try.f14 16) ([2, 112, 113, 114], lsl14r16) := by
  intro vs σ K (h0 : lsl14r16 vs σ K)
  unfold lsl14r16 at h0
  obtain ⟨s1, r1, rfl, h2⟩ := cD h0
  obtain ⟨s2, r2, rfl, h4⟩ := cD h2
  obtain ⟨s3, r3, rfl, h6⟩ := cD h4
  obtain ⟨s4, r4, rfl, h8⟩ := cD h6
  obtain ⟨rfl, h9⟩ := cN h8
  obtain ⟨rfl, h10⟩ := cN h9
  intro J hJ
  have hp : ∀ c' ∈ subsOf (E.info 14).keep (body Try.f14 16), SubOK E wF (E.info 14).keep 0 Try.f14.ntmps (lofL Ll14r16) c' := all_eq (by kernel_rfl : subsOf (E.info 14).keep (body Try.f14 16) = []) (all_nil)
  exact h10.of (fun s1 s2 s3 s4 => J [(15000016, .undef), (2, I s1), (112, .d (.sl wI) s2), (113, I s3), (114, I s4)] []) (fun s1 s2 s3 s4 hb => loop_round2 (S := ofL Sl14r16) (L := lofL Ll14r16) hSl14r16 (inlOK _) hp hJ (by kernel_rfl) hb)
abbrev Sj14r13 : wS := []
theorem hSj14r13 : SpecOK E (ofL Sj14r13) := specOK_nil
abbrev Lj14r13 : wL := [(15000016, [2, 112, 113, 114], none, lsl14r16)]
def lsj14r13 : LSp := fun vs σ K => asCons vs fun a1 r1 => asD wI a1 fun s1 => asCons r1 fun a2 r2 => asD wI a2 fun s2 => asCons r2 fun a3 r3 => asP (.ptr 0 0 []) a3 <| asNil r3 <| asCons σ fun a4 r4 => asOne w3 a4 fun a5 => asD w3 a5 fun s3 => asNil r4 <| j14r13 (fun z1 => K .ret [(6, I z1)] []) s1 s2 s3
theorem j14r13v : JoinV E wF (E.info 14).keep 0 Try.f14.ntmps 15400013 4000013 (jbody Try.f14 4000013) ([1, 2, 3], lsj14r13) := by
  intro vs σ K (h0 : lsj14r13 vs σ K)
  unfold lsj14r13 at h0
  obtain ⟨s1, r1, rfl, h2⟩ := cD h0
  obtain ⟨s2, r2, rfl, h4⟩ := cD h2
  obtain ⟨r3, rfl, h6⟩ := cP h4
  obtain ⟨rfl, h7⟩ := cN h6
  obtain ⟨s3, r4, rfl, h10⟩ := oD h7
  obtain ⟨rfl, h11⟩ := cN h10
  exact join_round2 (S := ofL Sj14r13) (L := lofL Lj14r13) hSj14r13 (inlOK _) (all_eq (by kernel_rfl : subsOf (E.info 14).keep (jbody Try.f14 4000013) = [.loop (body Try.f14 16)]) (all_cons (loopOK_of (mk := 15000016) (sl := [2, 112, 113, 114]) (ss := [([2, 112, 113, 114], lsl14r16)]) (by kernel_rfl) (by kernel_rfl) (all_cons l14r16v (all_nil))) (all_nil))) (by kernel_rfl) h11.of
abbrev S14 : wS := []
theorem hS14 : SpecOK E (ofL S14) := specOK_nil
abbrev L14 : wL := [(15000006, [1, 2, 3, 7, 8, 39, 40, 41], none, lsl14r6), (15500011, [1, 2, 3, 90], none, lsj14s11), (15400013, [1, 2, 3], none, lsj14r13)]
def sp14 : Sp := fun args τ K => asCons args fun a1 r1 => asD w3 a1 fun x1 => asCons r1 fun a2 r2 => asD wI a2 fun x2 => asCons r2 fun a3 r3 => asD wI a3 fun x3 => asNil r3 <| asNil τ <| c14 x1 x2 x3 (fun z1 => K (I z1) [])
theorem h14 : ∀ args τ K, sp14 args τ K → ACall E 14 args τ K := by
  intro args τ K h0
  unfold sp14 at h0
  obtain ⟨x1, r1, rfl, h2⟩ := cD h0
  obtain ⟨x2, r2, rfl, h4⟩ := cD h2
  obtain ⟨x3, r3, rfl, h6⟩ := cD h4
  obtain ⟨rfl, h7⟩ := cN h6
  obtain ⟨rfl, h8⟩ := cN h7
  exact ACall.spec2 (fn := Try.f14) (c := codeOf Try.f14) (S := ofL S14) (L := lofL L14) hS14 (by kernel_rfl) (by kernel_rfl) (inlOK _) (all_eq (by kernel_rfl : subsOf (E.info 14).keep (codeOf Try.f14) = [.loop (body Try.f14 6), .join 4000013 (jbody Try.f14 4000013), .join 5000011 (jbody Try.f14 5000011)]) (all_cons (loopOK_of (mk := 15000006) (sl := [1, 2, 3, 7, 8, 39, 40, 41]) (ss := [([1, 2, 3, 7, 8, 39, 40, 41], lsl14r6)]) (by kernel_rfl) (by kernel_rfl) (all_cons l14r6v (all_nil))) (all_cons (joinOK_of (mk := 15400013) (sl := [1, 2, 3]) (ss := [([1, 2, 3], lsj14r13)]) (by kernel_rfl) (by kernel_rfl) (all_cons j14r13v (all_nil))) (all_cons (joinOK_of (mk := 15500011) (sl := [1, 2, 3, 90]) (ss := [([1, 2, 3, 90], lsj14s11)]) (by kernel_rfl) (by kernel_rfl) (all_cons j14s11v (all_nil))) (all_nil))))) (by kernel_rfl) h8.of
abbrev Sl7r19 : wS := [(14, none, sp14)]
theorem hSl7r19 : SpecOK E (ofL Sl7r19) := specOK_cons h14 (specOK_nil)
abbrev Ll7r19 : wL := [(8000025, [1, 7, 9, 70, 71, 72, 84, 85, 86], none, lsl7r25)]
def lsl7r19 : LSp := fun vs σ K => asCons vs fun a1 r1 => asP (.ptr 0 0 []) a1 <| asCons r1 fun a2 r2 => asD wI a2 fun s1 => asCons r2 fun a3 r3 => asD (.sl w0) a3 fun s2 => asCons r3 fun a4 r4 => asD wI a4 fun s3 => asCons r4 fun a5 r5 => asD wI a5 fun s4 => asNil r5 <| asCons σ fun a6 r6 => asOne w1 a6 fun a7 => asD w1 a7 fun s5 => asNil r6 <| l7r19 (fun z1 => K .ret [(1, .undef), (2, I z1)] []) (fun z1 => K (.exit 4) [(1, .ptr 0 0 []), (2, .undef)] [.one w1 (.d w1 z1)]) s1 s2 s3 s4 s5
theorem l7r19v : LoopV E wF (E.info 7).keep 0 Try.f7.ntmps 8000019 (body Try.f7 19) ([1, 7, 70, 71, 72], lsl7r19) := by
  intro vs σ K (h0 : lsl7r19 vs σ K)
  unfold lsl7r19 at h0
  obtain ⟨r1, rfl, h2⟩ := cP h0
  obtain ⟨s1, r2, rfl, h4⟩ := cD h2
  obtain ⟨s2, r3, rfl, h6⟩ := cD h4
  obtain ⟨s3, r4, rfl, h8⟩ := cD h6
  obtain ⟨s4, r5, rfl, h10⟩ := cD h8
  obtain ⟨rfl, h11⟩ := cN h10
  obtain ⟨s5, r6, rfl, h14⟩ := oD h11
  obtain ⟨rfl, h15⟩ := cN h14
  intro J hJ
  have hp : ∀ c' ∈ subsOf (E.info 7).keep (body Try.f7 19), SubOK E wF (E.info 7).keep 0 Try.f7.ntmps (lofL Ll7r19) c' := all_eq (by kernel_rfl : subsOf (E.info 7).keep (body Try.f7 19) = [.loop (body Try.f7 25)]) (all_cons (loopOK_of (mk := 8000025) (sl := [1, 7, 9, 70, 71, 72, 84, 85, 86]) (ss := [([1, 7, 9, 70, 71, 72, 84, 85, 86], lsl7r25)]) (by kernel_rfl) (by kernel_rfl) (all_cons l7r25v (all_nil))) (all_nil))
  exact h15.of (fun s1 s2 s3 s4 s5 => J [(8000019, .undef), (1, .ptr 0 0 []), (7, I s1), (70, .d (.sl w0) s2), (71, I s3), (72, I s4)] [.one w1 (.d w1 s5)]) (fun s1 s2 s3 s4 s5 hb => loop_round2 (S := ofL Sl7r19) (L := lofL Ll7r19) hSl7r19 (inlOK _) hp hJ (by kernel_rfl) hb)
abbrev Sl37r3 : wS := []
theorem hSl37r3 : SpecOK E (ofL Sl37r3) := specOK_nil
abbrev Ll37r3 : wL := []
def lsl37r3 : LSp := fun vs σ K => asCons vs fun a1 r1 => asP (.vec 0) a1 <| asCons r1 fun a2 r2 => asP (.vec 1) a2 <| asCons r2 fun a3 r3 => asD wI a3 fun s1 => asCons r3 fun a4 r4 => asD wI a4 fun s2 => asNil r4 <| asCons σ fun a5 r5 => asRw wI false a5 fun s3 => asCons r5 fun a6 r6 => asRw wI false a6 fun s4 => asNil r6 <| l37r3 (fun z1 => K (.exit 0) [(3, .vec 0)] [.row wI z1 false]) s1 s2 s3 s4
theorem l37r3v : LoopV E wF (E.info 37).keep 0 Try.f37.ntmps 38000003 (body Try.f37 3) ([3, 13, 14, 15], lsl37r3) := by
  intro vs σ K (h0 : lsl37r3 vs σ K)
  unfold lsl37r3 at h0
  obtain ⟨r1, rfl, h2⟩ := cP h0
  obtain ⟨r2, rfl, h4⟩ := cP h2
  obtain ⟨s1, r3, rfl, h6⟩ := cD h4
  obtain ⟨s2, r4, rfl, h8⟩ := cD h6
  obtain ⟨rfl, h9⟩ := cN h8
  obtain ⟨s3, r5, rfl, h11⟩ := cR h9
  obtain ⟨s4, r6, rfl, h13⟩ := cR h11
  obtain ⟨rfl, h14⟩ := cN h13
  intro J hJ
  have hp : ∀ c' ∈ subsOf (E.info 37).keep (body Try.f37 3), SubOK E wF (E.info 37).keep 0 Try.f37.ntmps (lofL Ll37r3) c' := all_eq (by kernel_rfl : subsOf (E.info 37).keep (body Try.f37 3) = []) (all_nil)
  exact h14.of (fun s1 s2 s3 s4 => J [(38000003, .undef), (3, .vec 0), (13, .vec 1), (14, I s1), (15, I s2)] [.row wI s3 false, .row wI s4 false]) (fun s1 s2 s3 s4 hb => loop_round2 (S := ofL Sl37r3) (L := lofL Ll37r3) hSl37r3 (inlOK _) hp hJ (by kernel_rfl) hb)
abbrev S37 : wS := []
theorem hS37 : SpecOK E (ofL S37) := specOK_nil
abbrev L37 : wL := [(38000003, [3, 13, 14, 15], none, lsl37r3)]
def sp37 : Sp := fun args τ K => asCons args fun a1 r1 => asD w3 a1 fun x1 => asNil r1 <| asNil τ <| c37 x1 (fun z1 => K (.vec 0) [.row wI z1 false])
theorem h37 : ∀ args τ K, sp37 args τ K → ACall E 37 args τ K := by
  intro args τ K h0
  unfold sp37 at h0
  obtain ⟨x1, r1, rfl, h2⟩ := cD h0
  obtain ⟨rfl, h3⟩ := cN h2
  obtain ⟨rfl, h4⟩ := cN h3
  exact ACall.spec2 (fn := Try.f37) (c := codeOf Try.f37) (S := ofL S37) (L := lofL L37) hS37 (by kernel_rfl) (by kernel_rfl) (inlOK _) (all_eq (by kernel_rfl : subsOf (E.info 37).keep (codeOf Try.f37) = [.loop (body Try.f37 3)]) (all_cons (loopOK_of (mk := 38000003) (sl := [3, 13, 14, 15]) (ss := [([3, 13, 14, 15], lsl37r3)]) (by kernel_rfl) (by kernel_rfl) (all_cons l37r3v (all_nil))) (all_nil))) (by kernel_rfl) h4.of
abbrev Sl16r2 : wS := []
theorem hSl16r2 : SpecOK E (ofL Sl16r2) := specOK_nil
abbrev Ll16r2 : wL := []
def lsl16r2 : LSp := fun vs σ K => asCons vs fun a1 r1 => asD wI a1 fun s1 => asCons r1 fun a2 r2 => asD (.sl wI) a2 fun s2 => asCons r2 fun a3 r3 => asD wI a3 fun s3 => asCons r3 fun a4 r4 => asD wI a4 fun s4 => asNil r4 <| asNil σ <| l16r2 (fun z1 => K .ret [(4, B z1)] []) (K (.exit 0) [(4, .undef)] []) s1 s2 s3 s4
theorem l16r2v : LoopV E wF (E.info 16).keep 0 Try.f16.ntmps 17000002 (body Try.f16 2) ([1, 7, 8, 9], lsl16r2) := by
  intro vs σ K (h0 : lsl16r2 vs σ K)
  unfold lsl16r2 at h0
  obtain ⟨s1, r1, rfl, h2⟩ := cD h0
  obtain ⟨s2, r2, rfl, h4⟩ := cD h2
  obtain ⟨s3, r3, rfl, h6⟩ := cD h4
  obtain ⟨s4, r4, rfl, h8⟩ := cD h6
  obtain ⟨rfl, h9⟩ := cN h8
  obtain ⟨rfl, h10⟩ := cN h9
  intro J hJ
  have hp : ∀ c' ∈ subsOf (E.info 16).keep (body Try.f16 2), SubOK E wF (E.info 16).keep 0 Try.f16.ntmps (lofL Ll16r2) c' := all_eq (by kernel_rfl : subsOf (E.info 16).keep (body Try.f16 2) = []) (all_nil)
  exact h10.of (fun s1 s2 s3 s4 => J [(17000002, .undef), (1, I s1), (7, .d (.sl wI) s2), (8, I s3), (9, I s4)] []) (fun s1 s2 s3 s4 hb => loop_round2 (S := ofL Sl16r2) (L := lofL Ll16r2) hSl16r2 (inlOK _) hp hJ (by kernel_rfl) hb)
abbrev S16 : wS := []
theorem hS16 : SpecOK E (ofL S16) := specOK_nil
abbrev L16 : wL := [(17000002, [1, 7, 8, 9], none, lsl16r2)]
def sp16 : Sp := fun args τ K => asCons args fun a1 r1 => asD (.sl wI) a1 fun x1 => asCons r1 fun a2 r2 => asD wI a2 fun x2 => asNil r2 <| asNil τ <| c16 x1 x2 (fun z1 => K (B z1) [])
theorem h16 : ∀ args τ K, sp16 args τ K → ACall E 16 args τ K := by
  intro args τ K h0
  unfold sp16 at h0
  obtain ⟨x1, r1, rfl, h2⟩ := cD h0
  obtain ⟨x2, r2, rfl, h4⟩ := cD h2
  obtain ⟨rfl, h5⟩ := cN h4
  obtain ⟨rfl, h6⟩ := cN h5
  exact ACall.spec2 (fn := Try.f16) (c := codeOf Try.f16) (S := ofL S16) (L := lofL L16) hS16 (by kernel_rfl) (by kernel_rfl) (inlOK _) (all_eq (by kernel_rfl : subsOf (E.info 16).keep (codeOf Try.f16) = [.loop (body Try.f16 2)]) (all_cons (loopOK_of (mk := 17000002) (sl := [1, 7, 8, 9]) (ss := [([1, 7, 8, 9], lsl16r2)]) (by kernel_rfl) (by kernel_rfl) (all_cons l16r2v (all_nil))) (all_nil))) (by kernel_rfl) h6.of
abbrev S17 : wS := []
theorem hS17 : SpecOK E (ofL S17) := specOK_nil
abbrev L17 : wL := []
def sp17 : Sp := fun args τ K => asCons args fun a1 r1 => asD w3 a1 fun x1 => asNil r1 <| asNil τ <| c17 x1 (fun z1 => K (I z1) [])
theorem h17 : ∀ args τ K, sp17 args τ K → ACall E 17 args τ K := by
  intro args τ K h0
  unfold sp17 at h0
  obtain ⟨x1, r1, rfl, h2⟩ := cD h0
  obtain ⟨rfl, h3⟩ := cN h2
  obtain ⟨rfl, h4⟩ := cN h3
  exact ACall.spec2 (fn := Try.f17) (c := codeOf Try.f17) (S := ofL S17) (L := lofL L17) hS17 (by kernel_rfl) (by kernel_rfl) (inlOK _) (all_eq (by kernel_rfl : subsOf (E.info 17).keep (codeOf Try.f17) = []) (all_nil)) (by kernel_rfl) h4.of
abbrev Sl15r9 : wS := [(37, none, sp37), (16, none, sp16), (17, none, sp17)]
theorem hSl15r9 : SpecOK E (ofL Sl15r9) := specOK_cons h37 (specOK_cons h16 (specOK_cons h17 (specOK_nil)))
abbrev Ll15r9 : wL := []
def lsl15r9 : LSp := fun vs σ K => asCons vs fun a1 r1 => asD wI a1 fun s1 => asCons r1 fun a2 r2 => asP (.ptr 0 0 []) a2 <| asCons r2 fun a3 r3 => asP (.vec 1) a3 <| asCons r3 fun a4 r4 => asSl 2 false a4 fun s2 s3 s4 => asCons r4 fun a5 r5 => asP (.ptr 3 0 []) a5 <| asCons r5 fun a6 r6 => asD .bool a6 fun s5 => asCons r6 fun a7 r7 => asD wI a7 fun s6 => asNil r7 <| asCons σ fun a8 r8 => asOne w1 a8 fun a9 => asD w1 a9 fun s7 => asCons r8 fun a10 r10 => asRw .bool false a10 fun s8 => asCons r10 fun a11 r11 => asRw (.arr 2 wI) false a11 fun s9 => asCons r11 fun a12 r12 => asOne w0 a12 fun a13 => asD w0 a13 fun s10 => asNil r12 <| l15r9 (fun z1 => K .ret [(3, .undef), (4, .undef), (8, B z1), (9, .undef), (10, .undef), (12, .undef), (13, .undef)] []) (fun z1 z2 z3 z4 z5 z6 z7 z8 z9 => K (.exit 2) [(3, I z1), (4, .ptr 0 0 []), (8, .undef), (9, .vec 1), (10, .sl 2 z2 z3 z4 false), (12, .ptr 3 0 []), (13, B z5)] [.one w1 (.d w1 z6), .row .bool z7 false, .row (.arr 2 wI) z8 false, .one w0 (.d w0 z9)]) s1 s2 s3 s4 s5 s6 s7 s8 s9 s10
theorem l15r9v : LoopV E wF (E.info 15).keep 0 Try.f15.ntmps 16000009 (body Try.f15 9) ([3, 4, 9, 10, 12, 13, 14], lsl15r9) := by
  intro vs σ K (h0 : lsl15r9 vs σ K)
  unfold lsl15r9 at h0
  obtain ⟨s1, r1, rfl, h2⟩ := cD h0
  obtain ⟨r2, rfl, h4⟩ := cP h2
  obtain ⟨r3, rfl, h6⟩ := cP h4
  obtain ⟨a4, r4, rfl, h7⟩ := asCons_inv h6
  obtain ⟨s2, s3, s4, rfl, h8⟩ := asSl_inv h7
  obtain ⟨r5, rfl, h10⟩ := cP h8
  obtain ⟨s5, r6, rfl, h12⟩ := cD h10
  obtain ⟨s6, r7, rfl, h14⟩ := cD h12
  obtain ⟨rfl, h15⟩ := cN h14
  obtain ⟨s7, r8, rfl, h18⟩ := oD h15
  obtain ⟨s8, r10, rfl, h20⟩ := cR h18
  obtain ⟨s9, r11, rfl, h22⟩ := cR h20
  obtain ⟨s10, r12, rfl, h25⟩ := oD h22
  obtain ⟨rfl, h26⟩ := cN h25
  intro J hJ
  have hp : ∀ c' ∈ subsOf (E.info 15).keep (body Try.f15 9), SubOK E wF (E.info 15).keep 0 Try.f15.ntmps (lofL Ll15r9) c' := all_eq (by kernel_rfl : subsOf (E.info 15).keep (body Try.f15 9) = []) (all_nil)
  exact h26.of (fun s1 s2 s3 s4 s5 s6 s7 s8 s9 s10 => J [(16000009, .undef), (3, I s1), (4, .ptr 0 0 []), (9, .vec 1), (10, .sl 2 s2 s3 s4 false), (12, .ptr 3 0 []), (13, B s5), (14, I s6)] [.one w1 (.d w1 s7), .row .bool s8 false, .row (.arr 2 wI) s9 false, .one w0 (.d w0 s10)]) (fun s1 s2 s3 s4 s5 s6 s7 s8 s9 s10 hb => loop_round2 (S := ofL Sl15r9) (L := lofL Ll15r9) hSl15r9 (inlOK _) hp hJ (by kernel_rfl) hb)
abbrev Sl15r18 : wS := []
theorem hSl15r18 : SpecOK E (ofL Sl15r18) := specOK_nil
abbrev Ll15r18 : wL := []
def lsl15r18 : LSp := fun vs σ K => asCons vs fun a1 r1 => asD wI a1 fun s1 => asCons r1 fun a2 r2 => asP (.ptr 0 0 []) a2 <| asCons r2 fun a3 r3 => asP (.vec 1) a3 <| asCons r3 fun a4 r4 => asSl 2 false a4 fun s2 s3 s4 => asCons r4 fun a5 r5 => asD (.sl wI) a5 fun s5 => asCons r5 fun a6 r6 => asD wI a6 fun s6 => asCons r6 fun a7 r7 => asD wI a7 fun s7 => asNil r7 <| asCons σ fun a8 r8 => asOne w1 a8 fun a9 => asD w1 a9 fun s8 => asCons r8 fun a10 r10 => asRw .bool false a10 fun s9 => asCons r10 fun a11 r11 => asRw (.arr 2 wI) false a11 fun s10 => asNil r11 <| l15r18 (fun z1 z2 z3 z4 z5 z6 z7 => K (.exit 4) [(3, I z1), (4, .ptr 0 0 []), (9, .vec 1), (10, .sl 2 z2 z3 z4 false)] [.one w1 (.d w1 z5), .row .bool z6 false, .row (.arr 2 wI) z7 false]) (fun z1 z2 z3 z4 => K (.exit 4) [(3, I z1), (4, .ptr 0 0 []), (9, .vec 1), (10, .vec 2)] [.one w1 (.d w1 z2), .row .bool z3 false, .row (.arr 2 wI) z4 false]) s1 s2 s3 s4 s5 s6 s7 s8 s9 s10
theorem l15r18v : LoopV E wF (E.info 15).keep 0 Try.f15.ntmps 16000018 (body Try.f15 18) ([3, 4, 9, 10, 89, 90, 91], lsl15r18) := by
  intro vs σ K (h0 : lsl15r18 vs σ K)
  unfold lsl15r18 at h0
  obtain ⟨s1, r1, rfl, h2⟩ := cD h0
  obtain ⟨r2, rfl, h4⟩ := cP h2
  obtain ⟨r3, rfl, h6⟩ := cP h4
  obtain ⟨a4, r4, rfl, h7⟩ := asCons_inv h6
  obtain ⟨s2, s3, s4, rfl, h8⟩ := asSl_inv h7
  obtain ⟨s5, r5, rfl, h10⟩ := cD h8
  obtain ⟨s6, r6, rfl, h12⟩ := cD h10
  obtain ⟨s7, r7, rfl, h14⟩ := cD h12
  obtain ⟨rfl, h15⟩ := cN h14
  obtain ⟨s8, r8, rfl, h18⟩ := oD h15
  obtain ⟨s9, r10, rfl, h20⟩ := cR h18
  obtain ⟨s10, r11, rfl, h22⟩ := cR h20
  obtain ⟨rfl, h23⟩ := cN h22
  intro J hJ
  have hp : ∀ c' ∈ subsOf (E.info 15).keep (body Try.f15 18), SubOK E wF (E.info 15).keep 0 Try.f15.ntmps (lofL Ll15r18) c' := all_eq (by kernel_rfl : subsOf (E.info 15).keep (body Try.f15 18) = []) (all_nil)
  exact h23.of (fun s1 s2 s3 s4 s5 s6 s7 s8 s9 s10 => J [(16000018, .undef), (3, I s1), (4, .ptr 0 0 []), (9, .vec 1), (10, .sl 2 s2 s3 s4 false), (89, .d (.sl wI) s5), (90, I s6), (91, I s7)] [.one w1 (.d w1 s8), .row .bool s9 false, .row (.arr 2 wI) s10 false]) (fun s14 s15 s16 s17 s18 s19 s20 => J [(16000018, .undef), (3, I s14), (4, .ptr 0 0 []), (9, .vec 1), (10, .vec 2), (89, .d (.sl wI) s15), (90, I s16), (91, I s17)] [.one w1 (.d w1 s18), .row .bool s19 false, .row (.arr 2 wI) s20 false]) (fun s1 s2 s3 s4 s5 s6 s7 s8 s9 s10 hb => loop_round2 (S := ofL Sl15r18) (L := lofL Ll15r18) hSl15r18 (inlOK _) hp hJ (by kernel_rfl) hb) (fun s14 s15 s16 s17 s18 s19 s20 hb => loop_round2 (S := ofL Sl15r18) (L := lofL Ll15r18) hSl15r18 (inlOK _) hp hJ (by kernel_rfl) hb)
abbrev Sl15r3 : wS := []
theorem hSl15r3 : SpecOK E (ofL Sl15r3) := specOK_nil
abbrev Ll15r3 : wL := [(16000009, [3, 4, 9, 10, 12, 13, 14], none, lsl15r9), (16000018, [3, 4, 9, 10, 89, 90, 91], none, lsl15r18)]
def lsl15r3 : LSp := fun vs σ K => asCons vs fun a1 r1 => asD wI a1 fun s1 => asCons r1 fun a2 r2 => asP (.ptr 0 0 []) a2 <| asCons r2 fun a3 r3 => asP (.vec 1) a3 <| asCons r3 fun a4 r4 => asP (.vec 2) a4 <| asNil r4 <| asCons σ fun a5 r5 => asOne w1 a5 fun a6 => asD w1 a6 fun s2 => asCons r5 fun a7 r7 => asRw .bool false a7 fun s3 => asCons r7 fun a8 r8 => asRw (.arr 2 wI) false a8 fun s4 => asNil r8 <| l15r3 (fun z1 => K .ret [(8, B z1)] []) (K (.exit 0) [(8, .undef)] []) s1 s2 s3 s4
theorem l15r3v : LoopV E wF (E.info 15).keep 0 Try.f15.ntmps 16000003 (body Try.f15 3) ([3, 4, 9, 10], lsl15r3) := by
  intro vs σ K (h0 : lsl15r3 vs σ K)
  unfold lsl15r3 at h0
  obtain ⟨s1, r1, rfl, h2⟩ := cD h0
  obtain ⟨r2, rfl, h4⟩ := cP h2
  obtain ⟨r3, rfl, h6⟩ := cP h4
  obtain ⟨r4, rfl, h8⟩ := cP h6
  obtain ⟨rfl, h9⟩ := cN h8
  obtain ⟨s2, r5, rfl, h12⟩ := oD h9
  obtain ⟨s3, r7, rfl, h14⟩ := cR h12
  obtain ⟨s4, r8, rfl, h16⟩ := cR h14
  obtain ⟨rfl, h17⟩ := cN h16
  intro J hJ
  have hp : ∀ c' ∈ subsOf (E.info 15).keep (body Try.f15 3), SubOK E wF (E.info 15).keep 0 Try.f15.ntmps (lofL Ll15r3) c' := all_eq (by kernel_rfl : subsOf (E.info 15).keep (body Try.f15 3) = [.loop (body Try.f15 9), .loop (body Try.f15 18)]) (all_cons (loopOK_of (mk := 16000009) (sl := [3, 4, 9, 10, 12, 13, 14]) (ss := [([3, 4, 9, 10, 12, 13, 14], lsl15r9)]) (by kernel_rfl) (by kernel_rfl) (all_cons l15r9v (all_nil))) (all_cons (loopOK_of (mk := 16000018) (sl := [3, 4, 9, 10, 89, 90, 91]) (ss := [([3, 4, 9, 10, 89, 90, 91], lsl15r18)]) (by kernel_rfl) (by kernel_rfl) (all_cons l15r18v (all_nil))) (all_nil)))
  exact h17.of (fun s1 s2 s3 s4 => J [(16000003, .undef), (3, I s1), (4, .ptr 0 0 []), (9, .vec 1), (10, .vec 2)] [.one w1 (.d w1 s2), .row .bool s3 false, .row (.arr 2 wI) s4 false]) (fun s30 s31 s32 s33 s34 s35 s36 => J [(16000003, .undef), (3, I s30), (4, .ptr 0 0 []), (9, .vec 1), (10, .sl 2 s31 s32 s33 false)] [.one w1 (.d w1 s34), .row .bool s35 false, .row (.arr 2 wI) s36 false]) (fun s1 s2 s3 s4 hb => loop_round2 (S := ofL Sl15r3) (L := lofL Ll15r3) hSl15r3 (inlOK _) hp hJ (by kernel_rfl) hb) (fun s30 s31 s32 s33 s34 s35 s36 hb => loop_round2 (S := ofL Sl15r3) (L := lofL Ll15r3) hSl15r3 (inlOK _) hp hJ (by kernel_rfl) hb)
abbrev S15 : wS := []
theorem hS15 : SpecOK E (ofL S15) := specOK_nil
abbrev L15 : wL := [(16000003, [3, 4, 9, 10], none, lsl15r3)]
def sp15 : Sp := fun args τ K => asCons args fun a1 r1 => asD w1 a1 fun x1 => asCons r1 fun a2 r2 => asD wI a2 fun x2 => asCons r2 fun a3 r3 => asD wI a3 fun x3 => asCons r3 fun a4 r4 => asD wI a4 fun x4 => asNil r4 <| asNil τ <| c15 x1 x2 x3 x4 (fun z1 => K (B z1) [])
theorem h15 : ∀ args τ K, sp15 args τ K → ACall E 15 args τ K := by
  intro args τ K h0
  unfold sp15 at h0
  obtain ⟨x1, r1, rfl, h2⟩ := cD h0
  obtain ⟨x2, r2, rfl, h4⟩ := cD h2
  obtain ⟨x3, r3, rfl, h6⟩ := cD h4
  obtain ⟨x4, r4, rfl, h8⟩ := cD h6
  obtain ⟨rfl, h9⟩ := cN h8
  obtain ⟨rfl, h10⟩ := cN h9
  exact ACall.spec2 (fn := Try.f15) (c := codeOf Try.f15) (S := ofL S15) (L := lofL L15) hS15 (by kernel_rfl) (by kernel_rfl) (inlOK _) (all_eq (by kernel_rfl : subsOf (E.info 15).keep (codeOf Try.f15) = [.loop (body Try.f15 3)]) (all_cons (loopOK_of (mk := 16000003) (sl := [3, 4, 9, 10]) (ss := [([3, 4, 9, 10], lsl15r3)]) (by kernel_rfl) (by kernel_rfl) (all_cons l15r3v (all_nil))) (all_nil))) (by kernel_rfl) h10.of
abbrev Sl7r36 : wS := [(15, none, sp15), (16, none, sp16)]
theorem hSl7r36 : SpecOK E (ofL Sl7r36) := specOK_cons h15 (specOK_cons h16 (specOK_nil))
abbrev Ll7r36 : wL := []
def lsl7r36 : LSp := fun vs σ K => asCons vs fun a1 r1 => asP (.ptr 0 0 []) a1 <| asCons r1 fun a2 r2 => asD wI a2 fun s1 => asNil r2 <| asCons σ fun a3 r3 => asOne w1 a3 fun a4 => asD w1 a4 fun s2 => asNil r3 <| l7r36 (fun z1 => K .ret [(2, I z1)] []) (K (.exit 8) [(2, .undef)] []) s1 s2
theorem l7r36v : LoopV E wF (E.info 7).keep 0 Try.f7.ntmps 8000036 (body Try.f7 36) ([1, 14], lsl7r36) := by
  intro vs σ K (h0 : lsl7r36 vs σ K)
  unfold lsl7r36 at h0
  obtain ⟨r1, rfl, h2⟩ := cP h0
  obtain ⟨s1, r2, rfl, h4⟩ := cD h2
  obtain ⟨rfl, h5⟩ := cN h4
  obtain ⟨s2, r3, rfl, h8⟩ := oD h5
  obtain ⟨rfl, h9⟩ := cN h8
  intro J hJ
  have hp : ∀ c' ∈ subsOf (E.info 7).keep (body Try.f7 36), SubOK E wF (E.info 7).keep 0 Try.f7.ntmps (lofL Ll7r36) c' := all_eq (by kernel_rfl : subsOf (E.info 7).keep (body Try.f7 36) = []) (all_nil)
  exact h9.of (fun s1 s2 => J [(8000036, .undef), (1, .ptr 0 0 []), (14, I s1)] [.one w1 (.d w1 s2)]) (fun s1 s2 hb => loop_round2 (S := ofL Sl7r36) (L := lofL Ll7r36) hSl7r36 (inlOK _) hp hJ (by kernel_rfl) hb)
abbrev S7 : wS := []
theorem hS7 : SpecOK E (ofL S7) := specOK_nil
abbrev L7 : wL := [(8000006, [1, 40, 41, 42], none, lsl7r6), (8000019, [1, 7, 70, 71, 72], none, lsl7r19), (8000036, [1, 14], none, lsl7r36)]
def sp7 : Sp := fun args τ K => asCons args fun a1 r1 => asD w1 a1 fun x1 => asNil r1 <| asNil τ <| c7 x1 (fun z1 => K (I z1) [])
theorem h7 : ∀ args τ K, sp7 args τ K → ACall E 7 args τ K := by
  intro args τ K h0
  unfold sp7 at h0
  obtain ⟨x1, r1, rfl, h2⟩ := cD h0
  obtain ⟨rfl, h3⟩ := cN h2
  obtain ⟨rfl, h4⟩ := cN h3
  exact ACall.spec2 (fn := Try.f7) (c := codeOf Try.f7) (S := ofL S7) (L := lofL L7) hS7 (by kernel_rfl) (by kernel_rfl) (inlOK _) (all_eq (by kernel_rfl : subsOf (E.info 7).keep (codeOf Try.f7) = [.loop (body Try.f7 6), .loop (body Try.f7 19), .loop (body Try.f7 36)]) (all_cons (loopOK_of (mk := 8000006) (sl := [1, 40, 41, 42]) (ss := [([1, 40, 41, 42], lsl7r6)]) (by kernel_rfl) (by kernel_rfl) (all_cons l7r6v (all_nil))) (all_cons (loopOK_of (mk := 8000019) (sl := [1, 7, 70, 71, 72]) (ss := [([1, 7, 70, 71, 72], lsl7r19)]) (by kernel_rfl) (by kernel_rfl) (all_cons l7r19v (all_nil))) (all_cons (loopOK_of (mk := 8000036) (sl := [1, 14]) (ss := [([1, 14], lsl7r36)]) (by kernel_rfl) (by kernel_rfl) (all_cons l7r36v (all_nil))) (all_nil))))) (by kernel_rfl) h4.of
abbrev Sl8r8 : wS := [(17, none, sp17), (15, none, sp15)]
theorem hSl8r8 : SpecOK E (ofL Sl8r8) := specOK_cons h17 (specOK_cons h15 (specOK_nil))
abbrev Ll8r8 : wL := []
def lsl8r8 : LSp := fun vs σ K => asCons vs fun a1 r1 => asD wI a1 fun s1 => asCons r1 fun a2 r2 => asD wI a2 fun s2 => asCons r2 fun a3 r3 => asP (.ptr 0 0 []) a3 <| asCons r3 fun a4 r4 => asD wI a4 fun s3 => asCons r4 fun a5 r5 => asD (.sl w0) a5 fun s4 => asCons r5 fun a6 r6 => asD wI a6 fun s5 => asCons r6 fun a7 r7 => asD wI a7 fun s6 => asCons r7 fun a8 r8 => asD (.sl w3) a8 fun s7 => asCons r8 fun a9 r9 => asD wI a9 fun s8 => asCons r9 fun a10 r10 => asD wI a10 fun s9 => asNil r10 <| asCons σ fun a11 r11 => asOne w1 a11 fun a12 => asD w1 a12 fun s10 => asNil r11 <| l8r8 (fun z1 => K .ret [(1, .undef), (2, .undef), (3, .undef), (6, B z1), (44, .undef), (45, .undef), (46, .undef)] []) (fun z1 z2 z3 z4 z5 z6 => K (.exit 2) [(1, I z1), (2, I z2), (3, .ptr 0 0 []), (6, .undef), (44, .d (.sl w0) z3), (45, I z4), (46, I z5)] [.one w1 (.d w1 z6)]) s1 s2 s3 s4 s5 s6 s7 s8 s9 s10
theorem l8r8v : LoopV E wF (E.info 8).keep 0 Try.f8.ntmps 9000008 (body Try.f8 8) ([1, 2, 3, 9, 44, 45, 46, 52, 53, 54], lsl8r8) := by
  intro vs σ K (h0 : lsl8r8 vs σ K)
  unfold lsl8r8 at h0
  obtain ⟨s1, r1, rfl, h2⟩ := cD h0
  obtain ⟨s2, r2, rfl, h4⟩ := cD h2
  obtain ⟨r3, rfl, h6⟩ := cP h4
  obtain ⟨s3, r4, rfl, h8⟩ := cD h6
  obtain ⟨s4, r5, rfl, h10⟩ := cD h8
  obtain ⟨s5, r6, rfl, h12⟩ := cD h10
  obtain ⟨s6, r7, rfl, h14⟩ := cD h12
  obtain ⟨s7, r8, rfl, h16⟩ := cD h14
  obtain ⟨s8, r9, rfl, h18⟩ := cD h16
  obtain ⟨s9, r10, rfl, h20⟩ := cD h18
  obtain ⟨rfl, h21⟩ := cN h20
  obtain ⟨s10, r11, rfl, h24⟩ := oD h21
  obtain ⟨rfl, h25⟩ := cN h24
  intro J hJ
  have hp : ∀ c' ∈ subsOf (E.info 8).keep (body Try.f8 8), SubOK E wF (E.info 8).keep 0 Try.f8.ntmps (lofL Ll8r8) c' := all_eq (by kernel_rfl : subsOf (E.info 8).keep (body Try.f8 8) = []) (all_nil)
  exact h25.of (fun s1 s2 s3 s4 s5 s6 s7 s8 s9 s10 => J [(9000008, .undef), (1, I s1), (2, I s2), (3, .ptr 0 0 []), (9, I s3), (44, .d (.sl w0) s4), (45, I s5), (46, I s6), (52, .d (.sl w3) s7), (53, I s8), (54, I s9)] [.one w1 (.d w1 s10)]) (fun s1 s2 s3 s4 s5 s6 s7 s8 s9 s10 hb => loop_round2 (S := ofL Sl8r8) (L := lofL Ll8r8) hSl8r8 (inlOK _) hp hJ (by kernel_rfl) hb)
abbrev Sl8r5 : wS := []
theorem hSl8r5 : SpecOK E (ofL Sl8r5) := specOK_nil
abbrev Ll8r5 : wL := [(9000008, [1, 2, 3, 9, 44, 45, 46, 52, 53, 54], none, lsl8r8)]
def lsl8r5 : LSp := fun vs σ K => asCons vs fun a1 r1 => asD wI a1 fun s1 => asCons r1 fun a2 r2 => asD wI a2 fun s2 => asCons r2 fun a3 r3 => asP (.ptr 0 0 []) a3 <| asCons r3 fun a4 r4 => asD (.sl w0) a4 fun s3 => asCons r4 fun a5 r5 => asD wI a5 fun s4 => asCons r5 fun a6 r6 => asD wI a6 fun s5 => asNil r6 <| asCons σ fun a7 r7 => asOne w1 a7 fun a8 => asD w1 a8 fun s6 => asNil r7 <| l8r5 (fun z1 => K .ret [(6, B z1)] []) (K (.exit 0) [(6, .undef)] []) s1 s2 s3 s4 s5 s6
theorem l8r5v : LoopV E wF (E.info 8).keep 0 Try.f8.ntmps 9000005 (body Try.f8 5) ([1, 2, 3, 44, 45, 46], lsl8r5) := by
  intro vs σ K (h0 : lsl8r5 vs σ K)
  unfold lsl8r5 at h0
  obtain ⟨s1, r1, rfl, h2⟩ := cD h0
  obtain ⟨s2, r2, rfl, h4⟩ := cD h2
  obtain ⟨r3, rfl, h6⟩ := cP h4
  obtain ⟨s3, r4, rfl, h8⟩ := cD h6
  obtain ⟨s4, r5, rfl, h10⟩ := cD h8
  obtain ⟨s5, r6, rfl, h12⟩ := cD h10
  obtain ⟨rfl, h13⟩ := cN h12
  obtain ⟨s6, r7, rfl, h16⟩ := oD h13
  obtain ⟨rfl, h17⟩ := cN h16
  intro J hJ
  have hp : ∀ c' ∈ subsOf (E.info 8).keep (body Try.f8 5), SubOK E wF (E.info 8).keep 0 Try.f8.ntmps (lofL Ll8r5) c' := all_eq (by kernel_rfl : subsOf (E.info 8).keep (body Try.f8 5) = [.loop (body Try.f8 8)]) (all_cons (loopOK_of (mk := 9000008) (sl := [1, 2, 3, 9, 44, 45, 46, 52, 53, 54]) (ss := [([1, 2, 3, 9, 44, 45, 46, 52, 53, 54], lsl8r8)]) (by kernel_rfl) (by kernel_rfl) (all_cons l8r8v (all_nil))) (all_nil))
  exact h17.of (fun s1 s2 s3 s4 s5 s6 => J [(9000005, .undef), (1, I s1), (2, I s2), (3, .ptr 0 0 []), (44, .d (.sl w0) s3), (45, I s4), (46, I s5)] [.one w1 (.d w1 s6)]) (fun s1 s2 s3 s4 s5 s6 hb => loop_round2 (S := ofL Sl8r5) (L := lofL Ll8r5) hSl8r5 (inlOK _) hp hJ (by kernel_rfl) hb)
abbrev Sj8r4 : wS := []
theorem hSj8r4 : SpecOK E (ofL Sj8r4) := specOK_nil
abbrev Lj8r4 : wL := [(9000005, [1, 2, 3, 44, 45, 46], none, lsl8r5)]
def lsj8r4 : LSp := fun vs σ K => asCons vs fun a1 r1 => asD wI a1 fun s1 => asCons r1 fun a2 r2 => asD wI a2 fun s2 => asCons r2 fun a3 r3 => asP (.ptr 0 0 []) a3 <| asNil r3 <| asCons σ fun a4 r4 => asOne w1 a4 fun a5 => asD w1 a5 fun s3 => asNil r4 <| j8r4 (fun z1 => K .ret [(6, B z1)] []) s1 s2 s3
theorem j8r4v : JoinV E wF (E.info 8).keep 0 Try.f8.ntmps 9400004 4000004 (jbody Try.f8 4000004) ([1, 2, 3], lsj8r4) := by
  intro vs σ K (h0 : lsj8r4 vs σ K)
  unfold lsj8r4 at h0
  obtain ⟨s1, r1, rfl, h2⟩ := cD h0
  obtain ⟨s2, r2, rfl, h4⟩ := cD h2
  obtain ⟨r3, rfl, h6⟩ := cP h4
  obtain ⟨rfl, h7⟩ := cN h6
  obtain ⟨s3, r4, rfl, h10⟩ := oD h7
  obtain ⟨rfl, h11⟩ := cN h10
  exact join_round2 (S := ofL Sj8r4) (L := lofL Lj8r4) hSj8r4 (inlOK _) (all_eq (by kernel_rfl : subsOf (E.info 8).keep (jbody Try.f8 4000004) = [.loop (body Try.f8 5)]) (all_cons (loopOK_of (mk := 9000005) (sl := [1, 2, 3, 44, 45, 46]) (ss := [([1, 2, 3, 44, 45, 46], lsl8r5)]) (by kernel_rfl) (by kernel_rfl) (all_cons l8r5v (all_nil))) (all_nil))) (by kernel_rfl) h11.of
abbrev S8 : wS := [(16, none, sp16), (15, none, sp15)]
theorem hS8 : SpecOK E (ofL S8) := specOK_cons h16 (specOK_cons h15 (specOK_nil))
abbrev L8 : wL := [(9400004, [1, 2, 3], none, lsj8r4)]
def sp8 : Sp := fun args τ K => asCons args fun a1 r1 => asD w1 a1 fun x1 => asCons r1 fun a2 r2 => asD wI a2 fun x2 => asCons r2 fun a3 r3 => asD wI a3 fun x3 => asNil r3 <| asNil τ <| c8 x1 x2 x3 (fun z1 => K (B z1) [])
theorem h8 : ∀ args τ K, sp8 args τ K → ACall E 8 args τ K := by
  intro args τ K h0
  unfold sp8 at h0
  obtain ⟨x1, r1, rfl, h2⟩ := cD h0
  obtain ⟨x2, r2, rfl, h4⟩ := cD h2
  obtain ⟨x3, r3, rfl, h6⟩ := cD h4
  obtain ⟨rfl, h7⟩ := cN h6
  obtain ⟨rfl, h8⟩ := cN h7
  exact ACall.spec2 (fn := Try.f8) (c := codeOf Try.f8) (S := ofL S8) (L := lofL L8) hS8 (by kernel_rfl) (by kernel_rfl) (inlOK _) (all_eq (by kernel_rfl : subsOf (E.info 8).keep (codeOf Try.f8) = [.join 4000004 (jbody Try.f8 4000004)]) (all_cons (joinOK_of (mk := 9400004) (sl := [1, 2, 3]) (ss := [([1, 2, 3], lsj8r4)]) (by kernel_rfl) (by kernel_rfl) (all_cons j8r4v (all_nil))) (all_nil))) (by kernel_rfl) h8.of
abbrev Sl3r14 : wS := [(8, none, sp8)]
theorem hSl3r14 : SpecOK E (ofL Sl3r14) := specOK_cons h8 (specOK_nil)
abbrev Ll3r14 : wL := []
def lsl3r14 : LSp := fun vs σ K => asCons vs fun a1 r1 => asP (.ptr 0 0 []) a1 <| asCons r1 fun a2 r2 => asP (.vec 1) a2 <| asCons r2 fun a3 r3 => asD wI a3 fun s1 => asCons r3 fun a4 r4 => asD wI a4 fun s2 => asCons r4 fun a5 r5 => asD wI a5 fun s3 => asCons r5 fun a6 r6 => asD wI a6 fun s4 => asNil r6 <| asCons σ fun a7 r7 => asOne w1 a7 fun a8 => asD w1 a8 fun s5 => asCons r7 fun a9 r9 => asRw (.arr 2 wI) false a9 fun s6 => asNil r9 <| l3r14 (fun z1 => K .ret [(1, .undef), (2, B z1), (3, .undef), (4, .undef), (6, .undef), (7, .undef)] []) (fun z1 z2 z3 z4 z5 => K (.exit 2) [(1, .ptr 0 0 []), (2, .undef), (3, .vec 1), (4, I z1), (6, I z2), (7, I z3)] [.one w1 (.d w1 z4), .row (.arr 2 wI) z5 false]) s1 s2 s3 s4 s5 s6
theorem l3r14v : LoopV E wF (E.info 3).keep 0 Try.f3.ntmps 4000014 (body Try.f3 14) ([1, 3, 4, 6, 7, 8], lsl3r14) := by
  intro vs σ K (h0 : lsl3r14 vs σ K)
  unfold lsl3r14 at h0
  obtain ⟨r1, rfl, h2⟩ := cP h0
  obtain ⟨r2, rfl, h4⟩ := cP h2
  obtain ⟨s1, r3, rfl, h6⟩ := cD h4
  obtain ⟨s2, r4, rfl, h8⟩ := cD h6
  obtain ⟨s3, r5, rfl, h10⟩ := cD h8
  obtain ⟨s4, r6, rfl, h12⟩ := cD h10
  obtain ⟨rfl, h13⟩ := cN h12
  obtain ⟨s5, r7, rfl, h16⟩ := oD h13
  obtain ⟨s6, r9, rfl, h18⟩ := cR h16
  obtain ⟨rfl, h19⟩ := cN h18
  intro J hJ
  have hp : ∀ c' ∈ subsOf (E.info 3).keep (body Try.f3 14), SubOK E wF (E.info 3).keep 0 Try.f3.ntmps (lofL Ll3r14) c' := all_eq (by kernel_rfl : subsOf (E.info 3).keep (body Try.f3 14) = []) (all_nil)
  exact h19.of (fun s1 s2 s3 s4 s5 s6 => J [(4000014, .undef), (1, .ptr 0 0 []), (3, .vec 1), (4, I s1), (6, I s2), (7, I s3), (8, I s4)] [.one w1 (.d w1 s5), .row (.arr 2 wI) s6 false]) (fun s1 s2 s3 s4 s5 s6 hb => loop_round2 (S := ofL Sl3r14) (L := lofL Ll3r14) hSl3r14 (inlOK _) hp hJ (by kernel_rfl) hb)
abbrev Sl3r11 : wS := []
theorem hSl3r11 : SpecOK E (ofL Sl3r11) := specOK_nil
abbrev Ll3r11 : wL := [(4000014, [1, 3, 4, 6, 7, 8], none, lsl3r14)]
def lsl3r11 : LSp := fun vs σ K => asCons vs fun a1 r1 => asP (.ptr 0 0 []) a1 <| asCons r1 fun a2 r2 => asP (.vec 1) a2 <| asCons r2 fun a3 r3 => asD wI a3 fun s1 => asCons r3 fun a4 r4 => asD wI a4 fun s2 => asCons r4 fun a5 r5 => asD wI a5 fun s3 => asNil r5 <| asCons σ fun a6 r6 => asOne w1 a6 fun a7 => asD w1 a7 fun s4 => asCons r6 fun a8 r8 => asRw (.arr 2 wI) false a8 fun s5 => asNil r8 <| l3r11 (fun z1 => K .ret [(2, B z1), (3, .undef), (4, .undef), (6, .undef)] []) (fun z1 z2 z3 => K (.exit 0) [(2, .undef), (3, .vec 0), (4, I z1), (6, I z2)] [.row (.arr 2 wI) z3 false]) s1 s2 s3 s4 s5
theorem l3r11v : LoopV E wF (E.info 3).keep 0 Try.f3.ntmps 4000011 (body Try.f3 11) ([1, 3, 4, 6, 7], lsl3r11) := by
  intro vs σ K (h0 : lsl3r11 vs σ K)
  unfold lsl3r11 at h0
  obtain ⟨r1, rfl, h2⟩ := cP h0
  obtain ⟨r2, rfl, h4⟩ := cP h2
  obtain ⟨s1, r3, rfl, h6⟩ := cD h4
  obtain ⟨s2, r4, rfl, h8⟩ := cD h6
  obtain ⟨s3, r5, rfl, h10⟩ := cD h8
  obtain ⟨rfl, h11⟩ := cN h10
  obtain ⟨s4, r6, rfl, h14⟩ := oD h11
  obtain ⟨s5, r8, rfl, h16⟩ := cR h14
  obtain ⟨rfl, h17⟩ := cN h16
  intro J hJ
  have hp : ∀ c' ∈ subsOf (E.info 3).keep (body Try.f3 11), SubOK E wF (E.info 3).keep 0 Try.f3.ntmps (lofL Ll3r11) c' := all_eq (by kernel_rfl : subsOf (E.info 3).keep (body Try.f3 11) = [.loop (body Try.f3 14)]) (all_cons (loopOK_of (mk := 4000014) (sl := [1, 3, 4, 6, 7, 8]) (ss := [([1, 3, 4, 6, 7, 8], lsl3r14)]) (by kernel_rfl) (by kernel_rfl) (all_cons l3r14v (all_nil))) (all_nil))
  exact h17.of (fun s1 s2 s3 s4 s5 => J [(4000011, .undef), (1, .ptr 0 0 []), (3, .vec 1), (4, I s1), (6, I s2), (7, I s3)] [.one w1 (.d w1 s4), .row (.arr 2 wI) s5 false]) (fun s1 s2 s3 s4 s5 hb => loop_round2 (S := ofL Sl3r11) (L := lofL Ll3r11) hSl3r11 (inlOK _) hp hJ (by kernel_rfl) hb)
abbrev S3 : wS := [(4, none, sp4), (5, none, sp5), (6, none, sp6), (7, none, sp7)]
theorem hS3 : SpecOK E (ofL S3) := specOK_cons h4 (specOK_cons h5 (specOK_cons h6 (specOK_cons h7 (specOK_nil))))
abbrev L3 : wL := [(4000011, [1, 3, 4, 6, 7], none, lsl3r11)]
def sp3 : Sp := fun args τ K => asCons args fun a1 r1 => asD w1 a1 fun x1 => asNil r1 <| asNil τ <| c3 x1 (fun z1 => K (B z1) [])
theorem h3 : ∀ args τ K, sp3 args τ K → ACall E 3 args τ K := by
  intro args τ K h0
  unfold sp3 at h0
  obtain ⟨x1, r1, rfl, h2⟩ := cD h0
  obtain ⟨rfl, h3⟩ := cN h2
  obtain ⟨rfl, h4⟩ := cN h3
  exact ACall.spec2 (fn := Try.f3) (c := codeOf Try.f3) (S := ofL S3) (L := lofL L3) hS3 (by kernel_rfl) (by kernel_rfl) (inlOK _) (all_eq (by kernel_rfl : subsOf (E.info 3).keep (codeOf Try.f3) = [.loop (body Try.f3 11)]) (all_cons (loopOK_of (mk := 4000011) (sl := [1, 3, 4, 6, 7]) (ss := [([1, 3, 4, 6, 7], lsl3r11)]) (by kernel_rfl) (by kernel_rfl) (all_cons l3r11v (all_nil))) (all_nil))) (by kernel_rfl) h4.of
end Go.Proofs.Ytcelldbjjlkcdad
