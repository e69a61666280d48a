/- The functions compute that (printed by a program). -/
import Derived.Test.YtmnidkbkmakdbaaAD3
import Derived.Test.YtmnidkbkmakdbaaAEnvC
import Derived.Test.YtmnidkbkmakdbaaAW3a
import Derived.KernelRfl
namespace Go.Proofs.Ytmnidkbkmakdbaa
open Go.Abs
set_option maxRecDepth 100000
set_option maxHeartbeats 4000000
set_option linter.unusedVariables false
abbrev Sj14r12 : wS := [(39, none, sp39), (40, none, sp40)]
theorem hSj14r12 : SpecOK E (ofL Sj14r12) := specOK_cons h39 (specOK_cons h40 specOK_nil)
abbrev Lj14r12 : wL := [(15000014, [0, 1, 5, 9, 10, 11, 38, 39, 40, 104, 105, 106], none, lsl14r14), (15000022, [0, 1, 5, 9, 11, 38, 39, 40, 143, 144, 145], none, lsl14r22), (15000028, [0, 1, 5, 9, 10, 38, 39, 40, 184, 185], none, lsl14r28)]
def lsj14r12 : LSp := fun vs σ K => dP (.ptr 0 0 []) vs fun r1 => dD wI r1 fun s1 r2 => dP (.vec 5) r2 fun r3 => dD wI r3 fun s2 r4 => dD wI r4 fun s3 r5 => dP (.vec 4) r5 fun r6 => dD wI r6 fun s4 r7 => dD wI r7 fun s5 r8 => asNil r8 <| asCons σ fun a9 r9 => asOne w2 a9 fun a10 => asAgL a10 fun l11 => dP (.vec 1) l11 fun r12 => dP (.vec 2) r12 fun r13 => dP (.vec 3) r13 fun r14 => dP (.vec 4) r14 fun r15 => asNil r15 <| asCons r9 fun a16 r16 => asDeep .bool a16 fun s6 l17 => asNil l17 <| dR .bool false r16 fun s7 r18 => dR .bool false r18 fun s8 r19 => dR (.arr 2 wI) false r19 fun s9 r20 => dR wI false r20 fun s10 r21 => asNil r21 <| j14r12 (fun z1 z2 z3 z4 z5 z6 z7 z8 => K (.exit 3) [(0, .ptr 0 0 []), (1, I z1), (5, .vec 5), (38, .vec 4), (39, I z2), (40, I z3)] [.one w2 (.agg [.vec 1, .vec 2, .vec 3, .vec 4]), .deep .bool z4 [], .row .bool z5 false, .row .bool z6 false, .row (.arr 2 wI) z7 false, .row wI z8 false]) (fun z1 z2 z3 z4 z5 z6 z7 z8 => K .normal [(0, .ptr 0 0 []), (1, I z1), (5, .vec 5), (38, .vec 4), (39, I z2), (40, I z3)] [.one w2 (.agg [.vec 1, .vec 2, .vec 3, .vec 4]), .deep .bool z4 [], .row .bool z5 false, .row .bool z6 false, .row (.arr 2 wI) z7 false, .row wI z8 false]) s1 s2 s3 s4 s5 s6 s7 s8 s9 s10
theorem j14r12v : JoinV E wF (E.info 14).keep 5 Try.f14.ntmps 15400012 4000012 (jbody Try.f14 4000012) ([0, 1, 5, 9, 10, 38, 39, 40], lsj14r12) := by
  intro vs σ K h0
  obtain ⟨s1, s2, r4, rfl, h8⟩ := cPDPD h0
  obtain ⟨s3, s4, s5, r8, rfl, h16⟩ := cDPDD h8
  obtain ⟨rfl, h17⟩ := cN h16
  obtain ⟨a9, r9, rfl, h18⟩ := asCons_inv h17
  obtain ⟨a10, rfl, h19⟩ := asOne_inv h18
  obtain ⟨l11, rfl, h20⟩ := asAgL_inv h19
  obtain ⟨r15, rfl, h28⟩ := cPPPP h20
  obtain ⟨rfl, h29⟩ := cN h28
  obtain ⟨a16, r16, rfl, h30⟩ := asCons_inv h29
  obtain ⟨s6, l17, rfl, h31⟩ := asDeep_inv h30
  obtain ⟨rfl, h32⟩ := cN h31
  obtain ⟨s7, r18, rfl, h34⟩ := cR h32
  obtain ⟨s8, r19, rfl, h36⟩ := cR h34
  obtain ⟨s9, r20, rfl, h38⟩ := cR h36
  obtain ⟨s10, r21, rfl, h40⟩ := cR h38
  obtain ⟨rfl, h41⟩ := cN h40
  exact join_round2 (L := lofL Lj14r12) hSj14r12 (inlOK _) (all_eq (by kernel_rfl : subsOf (E.info 14).keep (jbody Try.f14 4000012) = [.loop (body Try.f14 14), .loop (body Try.f14 22), .loop (body Try.f14 28)]) (all_cons (loopOK_of (mk := 15000014) (sl := [0, 1, 5, 9, 10, 11, 38, 39, 40, 104, 105, 106]) (ss := [([0, 1, 5, 9, 10, 11, 38, 39, 40, 104, 105, 106], lsl14r14)]) (by kernel_rfl) (by kernel_rfl) (all_cons l14r14v all_nil)) (all_cons (loopOK_of (mk := 15000022) (sl := [0, 1, 5, 9, 11, 38, 39, 40, 143, 144, 145]) (ss := [([0, 1, 5, 9, 11, 38, 39, 40, 143, 144, 145], lsl14r22)]) (by kernel_rfl) (by kernel_rfl) (all_cons l14r22v all_nil)) (all_cons (loopOK_of (mk := 15000028) (sl := [0, 1, 5, 9, 10, 38, 39, 40, 184, 185]) (ss := [([0, 1, 5, 9, 10, 38, 39, 40, 184, 185], lsl14r28)]) (by kernel_rfl) (by kernel_rfl) (all_cons l14r28v all_nil)) all_nil)))) (by kernel_rfl) h41.of
abbrev Sl14r8 : wS := [(17, none, sp17)]
theorem hSl14r8 : SpecOK E (ofL Sl14r8) := specOK_cons h17 specOK_nil
abbrev Ll14r8 : wL := [(15400012, [0, 1, 5, 9, 10, 38, 39, 40], none, lsj14r12)]
def lsl14r8 : LSp := fun vs σ K => dP (.ptr 0 0 []) vs fun r1 => dD wI r1 fun s1 r2 => dP (.vec 5) r2 fun r3 => dP (.vec 4) r3 fun r4 => dD wI r4 fun s2 r5 => dD wI r5 fun s3 r6 => asNil r6 <| asCons σ fun a7 r7 => asOne w2 a7 fun a8 => asAgL a8 fun l9 => dP (.vec 1) l9 fun r10 => dP (.vec 2) r10 fun r11 => dP (.vec 3) r11 fun r12 => dP (.vec 4) r12 fun r13 => asNil r13 <| asCons r7 fun a14 r14 => asDeep .bool a14 fun s4 l15 => asNil l15 <| dR .bool false r14 fun s5 r16 => dR .bool false r16 fun s6 r17 => dR (.arr 2 wI) false r17 fun s7 r18 => dR wI false r18 fun s8 r19 => asNil r19 <| l14r8 (fun z1 z2 z3 z4 z5 => K (.exit 2) [(5, .vec 5)] [.one w2 (.agg [.vec 1, .vec 2, .vec 3, .vec 4]), .deep .bool z1 [], .row .bool z2 false, .row .bool z3 false, .row (.arr 2 wI) z4 false, .row wI z5 false]) s1 s2 s3 s4 s5 s6 s7 s8
theorem l14r8v : LoopV E wF (E.info 14).keep 5 Try.f14.ntmps 15000008 (body Try.f14 8) ([0, 1, 5, 38, 39, 40], lsl14r8) := by
  intro vs σ K h0
  obtain ⟨s1, r4, rfl, h8⟩ := cPDPP h0
  obtain ⟨s2, s3, r6, rfl, h12⟩ := cDD h8
  obtain ⟨rfl, h13⟩ := cN h12
  obtain ⟨a7, r7, rfl, h14⟩ := asCons_inv h13
  obtain ⟨a8, rfl, h15⟩ := asOne_inv h14
  obtain ⟨l9, rfl, h16⟩ := asAgL_inv h15
  obtain ⟨r13, rfl, h24⟩ := cPPPP h16
  obtain ⟨rfl, h25⟩ := cN h24
  obtain ⟨a14, r14, rfl, h26⟩ := asCons_inv h25
  obtain ⟨s4, l15, rfl, h27⟩ := asDeep_inv h26
  obtain ⟨rfl, h28⟩ := cN h27
  obtain ⟨s5, r16, rfl, h30⟩ := cR h28
  obtain ⟨s6, r17, rfl, h32⟩ := cR h30
  obtain ⟨s7, r18, rfl, h34⟩ := cR h32
  obtain ⟨s8, r19, rfl, h36⟩ := cR h34
  obtain ⟨rfl, h37⟩ := cN h36
  intro J hJ
  have hp : ∀ c' ∈ subsOf (E.info 14).keep (body Try.f14 8), SubOK E wF (E.info 14).keep 5 Try.f14.ntmps (lofL Ll14r8) c' := all_eq (by kernel_rfl : subsOf (E.info 14).keep (body Try.f14 8) = [.join 4000012 (jbody Try.f14 4000012)]) (all_cons (joinOK_of (mk := 15400012) (sl := [0, 1, 5, 9, 10, 38, 39, 40]) (ss := [([0, 1, 5, 9, 10, 38, 39, 40], lsj14r12)]) (by kernel_rfl) (by kernel_rfl) (all_cons j14r12v all_nil)) all_nil)
  exact h37.of (fun s1 s2 s3 s4 s5 s6 s7 s8 => J [(15000008, .undef), (0, .ptr 0 0 []), (1, I s1), (5, .vec 5), (38, .vec 4), (39, I s2), (40, I s3)] [.one w2 (.agg [.vec 1, .vec 2, .vec 3, .vec 4]), .deep .bool s4 [], .row .bool s5 false, .row .bool s6 false, .row (.arr 2 wI) s7 false, .row wI s8 false]) (fun s1 s2 s3 s4 s5 s6 s7 s8 hb => loop_round2 hSl14r8 (inlOK _) hp hJ (by kernel_rfl) hb)
abbrev L14 : wL := [(15000003, [0, 1, 5, 26, 27], none, lsl14r3), (15000008, [0, 1, 5, 38, 39, 40], none, lsl14r8)]
def sp14 : Sp := fun args τ K => dP (.ptr 0 0 []) args fun r1 => dD wI r1 fun x1 r2 => asNil r2 <| asCons τ fun a3 r3 => asOne w2 a3 fun a4 => asAgL a4 fun l5 => dP (.vec 1) l5 fun r6 => dP (.vec 2) r6 fun r7 => dP (.vec 3) r7 fun r8 => dP (.vec 4) r8 fun r9 => asNil r9 <| asCons r3 fun a10 r10 => asDeep .bool a10 fun x2 l11 => asNil l11 <| dR .bool false r10 fun x3 r12 => dR .bool false r12 fun x4 r13 => dR (.arr 2 wI) false r13 fun x5 r14 => asNil r14 <| c14 x1 x2 x3 x4 x5 (fun z1 z2 z3 z4 z5 => K (.vec 5) [.one w2 (.agg [.vec 1, .vec 2, .vec 3, .vec 4]), .deep .bool z1 [], .row .bool z2 false, .row .bool z3 false, .row (.arr 2 wI) z4 false, .row wI z5 false])
theorem h14 : ∀ args τ K, sp14 args τ K → ACall E 14 args τ K := by
  intro args τ K h0
  obtain ⟨x1, r2, rfl, h4⟩ := cPD h0
  obtain ⟨rfl, h5⟩ := cN h4
  obtain ⟨a3, r3, rfl, h6⟩ := asCons_inv h5
  obtain ⟨a4, rfl, h7⟩ := asOne_inv h6
  obtain ⟨l5, rfl, h8⟩ := asAgL_inv h7
  obtain ⟨r9, rfl, h16⟩ := cPPPP h8
  obtain ⟨rfl, h17⟩ := cN h16
  obtain ⟨a10, r10, rfl, h18⟩ := asCons_inv h17
  obtain ⟨x2, l11, rfl, h19⟩ := asDeep_inv h18
  obtain ⟨rfl, h20⟩ := cN h19
  obtain ⟨x3, r12, rfl, h22⟩ := cR h20
  obtain ⟨x4, r13, rfl, h24⟩ := cR h22
  obtain ⟨x5, r14, rfl, h26⟩ := cR h24
  obtain ⟨rfl, h27⟩ := cN h26
  exact ACall.spec2 (fn := Try.f14) (c := codeOf Try.f14) (L := lofL L14) nS (by kernel_rfl) (by kernel_rfl) (inlOK _) (all_eq (by kernel_rfl : subsOf (E.info 14).keep (codeOf Try.f14) = [.loop (body Try.f14 3), .loop (body Try.f14 8)]) (all_cons (loopOK_of (mk := 15000003) (sl := [0, 1, 5, 26, 27]) (ss := [([0, 1, 5, 26, 27], lsl14r3)]) (by kernel_rfl) (by kernel_rfl) (all_cons l14r3v all_nil)) (all_cons (loopOK_of (mk := 15000008) (sl := [0, 1, 5, 38, 39, 40]) (ss := [([0, 1, 5, 38, 39, 40], lsl14r8)]) (by kernel_rfl) (by kernel_rfl) (all_cons l14r8v all_nil)) all_nil))) (by kernel_rfl) h27.of
def lsl6r10 : LSp := fun vs σ K => dD wI vs fun s1 r1 => dP (.ptr 0 0 []) r1 fun r2 => dP (.ptr 3 0 []) r2 fun r3 => dP (.vec 8) r3 fun r4 => dP (.ptr 9 0 []) r4 fun r5 => dD wI r5 fun s2 r6 => dD wI r6 fun s3 r7 => asNil r7 <| asCons σ fun a8 r8 => asOne w4 a8 fun a9 => asAgL a9 fun l10 => dP (.vec 1) l10 fun r11 => dP (.vec 2) r11 fun r12 => dD wI r12 fun s4 r13 => asNil r13 <| dR wI false r8 fun s5 r14 => dR wI false r14 fun s6 r15 => asCons r15 fun a16 r16 => asOne w2 a16 fun a17 => asAgL a17 fun l18 => dP (.vec 4) l18 fun r19 => dP (.vec 5) r19 fun r20 => dP (.vec 6) r20 fun r21 => dP (.vec 7) r21 fun r22 => asNil r22 <| asCons r16 fun a23 r23 => asDeep .bool a23 fun s7 l24 => asNil l24 <| dR .bool false r23 fun s8 r25 => dR .bool false r25 fun s9 r26 => dR (.arr 2 wI) false r26 fun s10 r27 => dR wI false r27 fun s11 r28 => asCons r28 fun a29 r29 => asOne w4 a29 fun a30 => asAgL a30 fun l31 => dP (.vec 10) l31 fun r32 => dP (.vec 11) r32 fun r33 => dD wI r33 fun s12 r34 => asNil r34 <| dR wI false r29 fun s13 r35 => dR wI false r35 fun s14 r36 => asNil r36 <| l6r10 (fun z1 z2 z3 z4 z5 z6 z7 z8 z9 z10 z11 z12 => K (.exit 0) [(1, I z1), (4, .ptr 0 0 []), (7, .ptr 3 0 []), (8, .vec 8), (9, .ptr 9 0 [])] [.one w4 (.agg [.vec 1, .vec 2, I z2]), .row wI z3 false, .row wI z4 false, .one w2 (.agg [.vec 4, .vec 5, .vec 6, .vec 7]), .deep .bool z5 [], .row .bool z6 false, .row .bool z7 false, .row (.arr 2 wI) z8 false, .row wI z9 false, .one w4 (.agg [.vec 10, .vec 11, I z10]), .row wI z11 false, .row wI z12 false]) s1 s2 s3 s4 s5 s6 s7 s8 s9 s10 s11 s12 s13 s14
theorem l6r10v : LoopV E wF (E.info 6).keep 0 Try.f6.ntmps 7000010 (body Try.f6 10) ([1, 4, 7, 8, 9, 43, 44], lsl6r10) := by
  intro vs σ K h0
  obtain ⟨s1, r4, rfl, h8⟩ := cDPPP h0
  obtain ⟨s2, s3, r7, rfl, h14⟩ := cPDD h8
  obtain ⟨rfl, h15⟩ := cN h14
  obtain ⟨a8, r8, rfl, h16⟩ := asCons_inv h15
  obtain ⟨a9, rfl, h17⟩ := asOne_inv h16
  obtain ⟨l10, rfl, h18⟩ := asAgL_inv h17
  obtain ⟨s4, r13, rfl, h24⟩ := cPPD h18
  obtain ⟨rfl, h25⟩ := cN h24
  obtain ⟨s5, r14, rfl, h27⟩ := cR h25
  obtain ⟨s6, r15, rfl, h29⟩ := cR h27
  obtain ⟨a16, r16, rfl, h30⟩ := asCons_inv h29
  obtain ⟨a17, rfl, h31⟩ := asOne_inv h30
  obtain ⟨l18, rfl, h32⟩ := asAgL_inv h31
  obtain ⟨r22, rfl, h40⟩ := cPPPP h32
  obtain ⟨rfl, h41⟩ := cN h40
  obtain ⟨a23, r23, rfl, h42⟩ := asCons_inv h41
  obtain ⟨s7, l24, rfl, h43⟩ := asDeep_inv h42
  obtain ⟨rfl, h44⟩ := cN h43
  obtain ⟨s8, r25, rfl, h46⟩ := cR h44
  obtain ⟨s9, r26, rfl, h48⟩ := cR h46
  obtain ⟨s10, r27, rfl, h50⟩ := cR h48
  obtain ⟨s11, r28, rfl, h52⟩ := cR h50
  obtain ⟨a29, r29, rfl, h53⟩ := asCons_inv h52
  obtain ⟨a30, rfl, h54⟩ := asOne_inv h53
  obtain ⟨l31, rfl, h55⟩ := asAgL_inv h54
  obtain ⟨s12, r34, rfl, h61⟩ := cPPD h55
  obtain ⟨rfl, h62⟩ := cN h61
  obtain ⟨s13, r35, rfl, h64⟩ := cR h62
  obtain ⟨s14, r36, rfl, h66⟩ := cR h64
  obtain ⟨rfl, h67⟩ := cN h66
  intro J hJ
  have hp : wH 6 Try.f6 (body Try.f6 10) nL := all_eq (by kernel_rfl) all_nil
  exact h67.of (fun s1 s2 s3 s4 s5 s6 s7 s8 s9 s10 s11 s12 s13 s14 => J [(7000010, .undef), (1, I s1), (4, .ptr 0 0 []), (7, .ptr 3 0 []), (8, .vec 8), (9, .ptr 9 0 []), (43, I s2), (44, I s3)] [.one w4 (.agg [.vec 1, .vec 2, I s4]), .row wI s5 false, .row wI s6 false, .one w2 (.agg [.vec 4, .vec 5, .vec 6, .vec 7]), .deep .bool s7 [], .row .bool s8 false, .row .bool s9 false, .row (.arr 2 wI) s10 false, .row wI s11 false, .one w4 (.agg [.vec 10, .vec 11, I s12]), .row wI s13 false, .row wI s14 false]) (fun s1 s2 s3 s4 s5 s6 s7 s8 s9 s10 s11 s12 s13 s14 hb => loop_round2 nS (inlOK _) hp hJ (by kernel_rfl) hb)
def lsl15r5 : LSp := fun vs σ K => dP (.ptr 0 0 []) vs fun r1 => dD wI r1 fun s1 r2 => dP (.vec 5) r2 fun r3 => dP (.vec 6) r3 fun r4 => dD wI r4 fun s2 r5 => dD wI r5 fun s3 r6 => dD wI r6 fun s4 r7 => asNil r7 <| asCons σ fun a8 r8 => asOne w2 a8 fun a9 => asAgL a9 fun l10 => dP (.vec 1) l10 fun r11 => dP (.vec 2) r11 fun r12 => dP (.vec 3) r12 fun r13 => dP (.vec 4) r13 fun r14 => asNil r14 <| asCons r8 fun a15 r15 => asDeep .bool a15 fun s5 l16 => asNil l16 <| dR .bool false r15 fun s6 r17 => dR .bool false r17 fun s7 r18 => dR (.arr 2 wI) false r18 fun s8 r19 => dR .bool false r19 fun s9 r20 => dR wI false r20 fun s10 r21 => asNil r21 <| l15r5 (fun z1 z2 z3 z4 z5 z6 z7 z8 => K (.exit 0) [(0, .ptr 0 0 []), (1, I z1), (5, .vec 5), (6, .vec 6), (7, I z2)] [.one w2 (.agg [.vec 1, .vec 2, .vec 3, .vec 4]), .deep .bool z3 [], .row .bool z4 false, .row .bool z5 false, .row (.arr 2 wI) z6 false, .row .bool z7 false, .row wI z8 false]) s1 s2 s3 s4 s5 s6 s7 s8 s9 s10
theorem l15r5v : LoopV E wF (E.info 15).keep 5 Try.f15.ntmps 16000005 (body Try.f15 5) ([0, 1, 5, 6, 7, 35, 36], lsl15r5) := by
  intro vs σ K h0
  obtain ⟨s1, r4, rfl, h8⟩ := cPDPP h0
  obtain ⟨s2, s3, s4, r7, rfl, h14⟩ := cDDD h8
  obtain ⟨rfl, h15⟩ := cN h14
  obtain ⟨a8, r8, rfl, h16⟩ := asCons_inv h15
  obtain ⟨a9, rfl, h17⟩ := asOne_inv h16
  obtain ⟨l10, rfl, h18⟩ := asAgL_inv h17
  obtain ⟨r14, rfl, h26⟩ := cPPPP h18
  obtain ⟨rfl, h27⟩ := cN h26
  obtain ⟨a15, r15, rfl, h28⟩ := asCons_inv h27
  obtain ⟨s5, l16, rfl, h29⟩ := asDeep_inv h28
  obtain ⟨rfl, h30⟩ := cN h29
  obtain ⟨s6, r17, rfl, h32⟩ := cR h30
  obtain ⟨s7, r18, rfl, h34⟩ := cR h32
  obtain ⟨s8, r19, rfl, h36⟩ := cR h34
  obtain ⟨s9, r20, rfl, h38⟩ := cR h36
  obtain ⟨s10, r21, rfl, h40⟩ := cR h38
  obtain ⟨rfl, h41⟩ := cN h40
  intro J hJ
  have hp : ∀ c' ∈ subsOf (E.info 15).keep (body Try.f15 5), SubOK E wF (E.info 15).keep 5 Try.f15.ntmps (lofL nL) c' := all_eq (by kernel_rfl) all_nil
  exact h41.of (fun s1 s2 s3 s4 s5 s6 s7 s8 s9 s10 => J [(16000005, .undef), (0, .ptr 0 0 []), (1, I s1), (5, .vec 5), (6, .vec 6), (7, I s2), (35, I s3), (36, I s4)] [.one w2 (.agg [.vec 1, .vec 2, .vec 3, .vec 4]), .deep .bool s5 [], .row .bool s6 false, .row .bool s7 false, .row (.arr 2 wI) s8 false, .row .bool s9 false, .row wI s10 false]) (fun s1 s2 s3 s4 s5 s6 s7 s8 s9 s10 hb => loop_round2 nS (inlOK _) hp hJ (by kernel_rfl) hb)
def lsl15r15 : LSp := fun vs σ K => dP (.ptr 0 0 []) vs fun r1 => dD wI r1 fun s1 r2 => dP (.vec 6) r2 fun r3 => dP (.vec 7) r3 fun r4 => dD wI r4 fun s2 r5 => dD wI r5 fun s3 r6 => dP (.vec 1) r6 fun r7 => dD wI r7 fun s4 r8 => dD wI r8 fun s5 r9 => dP (.vec 5) r9 fun r10 => dD wI r10 fun s6 r11 => dD wI r11 fun s7 r12 => asNil r12 <| asCons σ fun a13 r13 => asOne w2 a13 fun a14 => asAgL a14 fun l15 => dP (.vec 1) l15 fun r16 => dP (.vec 2) r16 fun r17 => dP (.vec 3) r17 fun r18 => dP (.vec 4) r18 fun r19 => asNil r19 <| asCons r13 fun a20 r20 => asDeep .bool a20 fun s8 l21 => asCons l21 fun a22 r22 => asHole 5 a22 fun s9 => asNil r22 <| dR .bool false r20 fun s10 r23 => dR .bool false r23 fun s11 r24 => dR (.arr 2 wI) false r24 fun s12 r25 => dR .bool false r25 fun s13 r26 => dR .bool false r26 fun s14 r27 => dR wI false r27 fun s15 r28 => asNil r28 <| l15r15 (fun z1 z2 z3 z4 z5 z6 z7 z8 z9 z10 => K (.exit 4) [(0, .ptr 0 0 []), (1, I z1), (5, .vec 5), (6, .vec 6), (7, I z2), (69, .vec 1), (70, I z3), (71, I z4)] [.one w2 (.agg [.vec 1, .vec 2, .vec 3, .vec 4]), .deep .bool z5 [], .row .bool z6 false, .row .bool z7 false, .row (.arr 2 wI) z8 false, .row .bool z9 false, .row wI z10 false]) s1 s2 s3 s4 s5 s6 s7 s8 s9 s10 s11 s12 s13 s14 s15
theorem l15r15v : LoopV E wF (E.info 15).keep 5 Try.f15.ntmps 16000015 (body Try.f15 15) ([0, 1, 5, 6, 7, 9, 69, 70, 71, 76, 77, 78], lsl15r15) := by
  intro vs σ K h0
  obtain ⟨s1, r4, rfl, h8⟩ := cPDPP h0
  obtain ⟨s2, s3, s4, r8, rfl, h16⟩ := cDDPD h8
  obtain ⟨s5, s6, s7, r12, rfl, h24⟩ := cDPDD h16
  obtain ⟨rfl, h25⟩ := cN h24
  obtain ⟨a13, r13, rfl, h26⟩ := asCons_inv h25
  obtain ⟨a14, rfl, h27⟩ := asOne_inv h26
  obtain ⟨l15, rfl, h28⟩ := asAgL_inv h27
  obtain ⟨r19, rfl, h36⟩ := cPPPP h28
  obtain ⟨rfl, h37⟩ := cN h36
  obtain ⟨a20, r20, rfl, h38⟩ := asCons_inv h37
  obtain ⟨s8, l21, rfl, h39⟩ := asDeep_inv h38
  obtain ⟨a22, r22, rfl, h40⟩ := asCons_inv h39
  obtain ⟨s9, rfl, h41⟩ := asHole_inv h40
  obtain ⟨rfl, h42⟩ := cN h41
  obtain ⟨s10, r23, rfl, h44⟩ := cR h42
  obtain ⟨s11, r24, rfl, h46⟩ := cR h44
  obtain ⟨s12, r25, rfl, h48⟩ := cR h46
  obtain ⟨s13, r26, rfl, h50⟩ := cR h48
  obtain ⟨s14, r27, rfl, h52⟩ := cR h50
  obtain ⟨s15, r28, rfl, h54⟩ := cR h52
  obtain ⟨rfl, h55⟩ := cN h54
  intro J hJ
  have hp : ∀ c' ∈ subsOf (E.info 15).keep (body Try.f15 15), SubOK E wF (E.info 15).keep 5 Try.f15.ntmps (lofL nL) c' := all_eq (by kernel_rfl) all_nil
  exact h55.of (fun s1 s2 s3 s4 s5 s6 s7 s8 s9 s10 s11 s12 s13 s14 s15 => J [(16000015, .undef), (0, .ptr 0 0 []), (1, I s1), (5, .vec 6), (6, .vec 7), (7, I s2), (9, I s3), (69, .vec 1), (70, I s4), (71, I s5), (76, .vec 5), (77, I s6), (78, I s7)] [.one w2 (.agg [.vec 1, .vec 2, .vec 3, .vec 4]), .deep .bool s8 [(s9, 5)], .row .bool s10 false, .row .bool s11 false, .row (.arr 2 wI) s12 false, .row .bool s13 false, .row .bool s14 false, .row wI s15 false]) (fun s1 s2 s3 s4 s5 s6 s7 s8 s9 s10 s11 s12 s13 s14 s15 hb => loop_round2 nS (inlOK _) hp hJ (by kernel_rfl) hb)
abbrev Ll15r12 : wL := [(16000015, [0, 1, 5, 6, 7, 9, 69, 70, 71, 76, 77, 78], none, lsl15r15)]
def lsl15r12 : LSp := fun vs σ K => dP (.ptr 0 0 []) vs fun r1 => dD wI r1 fun s1 r2 => dP (.vec 5) r2 fun r3 => dP (.vec 6) r3 fun r4 => dD wI r4 fun s2 r5 => dP (.vec 1) r5 fun r6 => dD wI r6 fun s3 r7 => dD wI r7 fun s4 r8 => asNil r8 <| asCons σ fun a9 r9 => asOne w2 a9 fun a10 => asAgL a10 fun l11 => dP (.vec 1) l11 fun r12 => dP (.vec 2) r12 fun r13 => dP (.vec 3) r13 fun r14 => dP (.vec 4) r14 fun r15 => asNil r15 <| asCons r9 fun a16 r16 => asDeep .bool a16 fun s5 l17 => asNil l17 <| dR .bool false r16 fun s6 r18 => dR .bool false r18 fun s7 r19 => dR (.arr 2 wI) false r19 fun s8 r20 => dR .bool false r20 fun s9 r21 => dR wI false r21 fun s10 r22 => asNil r22 <| l15r12 (fun z1 z2 z3 z4 z5 z6 z7 z8 => K (.exit 2) [(0, .ptr 0 0 []), (1, I z1), (5, .vec 5), (6, .vec 6), (7, I z2)] [.one w2 (.agg [.vec 1, .vec 2, .vec 3, .vec 4]), .deep .bool z3 [], .row .bool z4 false, .row .bool z5 false, .row (.arr 2 wI) z6 false, .row .bool z7 false, .row wI z8 false]) s1 s2 s3 s4 s5 s6 s7 s8 s9 s10
theorem l15r12v : LoopV E wF (E.info 15).keep 5 Try.f15.ntmps 16000012 (body Try.f15 12) ([0, 1, 5, 6, 7, 69, 70, 71], lsl15r12) := by
  intro vs σ K h0
  obtain ⟨s1, r4, rfl, h8⟩ := cPDPP h0
  obtain ⟨s2, s3, s4, r8, rfl, h16⟩ := cDPDD h8
  obtain ⟨rfl, h17⟩ := cN h16
  obtain ⟨a9, r9, rfl, h18⟩ := asCons_inv h17
  obtain ⟨a10, rfl, h19⟩ := asOne_inv h18
  obtain ⟨l11, rfl, h20⟩ := asAgL_inv h19
  obtain ⟨r15, rfl, h28⟩ := cPPPP h20
  obtain ⟨rfl, h29⟩ := cN h28
  obtain ⟨a16, r16, rfl, h30⟩ := asCons_inv h29
  obtain ⟨s5, l17, rfl, h31⟩ := asDeep_inv h30
  obtain ⟨rfl, h32⟩ := cN h31
  obtain ⟨s6, r18, rfl, h34⟩ := cR h32
  obtain ⟨s7, r19, rfl, h36⟩ := cR h34
  obtain ⟨s8, r20, rfl, h38⟩ := cR h36
  obtain ⟨s9, r21, rfl, h40⟩ := cR h38
  obtain ⟨s10, r22, rfl, h42⟩ := cR h40
  obtain ⟨rfl, h43⟩ := cN h42
  intro J hJ
  have hp : ∀ c' ∈ subsOf (E.info 15).keep (body Try.f15 12), SubOK E wF (E.info 15).keep 5 Try.f15.ntmps (lofL Ll15r12) c' := all_eq (by kernel_rfl : subsOf (E.info 15).keep (body Try.f15 12) = [.loop (body Try.f15 15)]) (all_cons (loopOK_of (mk := 16000015) (sl := [0, 1, 5, 6, 7, 9, 69, 70, 71, 76, 77, 78]) (ss := [([0, 1, 5, 6, 7, 9, 69, 70, 71, 76, 77, 78], lsl15r15)]) (by kernel_rfl) (by kernel_rfl) (all_cons l15r15v all_nil)) all_nil)
  exact h43.of (fun s1 s2 s3 s4 s5 s6 s7 s8 s9 s10 => J [(16000012, .undef), (0, .ptr 0 0 []), (1, I s1), (5, .vec 5), (6, .vec 6), (7, I s2), (69, .vec 1), (70, I s3), (71, I s4)] [.one w2 (.agg [.vec 1, .vec 2, .vec 3, .vec 4]), .deep .bool s5 [], .row .bool s6 false, .row .bool s7 false, .row (.arr 2 wI) s8 false, .row .bool s9 false, .row wI s10 false]) (fun s1 s2 s3 s4 s5 s6 s7 s8 s9 s10 hb => loop_round2 nS (inlOK _) hp hJ (by kernel_rfl) hb)
def lsl15r26 : LSp := fun vs σ K => dP (.ptr 0 0 []) vs fun r1 => dD wI r1 fun s1 r2 => dP (.vec 5) r2 fun r3 => dP (.vec 6) r3 fun r4 => dP (.vec 7) r4 fun r5 => dD wI r5 fun s2 r6 => dD wI r6 fun s3 r7 => dD wI r7 fun s4 r8 => dP (.vec 5) r8 fun r9 => dD wI r9 fun s5 r10 => dD wI r10 fun s6 r11 => asNil r11 <| asCons σ fun a12 r12 => asOne w2 a12 fun a13 => asAgL a13 fun l14 => dP (.vec 1) l14 fun r15 => dP (.vec 2) r15 fun r16 => dP (.vec 3) r16 fun r17 => dP (.vec 4) r17 fun r18 => asNil r18 <| asCons r12 fun a19 r19 => asDeep .bool a19 fun s7 l20 => asNil l20 <| dR .bool false r19 fun s8 r21 => dR .bool false r21 fun s9 r22 => dR (.arr 2 wI) false r22 fun s10 r23 => dR .bool false r23 fun s11 r24 => dR wI false r24 fun s12 r25 => dR wI false r25 fun s13 r26 => asNil r26 <| l15r26 (fun z1 z2 z3 z4 z5 z6 z7 z8 z9 z10 z11 => K (.exit 8) [(0, .ptr 0 0 []), (1, I z1), (5, .vec 5), (6, .vec 6), (13, .vec 7), (14, I z2), (98, I z3), (99, I z4)] [.one w2 (.agg [.vec 1, .vec 2, .vec 3, .vec 4]), .deep .bool z5 [], .row .bool z6 false, .row .bool z7 false, .row (.arr 2 wI) z8 false, .row .bool z9 false, .row wI z10 false, .row wI z11 false]) s1 s2 s3 s4 s5 s6 s7 s8 s9 s10 s11 s12 s13
theorem l15r26v : LoopV E wF (E.info 15).keep 5 Try.f15.ntmps 16000026 (body Try.f15 26) ([0, 1, 5, 6, 13, 14, 98, 99, 101, 102, 103], lsl15r26) := by
  intro vs σ K h0
  obtain ⟨s1, r4, rfl, h8⟩ := cPDPP h0
  obtain ⟨s2, s3, s4, r8, rfl, h16⟩ := cPDDD h8
  obtain ⟨s5, s6, r11, rfl, h22⟩ := cPDD h16
  obtain ⟨rfl, h23⟩ := cN h22
  obtain ⟨a12, r12, rfl, h24⟩ := asCons_inv h23
  obtain ⟨a13, rfl, h25⟩ := asOne_inv h24
  obtain ⟨l14, rfl, h26⟩ := asAgL_inv h25
  obtain ⟨r18, rfl, h34⟩ := cPPPP h26
  obtain ⟨rfl, h35⟩ := cN h34
  obtain ⟨a19, r19, rfl, h36⟩ := asCons_inv h35
  obtain ⟨s7, l20, rfl, h37⟩ := asDeep_inv h36
  obtain ⟨rfl, h38⟩ := cN h37
  obtain ⟨s8, r21, rfl, h40⟩ := cR h38
  obtain ⟨s9, r22, rfl, h42⟩ := cR h40
  obtain ⟨s10, r23, rfl, h44⟩ := cR h42
  obtain ⟨s11, r24, rfl, h46⟩ := cR h44
  obtain ⟨s12, r25, rfl, h48⟩ := cR h46
  obtain ⟨s13, r26, rfl, h50⟩ := cR h48
  obtain ⟨rfl, h51⟩ := cN h50
  intro J hJ
  have hp : ∀ c' ∈ subsOf (E.info 15).keep (body Try.f15 26), SubOK E wF (E.info 15).keep 5 Try.f15.ntmps (lofL nL) c' := all_eq (by kernel_rfl) all_nil
  exact h51.of (fun s1 s2 s3 s4 s5 s6 s7 s8 s9 s10 s11 s12 s13 => J [(16000026, .undef), (0, .ptr 0 0 []), (1, I s1), (5, .vec 5), (6, .vec 6), (13, .vec 7), (14, I s2), (98, I s3), (99, I s4), (101, .vec 5), (102, I s5), (103, I s6)] [.one w2 (.agg [.vec 1, .vec 2, .vec 3, .vec 4]), .deep .bool s7 [], .row .bool s8 false, .row .bool s9 false, .row (.arr 2 wI) s10 false, .row .bool s11 false, .row wI s12 false, .row wI s13 false]) (fun s1 s2 s3 s4 s5 s6 s7 s8 s9 s10 s11 s12 s13 hb => loop_round2 nS (inlOK _) hp hJ (by kernel_rfl) hb)
def lsl15r37 : LSp := fun vs σ K => dP (.ptr 0 0 []) vs fun r1 => dD wI r1 fun s1 r2 => dP (.vec 6) r2 fun r3 => dP (.vec 7) r3 fun r4 => dP (.vec 8) r4 fun r5 => dD wI r5 fun s2 r6 => dD wI r6 fun s3 r7 => dP (.vec 5) r7 fun r8 => dD wI r8 fun s4 r9 => dD wI r9 fun s5 r10 => asNil r10 <| asCons σ fun a11 r11 => asOne w2 a11 fun a12 => asAgL a12 fun l13 => dP (.vec 1) l13 fun r14 => dP (.vec 2) r14 fun r15 => dP (.vec 3) r15 fun r16 => dP (.vec 4) r16 fun r17 => asNil r17 <| asCons r11 fun a18 r18 => asDeep .bool a18 fun s6 l19 => asCons l19 fun a20 r20 => asHole 5 a20 fun s7 => asNil r20 <| dR .bool false r18 fun s8 r21 => dR .bool false r21 fun s9 r22 => dR (.arr 2 wI) false r22 fun s10 r23 => dR .bool false r23 fun s11 r24 => dR .bool false r24 fun s12 r25 => dR wI false r25 fun s13 r26 => dR wI false r26 fun s14 r27 => asNil r27 <| l15r37 (fun z1 z2 z3 z4 z5 z6 z7 z8 z9 z10 => K (.exit 10) [(0, .ptr 0 0 []), (1, I z1), (5, .vec 5), (6, .vec 6), (13, .vec 7), (98, I z2), (99, I z3)] [.one w2 (.agg [.vec 1, .vec 2, .vec 3, .vec 4]), .deep .bool z4 [], .row .bool z5 false, .row .bool z6 false, .row (.arr 2 wI) z7 false, .row .bool z8 false, .row wI z9 false, .row wI z10 false]) s1 s2 s3 s4 s5 s6 s7 s8 s9 s10 s11 s12 s13 s14
theorem l15r37v : LoopV E wF (E.info 15).keep 5 Try.f15.ntmps 16000037 (body Try.f15 37) ([0, 1, 5, 6, 13, 98, 99, 145, 146, 147], lsl15r37) := by
  intro vs σ K h0
  obtain ⟨s1, r4, rfl, h8⟩ := cPDPP h0
  obtain ⟨s2, s3, r8, rfl, h16⟩ := cPDDP h8
  obtain ⟨s4, s5, r10, rfl, h20⟩ := cDD h16
  obtain ⟨rfl, h21⟩ := cN h20
  obtain ⟨a11, r11, rfl, h22⟩ := asCons_inv h21
  obtain ⟨a12, rfl, h23⟩ := asOne_inv h22
  obtain ⟨l13, rfl, h24⟩ := asAgL_inv h23
  obtain ⟨r17, rfl, h32⟩ := cPPPP h24
  obtain ⟨rfl, h33⟩ := cN h32
  obtain ⟨a18, r18, rfl, h34⟩ := asCons_inv h33
  obtain ⟨s6, l19, rfl, h35⟩ := asDeep_inv h34
  obtain ⟨a20, r20, rfl, h36⟩ := asCons_inv h35
  obtain ⟨s7, rfl, h37⟩ := asHole_inv h36
  obtain ⟨rfl, h38⟩ := cN h37
  obtain ⟨s8, r21, rfl, h40⟩ := cR h38
  obtain ⟨s9, r22, rfl, h42⟩ := cR h40
  obtain ⟨s10, r23, rfl, h44⟩ := cR h42
  obtain ⟨s11, r24, rfl, h46⟩ := cR h44
  obtain ⟨s12, r25, rfl, h48⟩ := cR h46
  obtain ⟨s13, r26, rfl, h50⟩ := cR h48
  obtain ⟨s14, r27, rfl, h52⟩ := cR h50
  obtain ⟨rfl, h53⟩ := cN h52
  intro J hJ
  have hp : ∀ c' ∈ subsOf (E.info 15).keep (body Try.f15 37), SubOK E wF (E.info 15).keep 5 Try.f15.ntmps (lofL nL) c' := all_eq (by kernel_rfl) all_nil
  exact h53.of (fun s1 s2 s3 s4 s5 s6 s7 s8 s9 s10 s11 s12 s13 s14 => J [(16000037, .undef), (0, .ptr 0 0 []), (1, I s1), (5, .vec 6), (6, .vec 7), (13, .vec 8), (98, I s2), (99, I s3), (145, .vec 5), (146, I s4), (147, I s5)] [.one w2 (.agg [.vec 1, .vec 2, .vec 3, .vec 4]), .deep .bool s6 [(s7, 5)], .row .bool s8 false, .row .bool s9 false, .row (.arr 2 wI) s10 false, .row .bool s11 false, .row .bool s12 false, .row wI s13 false, .row wI s14 false]) (fun s1 s2 s3 s4 s5 s6 s7 s8 s9 s10 s11 s12 s13 s14 hb => loop_round2 nS (inlOK _) hp hJ (by kernel_rfl) hb)
abbrev Ll15r23 : wL := [(16000026, [0, 1, 5, 6, 13, 14, 98, 99, 101, 102, 103], none, lsl15r26), (16000037, [0, 1, 5, 6, 13, 98, 99, 145, 146, 147], none, lsl15r37)]
def lsl15r23 : LSp := fun vs σ K => dP (.ptr 0 0 []) vs fun r1 => dD wI r1 fun s1 r2 => dP (.vec 5) r2 fun r3 => dP (.vec 6) r3 fun r4 => dP (.vec 7) r4 fun r5 => dD wI r5 fun s2 r6 => dD wI r6 fun s3 r7 => asNil r7 <| asCons σ fun a8 r8 => asOne w2 a8 fun a9 => asAgL a9 fun l10 => dP (.vec 1) l10 fun r11 => dP (.vec 2) r11 fun r12 => dP (.vec 3) r12 fun r13 => dP (.vec 4) r13 fun r14 => asNil r14 <| asCons r8 fun a15 r15 => asDeep .bool a15 fun s4 l16 => asNil l16 <| dR .bool false r15 fun s5 r17 => dR .bool false r17 fun s6 r18 => dR (.arr 2 wI) false r18 fun s7 r19 => dR .bool false r19 fun s8 r20 => dR wI false r20 fun s9 r21 => dR wI false r21 fun s10 r22 => asNil r22 <| l15r23 (fun z1 z2 z3 z4 z5 => K (.exit 6) [(13, .vec 5)] [.one w2 (.agg [.vec 1, .vec 2, .vec 3, .vec 4]), .deep .bool z1 [], .row .bool z2 false, .row .bool z3 false, .row (.arr 2 wI) z4 false, .row wI z5 false]) s1 s2 s3 s4 s5 s6 s7 s8 s9 s10
theorem l15r23v : LoopV E wF (E.info 15).keep 5 Try.f15.ntmps 16000023 (body Try.f15 23) ([0, 1, 5, 6, 13, 98, 99], lsl15r23) := by
  intro vs σ K h0
  obtain ⟨s1, r4, rfl, h8⟩ := cPDPP h0
  obtain ⟨s2, s3, r7, rfl, h14⟩ := cPDD h8
  obtain ⟨rfl, h15⟩ := cN h14
  obtain ⟨a8, r8, rfl, h16⟩ := asCons_inv h15
  obtain ⟨a9, rfl, h17⟩ := asOne_inv h16
  obtain ⟨l10, rfl, h18⟩ := asAgL_inv h17
  obtain ⟨r14, rfl, h26⟩ := cPPPP h18
  obtain ⟨rfl, h27⟩ := cN h26
  obtain ⟨a15, r15, rfl, h28⟩ := asCons_inv h27
  obtain ⟨s4, l16, rfl, h29⟩ := asDeep_inv h28
  obtain ⟨rfl, h30⟩ := cN h29
  obtain ⟨s5, r17, rfl, h32⟩ := cR h30
  obtain ⟨s6, r18, rfl, h34⟩ := cR h32
  obtain ⟨s7, r19, rfl, h36⟩ := cR h34
  obtain ⟨s8, r20, rfl, h38⟩ := cR h36
  obtain ⟨s9, r21, rfl, h40⟩ := cR h38
  obtain ⟨s10, r22, rfl, h42⟩ := cR h40
  obtain ⟨rfl, h43⟩ := cN h42
  intro J hJ
  have hp : ∀ c' ∈ subsOf (E.info 15).keep (body Try.f15 23), SubOK E wF (E.info 15).keep 5 Try.f15.ntmps (lofL Ll15r23) c' := all_eq (by kernel_rfl : subsOf (E.info 15).keep (body Try.f15 23) = [.loop (body Try.f15 26), .loop (body Try.f15 37)]) (all_cons (loopOK_of (mk := 16000026) (sl := [0, 1, 5, 6, 13, 14, 98, 99, 101, 102, 103]) (ss := [([0, 1, 5, 6, 13, 14, 98, 99, 101, 102, 103], lsl15r26)]) (by kernel_rfl) (by kernel_rfl) (all_cons l15r26v all_nil)) (all_cons (loopOK_of (mk := 16000037) (sl := [0, 1, 5, 6, 13, 98, 99, 145, 146, 147]) (ss := [([0, 1, 5, 6, 13, 98, 99, 145, 146, 147], lsl15r37)]) (by kernel_rfl) (by kernel_rfl) (all_cons l15r37v all_nil)) all_nil))
  exact h43.of (fun s1 s2 s3 s4 s5 s6 s7 s8 s9 s10 => J [(16000023, .undef), (0, .ptr 0 0 []), (1, I s1), (5, .vec 5), (6, .vec 6), (13, .vec 7), (98, I s2), (99, I s3)] [.one w2 (.agg [.vec 1, .vec 2, .vec 3, .vec 4]), .deep .bool s4 [], .row .bool s5 false, .row .bool s6 false, .row (.arr 2 wI) s7 false, .row .bool s8 false, .row wI s9 false, .row wI s10 false]) (fun s1 s2 s3 s4 s5 s6 s7 s8 s9 s10 hb => loop_round2 nS (inlOK _) hp hJ (by kernel_rfl) hb)
def lsl41r1 : LSp := fun vs σ K => dP (.vec 0) vs fun r1 => dD wI r1 fun s1 r2 => dD wI r2 fun s2 r3 => asNil r3 <| dR wI false σ fun s3 r4 => asNil r4 <| l41r1 (fun z1 => K (.exit 0) [] [.row wI z1 false]) s1 s2 s3
theorem l41r1v : LoopV E wF (E.info 41).keep 1 Try.f41.ntmps 42000001 (body Try.f41 1) ([0, 2, 3], lsl41r1) := by
  intro vs σ K h0
  obtain ⟨s1, s2, r3, rfl, h6⟩ := cPDD h0
  obtain ⟨rfl, h7⟩ := cN h6
  obtain ⟨s3, r4, rfl, h9⟩ := cR h7
  obtain ⟨rfl, h10⟩ := cN h9
  intro J hJ
  have hp : ∀ c' ∈ subsOf (E.info 41).keep (body Try.f41 1), SubOK E wF (E.info 41).keep 1 Try.f41.ntmps (lofL nL) c' := all_eq (by kernel_rfl) all_nil
  exact h10.of (fun s1 s2 s3 => J [(42000001, .undef), (0, .vec 0), (2, I s1), (3, I s2)] [.row wI s3 false]) (fun s1 s2 s3 hb => loop_round2 nS (inlOK _) hp hJ (by kernel_rfl) hb)
abbrev L41 : wL := [(42000001, [0, 2, 3], none, lsl41r1)]
def sp41 : Sp := fun args τ K => dP (.vec 0) args fun r1 => asNil r1 <| dR wI false τ fun x1 r2 => asNil r2 <| c41 x1 (fun z1 => K (.tup []) [.row wI z1 false])
theorem h41 : ∀ args τ K, sp41 args τ K → ACall E 41 args τ K := by
  intro args τ K h0
  obtain ⟨r1, rfl, h2⟩ := cP h0
  obtain ⟨rfl, h3⟩ := cN h2
  obtain ⟨x1, r2, rfl, h5⟩ := cR h3
  obtain ⟨rfl, h6⟩ := cN h5
  exact ACall.spec2 (fn := Try.f41) (c := codeOf Try.f41) (L := lofL L41) nS (by kernel_rfl) (by kernel_rfl) (inlOK _) (all_eq (by kernel_rfl : subsOf (E.info 41).keep (codeOf Try.f41) = [.loop (body Try.f41 1)]) (all_cons (loopOK_of (mk := 42000001) (sl := [0, 2, 3]) (ss := [([0, 2, 3], lsl41r1)]) (by kernel_rfl) (by kernel_rfl) (all_cons l41r1v all_nil)) all_nil)) (by kernel_rfl) h6.of
abbrev S15 : wS := [(41, none, sp41)]
theorem hS15 : SpecOK E (ofL S15) := specOK_cons h41 specOK_nil
abbrev L15 : wL := [(16000005, [0, 1, 5, 6, 7, 35, 36], none, lsl15r5), (16000012, [0, 1, 5, 6, 7, 69, 70, 71], none, lsl15r12), (16000023, [0, 1, 5, 6, 13, 98, 99], none, lsl15r23)]
def sp15 : Sp := fun args τ K => dP (.ptr 0 0 []) args fun r1 => dD wI r1 fun x1 r2 => asNil r2 <| asCons τ fun a3 r3 => asOne w2 a3 fun a4 => asAgL a4 fun l5 => dP (.vec 1) l5 fun r6 => dP (.vec 2) r6 fun r7 => dP (.vec 3) r7 fun r8 => dP (.vec 4) r8 fun r9 => asNil r9 <| asCons r3 fun a10 r10 => asDeep .bool a10 fun x2 l11 => asNil l11 <| dR .bool false r10 fun x3 r12 => dR .bool false r12 fun x4 r13 => dR (.arr 2 wI) false r13 fun x5 r14 => asNil r14 <| c15 x1 x2 x3 x4 x5 (fun z1 z2 z3 z4 z5 => K (.vec 5) [.one w2 (.agg [.vec 1, .vec 2, .vec 3, .vec 4]), .deep .bool z1 [], .row .bool z2 false, .row .bool z3 false, .row (.arr 2 wI) z4 false, .row wI z5 false])
theorem h15 : ∀ args τ K, sp15 args τ K → ACall E 15 args τ K := by
  intro args τ K h0
  obtain ⟨x1, r2, rfl, h4⟩ := cPD h0
  obtain ⟨rfl, h5⟩ := cN h4
  obtain ⟨a3, r3, rfl, h6⟩ := asCons_inv h5
  obtain ⟨a4, rfl, h7⟩ := asOne_inv h6
  obtain ⟨l5, rfl, h8⟩ := asAgL_inv h7
  obtain ⟨r9, rfl, h16⟩ := cPPPP h8
  obtain ⟨rfl, h17⟩ := cN h16
  obtain ⟨a10, r10, rfl, h18⟩ := asCons_inv h17
  obtain ⟨x2, l11, rfl, h19⟩ := asDeep_inv h18
  obtain ⟨rfl, h20⟩ := cN h19
  obtain ⟨x3, r12, rfl, h22⟩ := cR h20
  obtain ⟨x4, r13, rfl, h24⟩ := cR h22
  obtain ⟨x5, r14, rfl, h26⟩ := cR h24
  obtain ⟨rfl, h27⟩ := cN h26
  exact ACall.spec2 (fn := Try.f15) (c := codeOf Try.f15) (L := lofL L15) hS15 (by kernel_rfl) (by kernel_rfl) (inlOK _) (all_eq (by kernel_rfl : subsOf (E.info 15).keep (codeOf Try.f15) = [.loop (body Try.f15 5), .loop (body Try.f15 12), .loop (body Try.f15 23)]) (all_cons (loopOK_of (mk := 16000005) (sl := [0, 1, 5, 6, 7, 35, 36]) (ss := [([0, 1, 5, 6, 7, 35, 36], lsl15r5)]) (by kernel_rfl) (by kernel_rfl) (all_cons l15r5v all_nil)) (all_cons (loopOK_of (mk := 16000012) (sl := [0, 1, 5, 6, 7, 69, 70, 71]) (ss := [([0, 1, 5, 6, 7, 69, 70, 71], lsl15r12)]) (by kernel_rfl) (by kernel_rfl) (all_cons l15r12v all_nil)) (all_cons (loopOK_of (mk := 16000023) (sl := [0, 1, 5, 6, 13, 98, 99]) (ss := [([0, 1, 5, 6, 13, 98, 99], lsl15r23)]) (by kernel_rfl) (by kernel_rfl) (all_cons l15r23v all_nil)) all_nil)))) (by kernel_rfl) h27.of
def lsl16r6 : LSp := fun vs σ K => dP (.ptr 0 0 []) vs fun r1 => dD wI r1 fun s1 r2 => dD (.sl wI) r2 fun s2 r3 => dD wI r3 fun s3 r4 => dD .bool r4 fun s4 r5 => dP (.vec 5) r5 fun r6 => dD wI r6 fun s5 r7 => dD wI r7 fun s6 r8 => asNil r8 <| asCons σ fun a9 r9 => asOne w2 a9 fun a10 => asAgL a10 fun l11 => dP (.vec 1) l11 fun r12 => dP (.vec 2) r12 fun r13 => dP (.vec 3) r13 fun r14 => dP (.vec 4) r14 fun r15 => asNil r15 <| asCons r9 fun a16 r16 => asDeep .bool a16 fun s7 l17 => asCons l17 fun a18 r18 => asHole 5 a18 fun s8 => asNil r18 <| dR .bool false r16 fun s9 r19 => dR .bool false r19 fun s10 r20 => dR (.arr 2 wI) false r20 fun s11 r21 => dR .bool false r21 fun s12 r22 => asNil r22 <| l16r6 (fun z1 z2 z3 z4 z5 z6 z7 z8 => K (.exit 2) [(0, .ptr 0 0 []), (1, I z1), (3, .d (.sl wI) z2), (9, I z3), (10, B z4)] [.one w2 (.agg [.vec 1, .vec 2, .vec 3, .vec 4]), .deep .bool z5 [], .row .bool z6 false, .row .bool z7 false, .row (.arr 2 wI) z8 false]) s1 s2 s3 s4 s5 s6 s7 s8 s9 s10 s11 s12
theorem l16r6v : LoopV E wF (E.info 16).keep 5 Try.f16.ntmps 17000006 (body Try.f16 6) ([0, 1, 3, 9, 10, 21, 22, 23], lsl16r6) := by
  intro vs σ K h0
  obtain ⟨s1, s2, s3, r4, rfl, h8⟩ := cPDDD h0
  obtain ⟨s4, s5, s6, r8, rfl, h16⟩ := cDPDD h8
  obtain ⟨rfl, h17⟩ := cN h16
  obtain ⟨a9, r9, rfl, h18⟩ := asCons_inv h17
  obtain ⟨a10, rfl, h19⟩ := asOne_inv h18
  obtain ⟨l11, rfl, h20⟩ := asAgL_inv h19
  obtain ⟨r15, rfl, h28⟩ := cPPPP h20
  obtain ⟨rfl, h29⟩ := cN h28
  obtain ⟨a16, r16, rfl, h30⟩ := asCons_inv h29
  obtain ⟨s7, l17, rfl, h31⟩ := asDeep_inv h30
  obtain ⟨a18, r18, rfl, h32⟩ := asCons_inv h31
  obtain ⟨s8, rfl, h33⟩ := asHole_inv h32
  obtain ⟨rfl, h34⟩ := cN h33
  obtain ⟨s9, r19, rfl, h36⟩ := cR h34
  obtain ⟨s10, r20, rfl, h38⟩ := cR h36
  obtain ⟨s11, r21, rfl, h40⟩ := cR h38
  obtain ⟨s12, r22, rfl, h42⟩ := cR h40
  obtain ⟨rfl, h43⟩ := cN h42
  intro J hJ
  have hp : ∀ c' ∈ subsOf (E.info 16).keep (body Try.f16 6), SubOK E wF (E.info 16).keep 5 Try.f16.ntmps (lofL nL) c' := all_eq (by kernel_rfl) all_nil
  exact h43.of (fun s1 s2 s3 s4 s5 s6 s7 s8 s9 s10 s11 s12 => J [(17000006, .undef), (0, .ptr 0 0 []), (1, I s1), (3, .d (.sl wI) s2), (9, I s3), (10, B s4), (21, .vec 5), (22, I s5), (23, I s6)] [.one w2 (.agg [.vec 1, .vec 2, .vec 3, .vec 4]), .deep .bool s7 [(s8, 5)], .row .bool s9 false, .row .bool s10 false, .row (.arr 2 wI) s11 false, .row .bool s12 false]) (fun s1 s2 s3 s4 s5 s6 s7 s8 s9 s10 s11 s12 hb => loop_round2 nS (inlOK _) hp hJ (by kernel_rfl) hb)
abbrev Ll16r3 : wL := [(17000006, [0, 1, 3, 9, 10, 21, 22, 23], none, lsl16r6)]
def lsl16r3 : LSp := fun vs σ K => dP (.ptr 0 0 []) vs fun r1 => dD wI r1 fun s1 r2 => dD (.sl wI) r2 fun s2 r3 => dD wI r3 fun s3 r4 => dD .bool r4 fun s4 r5 => asNil r5 <| asCons σ fun a6 r6 => asOne w2 a6 fun a7 => asAgL a7 fun l8 => dP (.vec 1) l8 fun r9 => dP (.vec 2) r9 fun r10 => dP (.vec 3) r10 fun r11 => dP (.vec 4) r11 fun r12 => asNil r12 <| asCons r6 fun a13 r13 => asDeep .bool a13 fun s5 l14 => asNil l14 <| dR .bool false r13 fun s6 r15 => dR .bool false r15 fun s7 r16 => dR (.arr 2 wI) false r16 fun s8 r17 => asNil r17 <| l16r3 (fun z1 z2 z3 z4 z5 => K (.exit 0) [(9, I z1)] [.one w2 (.agg [.vec 1, .vec 2, .vec 3, .vec 4]), .deep .bool z2 [], .row .bool z3 false, .row .bool z4 false, .row (.arr 2 wI) z5 false]) s1 s2 s3 s4 s5 s6 s7 s8
theorem l16r3v : LoopV E wF (E.info 16).keep 5 Try.f16.ntmps 17000003 (body Try.f16 3) ([0, 1, 3, 9, 10], lsl16r3) := by
  intro vs σ K h0
  obtain ⟨s1, s2, s3, r4, rfl, h8⟩ := cPDDD h0
  obtain ⟨s4, r5, rfl, h10⟩ := cD h8
  obtain ⟨rfl, h11⟩ := cN h10
  obtain ⟨a6, r6, rfl, h12⟩ := asCons_inv h11
  obtain ⟨a7, rfl, h13⟩ := asOne_inv h12
  obtain ⟨l8, rfl, h14⟩ := asAgL_inv h13
  obtain ⟨r12, rfl, h22⟩ := cPPPP h14
  obtain ⟨rfl, h23⟩ := cN h22
  obtain ⟨a13, r13, rfl, h24⟩ := asCons_inv h23
  obtain ⟨s5, l14, rfl, h25⟩ := asDeep_inv h24
  obtain ⟨rfl, h26⟩ := cN h25
  obtain ⟨s6, r15, rfl, h28⟩ := cR h26
  obtain ⟨s7, r16, rfl, h30⟩ := cR h28
  obtain ⟨s8, r17, rfl, h32⟩ := cR h30
  obtain ⟨rfl, h33⟩ := cN h32
  intro J hJ
  have hp : ∀ c' ∈ subsOf (E.info 16).keep (body Try.f16 3), SubOK E wF (E.info 16).keep 5 Try.f16.ntmps (lofL Ll16r3) c' := all_eq (by kernel_rfl : subsOf (E.info 16).keep (body Try.f16 3) = [.loop (body Try.f16 6)]) (all_cons (loopOK_of (mk := 17000006) (sl := [0, 1, 3, 9, 10, 21, 22, 23]) (ss := [([0, 1, 3, 9, 10, 21, 22, 23], lsl16r6)]) (by kernel_rfl) (by kernel_rfl) (all_cons l16r6v all_nil)) all_nil)
  exact h33.of (fun s1 s2 s3 s4 s5 s6 s7 s8 => J [(17000003, .undef), (0, .ptr 0 0 []), (1, I s1), (3, .d (.sl wI) s2), (9, I s3), (10, B s4)] [.one w2 (.agg [.vec 1, .vec 2, .vec 3, .vec 4]), .deep .bool s5 [], .row .bool s6 false, .row .bool s7 false, .row (.arr 2 wI) s8 false]) (fun s1 s2 s3 s4 s5 s6 s7 s8 hb => loop_round2 nS (inlOK _) hp hJ (by kernel_rfl) hb)
abbrev L16 : wL := [(17000003, [0, 1, 3, 9, 10], none, lsl16r3)]
def sp16 : Sp := fun args τ K => dP (.ptr 0 0 []) args fun r1 => dD wI r1 fun x1 r2 => dD wI r2 fun x2 r3 => dD (.sl wI) r3 fun x3 r4 => asNil r4 <| asCons τ fun a5 r5 => asOne w2 a5 fun a6 => asAgL a6 fun l7 => dP (.vec 1) l7 fun r8 => dP (.vec 2) r8 fun r9 => dP (.vec 3) r9 fun r10 => dP (.vec 4) r10 fun r11 => asNil r11 <| asCons r5 fun a12 r12 => asDeep .bool a12 fun x4 l13 => asNil l13 <| dR .bool false r12 fun x5 r14 => dR .bool false r14 fun x6 r15 => dR (.arr 2 wI) false r15 fun x7 r16 => asNil r16 <| c16 x1 x2 x3 x4 x5 x6 x7 (fun z1 z2 z3 z4 z5 => K (I z1) [.one w2 (.agg [.vec 1, .vec 2, .vec 3, .vec 4]), .deep .bool z2 [], .row .bool z3 false, .row .bool z4 false, .row (.arr 2 wI) z5 false])
theorem h16 : ∀ args τ K, sp16 args τ K → ACall E 16 args τ K := by
  intro args τ K h0
  obtain ⟨x1, x2, x3, r4, rfl, h8⟩ := cPDDD h0
  obtain ⟨rfl, h9⟩ := cN h8
  obtain ⟨a5, r5, rfl, h10⟩ := asCons_inv h9
  obtain ⟨a6, rfl, h11⟩ := asOne_inv h10
  obtain ⟨l7, rfl, h12⟩ := asAgL_inv h11
  obtain ⟨r11, rfl, h20⟩ := cPPPP h12
  obtain ⟨rfl, h21⟩ := cN h20
  obtain ⟨a12, r12, rfl, h22⟩ := asCons_inv h21
  obtain ⟨x4, l13, rfl, h23⟩ := asDeep_inv h22
  obtain ⟨rfl, h24⟩ := cN h23
  obtain ⟨x5, r14, rfl, h26⟩ := cR h24
  obtain ⟨x6, r15, rfl, h28⟩ := cR h26
  obtain ⟨x7, r16, rfl, h30⟩ := cR h28
  obtain ⟨rfl, h31⟩ := cN h30
  exact ACall.spec2 (fn := Try.f16) (c := codeOf Try.f16) (L := lofL L16) nS (by kernel_rfl) (by kernel_rfl) (inlOK _) (all_eq (by kernel_rfl : subsOf (E.info 16).keep (codeOf Try.f16) = [.loop (body Try.f16 3)]) (all_cons (loopOK_of (mk := 17000003) (sl := [0, 1, 3, 9, 10]) (ss := [([0, 1, 3, 9, 10], lsl16r3)]) (by kernel_rfl) (by kernel_rfl) (all_cons l16r3v all_nil)) all_nil)) (by kernel_rfl) h31.of
abbrev Sl6r15 : wS := [(16, none, sp16)]
theorem hSl6r15 : SpecOK E (ofL Sl6r15) := specOK_cons h16 specOK_nil
def lsl6r15 : LSp := fun vs σ K => dD wI vs fun s1 r1 => dP (.ptr 0 0 []) r1 fun r2 => dP (.ptr 3 0 []) r2 fun r3 => dP (.vec 8) r3 fun r4 => dP (.ptr 9 0 []) r4 fun r5 => dP (.vec 12) r5 fun r6 => dD wI r6 fun s2 r7 => dD wI r7 fun s3 r8 => asNil r8 <| asCons σ fun a9 r9 => asOne w4 a9 fun a10 => asAgL a10 fun l11 => dP (.vec 1) l11 fun r12 => dP (.vec 2) r12 fun r13 => dD wI r13 fun s4 r14 => asNil r14 <| dR wI false r9 fun s5 r15 => dR wI false r15 fun s6 r16 => asCons r16 fun a17 r17 => asOne w2 a17 fun a18 => asAgL a18 fun l19 => dP (.vec 4) l19 fun r20 => dP (.vec 5) r20 fun r21 => dP (.vec 6) r21 fun r22 => dP (.vec 7) r22 fun r23 => asNil r23 <| asCons r17 fun a24 r24 => asDeep .bool a24 fun s7 l25 => asNil l25 <| dR .bool false r24 fun s8 r26 => dR .bool false r26 fun s9 r27 => dR (.arr 2 wI) false r27 fun s10 r28 => dR wI false r28 fun s11 r29 => asCons r29 fun a30 r30 => asOne w4 a30 fun a31 => asAgL a31 fun l32 => dP (.vec 10) l32 fun r33 => dP (.vec 11) r33 fun r34 => dD wI r34 fun s12 r35 => asNil r35 <| dR wI false r30 fun s13 r36 => dR wI false r36 fun s14 r37 => dR wI false r37 fun s15 r38 => asNil r38 <| l6r15 (fun z1 z2 z3 z4 z5 z6 z7 z8 z9 z10 z11 => K (.exit 2) [(4, .ptr 0 0 []), (7, .ptr 3 0 []), (8, .vec 8), (9, .ptr 9 0 [])] [.one w4 (.agg [.vec 1, .vec 2, I z1]), .row wI z2 false, .row wI z3 false, .one w2 (.agg [.vec 4, .vec 5, .vec 6, .vec 7]), .deep .bool z4 [], .row .bool z5 false, .row .bool z6 false, .row (.arr 2 wI) z7 false, .row wI z8 false, .one w4 (.agg [.vec 10, .vec 11, I z9]), .row wI z10 false, .row wI z11 false]) s1 s2 s3 s4 s5 s6 s7 s8 s9 s10 s11 s12 s13 s14 s15
theorem l6r15v : LoopV E wF (E.info 6).keep 0 Try.f6.ntmps 7000015 (body Try.f6 15) ([1, 4, 7, 8, 9, 58, 59, 60], lsl6r15) := by
  intro vs σ K h0
  obtain ⟨s1, r4, rfl, h8⟩ := cDPPP h0
  obtain ⟨s2, s3, r8, rfl, h16⟩ := cPPDD h8
  obtain ⟨rfl, h17⟩ := cN h16
  obtain ⟨a9, r9, rfl, h18⟩ := asCons_inv h17
  obtain ⟨a10, rfl, h19⟩ := asOne_inv h18
  obtain ⟨l11, rfl, h20⟩ := asAgL_inv h19
  obtain ⟨s4, r14, rfl, h26⟩ := cPPD h20
  obtain ⟨rfl, h27⟩ := cN h26
  obtain ⟨s5, r15, rfl, h29⟩ := cR h27
  obtain ⟨s6, r16, rfl, h31⟩ := cR h29
  obtain ⟨a17, r17, rfl, h32⟩ := asCons_inv h31
  obtain ⟨a18, rfl, h33⟩ := asOne_inv h32
  obtain ⟨l19, rfl, h34⟩ := asAgL_inv h33
  obtain ⟨r23, rfl, h42⟩ := cPPPP h34
  obtain ⟨rfl, h43⟩ := cN h42
  obtain ⟨a24, r24, rfl, h44⟩ := asCons_inv h43
  obtain ⟨s7, l25, rfl, h45⟩ := asDeep_inv h44
  obtain ⟨rfl, h46⟩ := cN h45
  obtain ⟨s8, r26, rfl, h48⟩ := cR h46
  obtain ⟨s9, r27, rfl, h50⟩ := cR h48
  obtain ⟨s10, r28, rfl, h52⟩ := cR h50
  obtain ⟨s11, r29, rfl, h54⟩ := cR h52
  obtain ⟨a30, r30, rfl, h55⟩ := asCons_inv h54
  obtain ⟨a31, rfl, h56⟩ := asOne_inv h55
  obtain ⟨l32, rfl, h57⟩ := asAgL_inv h56
  obtain ⟨s12, r35, rfl, h63⟩ := cPPD h57
  obtain ⟨rfl, h64⟩ := cN h63
  obtain ⟨s13, r36, rfl, h66⟩ := cR h64
  obtain ⟨s14, r37, rfl, h68⟩ := cR h66
  obtain ⟨s15, r38, rfl, h70⟩ := cR h68
  obtain ⟨rfl, h71⟩ := cN h70
  intro J hJ
  have hp : wH 6 Try.f6 (body Try.f6 15) nL := all_eq (by kernel_rfl) all_nil
  exact h71.of (fun s1 s2 s3 s4 s5 s6 s7 s8 s9 s10 s11 s12 s13 s14 s15 => J [(7000015, .undef), (1, I s1), (4, .ptr 0 0 []), (7, .ptr 3 0 []), (8, .vec 8), (9, .ptr 9 0 []), (58, .vec 12), (59, I s2), (60, I s3)] [.one w4 (.agg [.vec 1, .vec 2, I s4]), .row wI s5 false, .row wI s6 false, .one w2 (.agg [.vec 4, .vec 5, .vec 6, .vec 7]), .deep .bool s7 [], .row .bool s8 false, .row .bool s9 false, .row (.arr 2 wI) s10 false, .row wI s11 false, .one w4 (.agg [.vec 10, .vec 11, I s12]), .row wI s13 false, .row wI s14 false, .row wI s15 false]) (fun s1 s2 s3 s4 s5 s6 s7 s8 s9 s10 s11 s12 s13 s14 s15 hb => loop_round2 hSl6r15 (inlOK _) hp hJ (by kernel_rfl) hb)
abbrev Sl6r22 : wS := [(16, none, sp16)]
theorem hSl6r22 : SpecOK E (ofL Sl6r22) := specOK_cons h16 specOK_nil
def lsl6r22 : LSp := fun vs σ K => dP (.ptr 0 0 []) vs fun r1 => dP (.ptr 3 0 []) r1 fun r2 => dP (.vec 8) r2 fun r3 => dP (.ptr 9 0 []) r3 fun r4 => dD wI r4 fun s1 r5 => dD wI r5 fun s2 r6 => asNil r6 <| asCons σ fun a7 r7 => asOne w4 a7 fun a8 => asAgL a8 fun l9 => dP (.vec 1) l9 fun r10 => dP (.vec 2) r10 fun r11 => dD wI r11 fun s3 r12 => asNil r12 <| dR wI false r7 fun s4 r13 => dR wI false r13 fun s5 r14 => asCons r14 fun a15 r15 => asOne w2 a15 fun a16 => asAgL a16 fun l17 => dP (.vec 4) l17 fun r18 => dP (.vec 5) r18 fun r19 => dP (.vec 6) r19 fun r20 => dP (.vec 7) r20 fun r21 => asNil r21 <| asCons r15 fun a22 r22 => asDeep .bool a22 fun s6 l23 => asNil l23 <| dR .bool false r22 fun s7 r24 => dR .bool false r24 fun s8 r25 => dR (.arr 2 wI) false r25 fun s9 r26 => dR wI false r26 fun s10 r27 => asCons r27 fun a28 r28 => asOne w4 a28 fun a29 => asAgL a29 fun l30 => dP (.vec 10) l30 fun r31 => dP (.vec 11) r31 fun r32 => dD wI r32 fun s11 r33 => asNil r33 <| dR wI false r28 fun s12 r34 => dR wI false r34 fun s13 r35 => asNil r35 <| l6r22 (fun z1 z2 z3 z4 z5 z6 z7 => K (.exit 4) [(4, .ptr 0 0 []), (8, .vec 3), (9, .ptr 4 0 [])] [.one w4 (.agg [.vec 1, .vec 2, I z1]), .row wI z2 false, .row wI z3 false, .row wI z4 false, .one w4 (.agg [.vec 5, .vec 6, I z5]), .row wI z6 false, .row wI z7 false]) s1 s2 s3 s4 s5 s6 s7 s8 s9 s10 s11 s12 s13
theorem l6r22v : LoopV E wF (E.info 6).keep 0 Try.f6.ntmps 7000022 (body Try.f6 22) ([4, 7, 8, 9, 80, 81], lsl6r22) := by
  intro vs σ K h0
  obtain ⟨r4, rfl, h8⟩ := cPPPP h0
  obtain ⟨s1, s2, r6, rfl, h12⟩ := cDD h8
  obtain ⟨rfl, h13⟩ := cN h12
  obtain ⟨a7, r7, rfl, h14⟩ := asCons_inv h13
  obtain ⟨a8, rfl, h15⟩ := asOne_inv h14
  obtain ⟨l9, rfl, h16⟩ := asAgL_inv h15
  obtain ⟨s3, r12, rfl, h22⟩ := cPPD h16
  obtain ⟨rfl, h23⟩ := cN h22
  obtain ⟨s4, r13, rfl, h25⟩ := cR h23
  obtain ⟨s5, r14, rfl, h27⟩ := cR h25
  obtain ⟨a15, r15, rfl, h28⟩ := asCons_inv h27
  obtain ⟨a16, rfl, h29⟩ := asOne_inv h28
  obtain ⟨l17, rfl, h30⟩ := asAgL_inv h29
  obtain ⟨r21, rfl, h38⟩ := cPPPP h30
  obtain ⟨rfl, h39⟩ := cN h38
  obtain ⟨a22, r22, rfl, h40⟩ := asCons_inv h39
  obtain ⟨s6, l23, rfl, h41⟩ := asDeep_inv h40
  obtain ⟨rfl, h42⟩ := cN h41
  obtain ⟨s7, r24, rfl, h44⟩ := cR h42
  obtain ⟨s8, r25, rfl, h46⟩ := cR h44
  obtain ⟨s9, r26, rfl, h48⟩ := cR h46
  obtain ⟨s10, r27, rfl, h50⟩ := cR h48
  obtain ⟨a28, r28, rfl, h51⟩ := asCons_inv h50
  obtain ⟨a29, rfl, h52⟩ := asOne_inv h51
  obtain ⟨l30, rfl, h53⟩ := asAgL_inv h52
  obtain ⟨s11, r33, rfl, h59⟩ := cPPD h53
  obtain ⟨rfl, h60⟩ := cN h59
  obtain ⟨s12, r34, rfl, h62⟩ := cR h60
  obtain ⟨s13, r35, rfl, h64⟩ := cR h62
  obtain ⟨rfl, h65⟩ := cN h64
  intro J hJ
  have hp : wH 6 Try.f6 (body Try.f6 22) nL := all_eq (by kernel_rfl) all_nil
  exact h65.of (fun s1 s2 s3 s4 s5 s6 s7 s8 s9 s10 s11 s12 s13 => J [(7000022, .undef), (4, .ptr 0 0 []), (7, .ptr 3 0 []), (8, .vec 8), (9, .ptr 9 0 []), (80, I s1), (81, I s2)] [.one w4 (.agg [.vec 1, .vec 2, I s3]), .row wI s4 false, .row wI s5 false, .one w2 (.agg [.vec 4, .vec 5, .vec 6, .vec 7]), .deep .bool s6 [], .row .bool s7 false, .row .bool s8 false, .row (.arr 2 wI) s9 false, .row wI s10 false, .one w4 (.agg [.vec 10, .vec 11, I s11]), .row wI s12 false, .row wI s13 false]) (fun s1 s2 s3 s4 s5 s6 s7 s8 s9 s10 s11 s12 s13 hb => loop_round2 hSl6r22 (inlOK _) hp hJ (by kernel_rfl) hb)
abbrev Sl6r29 : wS := [(17, none, sp17)]
theorem hSl6r29 : SpecOK E (ofL Sl6r29) := specOK_cons h17 specOK_nil
def lsl6r29 : LSp := fun vs σ K => dP (.ptr 0 0 []) vs fun r1 => dP (.vec 3) r1 fun r2 => dP (.ptr 4 0 []) r2 fun r3 => dD wI r3 fun s1 r4 => dD wI r4 fun s2 r5 => asNil r5 <| asCons σ fun a6 r6 => asOne w4 a6 fun a7 => asAgL a7 fun l8 => dP (.vec 1) l8 fun r9 => dP (.vec 2) r9 fun r10 => dD wI r10 fun s3 r11 => asNil r11 <| dR wI false r6 fun s4 r12 => dR wI false r12 fun s5 r13 => dR wI false r13 fun s6 r14 => asCons r14 fun a15 r15 => asOne w4 a15 fun a16 => asAgL a16 fun l17 => dP (.vec 5) l17 fun r18 => dP (.vec 6) r18 fun r19 => dD wI r19 fun s7 r20 => asNil r20 <| dR wI false r15 fun s8 r21 => dR wI false r21 fun s9 r22 => asNil r22 <| l6r29 (fun z1 z2 z3 z4 z5 z6 => K (.exit 6) [(4, .ptr 0 0 []), (9, .ptr 3 0 [])] [.one w4 (.agg [.vec 1, .vec 2, I z1]), .row wI z2 false, .row wI z3 false, .one w4 (.agg [.vec 4, .vec 5, I z4]), .row wI z5 false, .row wI z6 false]) s1 s2 s3 s4 s5 s6 s7 s8 s9
theorem l6r29v : LoopV E wF (E.info 6).keep 0 Try.f6.ntmps 7000029 (body Try.f6 29) ([4, 8, 9, 121, 122], lsl6r29) := by
  intro vs σ K h0
  obtain ⟨s1, r4, rfl, h8⟩ := cPPPD h0
  obtain ⟨s2, r5, rfl, h10⟩ := cD h8
  obtain ⟨rfl, h11⟩ := cN h10
  obtain ⟨a6, r6, rfl, h12⟩ := asCons_inv h11
  obtain ⟨a7, rfl, h13⟩ := asOne_inv h12
  obtain ⟨l8, rfl, h14⟩ := asAgL_inv h13
  obtain ⟨s3, r11, rfl, h20⟩ := cPPD h14
  obtain ⟨rfl, h21⟩ := cN h20
  obtain ⟨s4, r12, rfl, h23⟩ := cR h21
  obtain ⟨s5, r13, rfl, h25⟩ := cR h23
  obtain ⟨s6, r14, rfl, h27⟩ := cR h25
  obtain ⟨a15, r15, rfl, h28⟩ := asCons_inv h27
  obtain ⟨a16, rfl, h29⟩ := asOne_inv h28
  obtain ⟨l17, rfl, h30⟩ := asAgL_inv h29
  obtain ⟨s7, r20, rfl, h36⟩ := cPPD h30
  obtain ⟨rfl, h37⟩ := cN h36
  obtain ⟨s8, r21, rfl, h39⟩ := cR h37
  obtain ⟨s9, r22, rfl, h41⟩ := cR h39
  obtain ⟨rfl, h42⟩ := cN h41
  intro J hJ
  have hp : wH 6 Try.f6 (body Try.f6 29) nL := all_eq (by kernel_rfl) all_nil
  exact h42.of (fun s1 s2 s3 s4 s5 s6 s7 s8 s9 => J [(7000029, .undef), (4, .ptr 0 0 []), (8, .vec 3), (9, .ptr 4 0 []), (121, I s1), (122, I s2)] [.one w4 (.agg [.vec 1, .vec 2, I s3]), .row wI s4 false, .row wI s5 false, .row wI s6 false, .one w4 (.agg [.vec 5, .vec 6, I s7]), .row wI s8 false, .row wI s9 false]) (fun s1 s2 s3 s4 s5 s6 s7 s8 s9 hb => loop_round2 hSl6r29 (inlOK _) hp hJ (by kernel_rfl) hb)
abbrev Sj6r9 : wS := [(15, none, sp15)]
theorem hSj6r9 : SpecOK E (ofL Sj6r9) := specOK_cons h15 specOK_nil
abbrev Lj6r9 : wL := [(7000010, [1, 4, 7, 8, 9, 43, 44], none, lsl6r10), (7000015, [1, 4, 7, 8, 9, 58, 59, 60], none, lsl6r15), (7000022, [4, 7, 8, 9, 80, 81], none, lsl6r22), (7000029, [4, 8, 9, 121, 122], none, lsl6r29)]
def lsj6r9 : LSp := fun vs σ K => dD wI vs fun s1 r1 => dP (.ptr 0 0 []) r1 fun r2 => dP (.ptr 3 0 []) r2 fun r3 => dP (.vec 8) r3 fun r4 => dP (.ptr 9 0 []) r4 fun r5 => asNil r5 <| asCons σ fun a6 r6 => asOne w4 a6 fun a7 => asAgL a7 fun l8 => dP (.vec 1) l8 fun r9 => dP (.vec 2) r9 fun r10 => dD wI r10 fun s2 r11 => asNil r11 <| dR wI false r6 fun s3 r12 => dR wI false r12 fun s4 r13 => asCons r13 fun a14 r14 => asOne w2 a14 fun a15 => asAgL a15 fun l16 => dP (.vec 4) l16 fun r17 => dP (.vec 5) r17 fun r18 => dP (.vec 6) r18 fun r19 => dP (.vec 7) r19 fun r20 => asNil r20 <| asCons r14 fun a21 r21 => asDeep .bool a21 fun s5 l22 => asNil l22 <| dR .bool false r21 fun s6 r23 => dR .bool false r23 fun s7 r24 => dR (.arr 2 wI) false r24 fun s8 r25 => dR wI false r25 fun s9 r26 => asCons r26 fun a27 r27 => asOne w4 a27 fun a28 => asAgL a28 fun l29 => dP (.vec 10) l29 fun r30 => dP (.vec 11) r30 fun r31 => dD wI r31 fun s10 r32 => asNil r32 <| dR wI false r27 fun s11 r33 => dR wI false r33 fun s12 r34 => asNil r34 <| j6r9 (fun z1 z2 z3 z4 => K .ret [(4, .ptr 0 0 []), (5, I z1)] [.one w4 (.agg [.vec 1, .vec 2, I z2]), .row wI z3 false, .row wI z4 false]) s1 s2 s3 s4 s5 s6 s7 s8 s9 s10 s11 s12
theorem j6r9v : JoinV E wF (E.info 6).keep 0 Try.f6.ntmps 7400009 4000009 (jbody Try.f6 4000009) ([1, 4, 7, 8, 9], lsj6r9) := by
  intro vs σ K h0
  obtain ⟨s1, r4, rfl, h8⟩ := cDPPP h0
  obtain ⟨r5, rfl, h10⟩ := cP h8
  obtain ⟨rfl, h11⟩ := cN h10
  obtain ⟨a6, r6, rfl, h12⟩ := asCons_inv h11
  obtain ⟨a7, rfl, h13⟩ := asOne_inv h12
  obtain ⟨l8, rfl, h14⟩ := asAgL_inv h13
  obtain ⟨s2, r11, rfl, h20⟩ := cPPD h14
  obtain ⟨rfl, h21⟩ := cN h20
  obtain ⟨s3, r12, rfl, h23⟩ := cR h21
  obtain ⟨s4, r13, rfl, h25⟩ := cR h23
  obtain ⟨a14, r14, rfl, h26⟩ := asCons_inv h25
  obtain ⟨a15, rfl, h27⟩ := asOne_inv h26
  obtain ⟨l16, rfl, h28⟩ := asAgL_inv h27
  obtain ⟨r20, rfl, h36⟩ := cPPPP h28
  obtain ⟨rfl, h37⟩ := cN h36
  obtain ⟨a21, r21, rfl, h38⟩ := asCons_inv h37
  obtain ⟨s5, l22, rfl, h39⟩ := asDeep_inv h38
  obtain ⟨rfl, h40⟩ := cN h39
  obtain ⟨s6, r23, rfl, h42⟩ := cR h40
  obtain ⟨s7, r24, rfl, h44⟩ := cR h42
  obtain ⟨s8, r25, rfl, h46⟩ := cR h44
  obtain ⟨s9, r26, rfl, h48⟩ := cR h46
  obtain ⟨a27, r27, rfl, h49⟩ := asCons_inv h48
  obtain ⟨a28, rfl, h50⟩ := asOne_inv h49
  obtain ⟨l29, rfl, h51⟩ := asAgL_inv h50
  obtain ⟨s10, r32, rfl, h57⟩ := cPPD h51
  obtain ⟨rfl, h58⟩ := cN h57
  obtain ⟨s11, r33, rfl, h60⟩ := cR h58
  obtain ⟨s12, r34, rfl, h62⟩ := cR h60
  obtain ⟨rfl, h63⟩ := cN h62
  exact join_round2 (L := lofL Lj6r9) hSj6r9 (inlOK _) (all_eq (by kernel_rfl : subsOf (E.info 6).keep (jbody Try.f6 4000009) = [.loop (body Try.f6 10), .loop (body Try.f6 15), .loop (body Try.f6 22), .loop (body Try.f6 29)]) (all_cons (loopOK_of (mk := 7000010) (sl := [1, 4, 7, 8, 9, 43, 44]) (ss := [([1, 4, 7, 8, 9, 43, 44], lsl6r10)]) (by kernel_rfl) (by kernel_rfl) (all_cons l6r10v all_nil)) (all_cons (loopOK_of (mk := 7000015) (sl := [1, 4, 7, 8, 9, 58, 59, 60]) (ss := [([1, 4, 7, 8, 9, 58, 59, 60], lsl6r15)]) (by kernel_rfl) (by kernel_rfl) (all_cons l6r15v all_nil)) (all_cons (loopOK_of (mk := 7000022) (sl := [4, 7, 8, 9, 80, 81]) (ss := [([4, 7, 8, 9, 80, 81], lsl6r22)]) (by kernel_rfl) (by kernel_rfl) (all_cons l6r22v all_nil)) (all_cons (loopOK_of (mk := 7000029) (sl := [4, 8, 9, 121, 122]) (ss := [([4, 8, 9, 121, 122], lsl6r29)]) (by kernel_rfl) (by kernel_rfl) (all_cons l6r29v all_nil)) all_nil))))) (by kernel_rfl) h63.of
abbrev Sj6r7 : wS := [(14, none, sp14)]
theorem hSj6r7 : SpecOK E (ofL Sj6r7) := specOK_cons h14 specOK_nil
abbrev Lj6r7 : wL := [(7400009, [1, 4, 7, 8, 9], none, lsj6r9)]
def lsj6r7 : LSp := fun vs σ K => dD wI vs fun s1 r1 => dP (.ptr 0 0 []) r1 fun r2 => dP (.ptr 1 0 []) r2 fun r3 => dP (.ptr 4 0 []) r3 fun r4 => asNil r4 <| dO w1 w1 σ fun s2 r5 => asCons r5 fun a7 r7 => asOne w4 a7 fun a8 => asAgL a8 fun l9 => dP (.vec 2) l9 fun r10 => dP (.vec 3) r10 fun r11 => dD wI r11 fun s3 r12 => asNil r12 <| dR wI false r7 fun s4 r13 => dR wI false r13 fun s5 r14 => asCons r14 fun a15 r15 => asOne w2 a15 fun a16 => asAgL a16 fun l17 => dP (.vec 5) l17 fun r18 => dP (.vec 6) r18 fun r19 => dP (.vec 7) r19 fun r20 => dP (.vec 8) r20 fun r21 => asNil r21 <| asCons r15 fun a22 r22 => asDeep .bool a22 fun s6 l23 => asNil l23 <| dR .bool false r22 fun s7 r24 => dR .bool false r24 fun s8 r25 => dR (.arr 2 wI) false r25 fun s9 r26 => asNil r26 <| j6r7 (fun z1 z2 z3 z4 => K .ret [(4, .ptr 0 0 []), (5, I z1)] [.one w4 (.agg [.vec 1, .vec 2, I z2]), .row wI z3 false, .row wI z4 false]) s1 s2 s3 s4 s5 s6 s7 s8 s9
theorem j6r7v : JoinV E wF (E.info 6).keep 0 Try.f6.ntmps 7400007 4000007 (jbody Try.f6 4000007) ([1, 2, 4, 7], lsj6r7) := by
  intro vs σ K h0
  obtain ⟨s1, r4, rfl, h8⟩ := cDPPP h0
  obtain ⟨rfl, h9⟩ := cN h8
  obtain ⟨s2, r5, rfl, h12⟩ := oD h9
  obtain ⟨a7, r7, rfl, h13⟩ := asCons_inv h12
  obtain ⟨a8, rfl, h14⟩ := asOne_inv h13
  obtain ⟨l9, rfl, h15⟩ := asAgL_inv h14
  obtain ⟨s3, r12, rfl, h21⟩ := cPPD h15
  obtain ⟨rfl, h22⟩ := cN h21
  obtain ⟨s4, r13, rfl, h24⟩ := cR h22
  obtain ⟨s5, r14, rfl, h26⟩ := cR h24
  obtain ⟨a15, r15, rfl, h27⟩ := asCons_inv h26
  obtain ⟨a16, rfl, h28⟩ := asOne_inv h27
  obtain ⟨l17, rfl, h29⟩ := asAgL_inv h28
  obtain ⟨r21, rfl, h37⟩ := cPPPP h29
  obtain ⟨rfl, h38⟩ := cN h37
  obtain ⟨a22, r22, rfl, h39⟩ := asCons_inv h38
  obtain ⟨s6, l23, rfl, h40⟩ := asDeep_inv h39
  obtain ⟨rfl, h41⟩ := cN h40
  obtain ⟨s7, r24, rfl, h43⟩ := cR h41
  obtain ⟨s8, r25, rfl, h45⟩ := cR h43
  obtain ⟨s9, r26, rfl, h47⟩ := cR h45
  obtain ⟨rfl, h48⟩ := cN h47
  exact join_round2 (L := lofL Lj6r7) hSj6r7 (inlOK _) (all_eq (by kernel_rfl : subsOf (E.info 6).keep (jbody Try.f6 4000007) = [.join 4000009 (jbody Try.f6 4000009)]) (all_cons (joinOK_of (mk := 7400009) (sl := [1, 4, 7, 8, 9]) (ss := [([1, 4, 7, 8, 9], lsj6r9)]) (by kernel_rfl) (by kernel_rfl) (all_cons j6r9v all_nil)) all_nil)) (by kernel_rfl) h48.of
abbrev S6 : wS := [(12, none, sp12), (13, none, sp13)]
theorem hS6 : SpecOK E (ofL S6) := specOK_cons h12 (specOK_cons h13 specOK_nil)
abbrev L6 : wL := [(7400007, [1, 2, 4, 7], none, lsj6r7)]
def sp6 : Sp := fun args τ K => dD w1 args fun x1 r1 => dD wI r1 fun x2 r2 => asNil r2 <| asNil τ <| c6 x1 x2 (fun z1 z2 z3 z4 => K (.tup [.agg [.vec 0, .vec 1, I z1], I z2]) [.row wI z3 false, .row wI z4 false])
theorem h6 : ∀ args τ K, sp6 args τ K → ACall E 6 args τ K := by
  intro args τ K h0
  obtain ⟨x1, x2, r2, rfl, h4⟩ := cDD h0
  obtain ⟨rfl, rfl, h6⟩ := cM h4
  exact ACall.spec2 (fn := Try.f6) (c := codeOf Try.f6) (L := lofL L6) hS6 (by kernel_rfl) (by kernel_rfl) (inlOK _) (all_eq (by kernel_rfl : subsOf (E.info 6).keep (codeOf Try.f6) = [.join 4000007 (jbody Try.f6 4000007)]) (all_cons (joinOK_of (mk := 7400007) (sl := [1, 2, 4, 7]) (ss := [([1, 2, 4, 7], lsj6r7)]) (by kernel_rfl) (by kernel_rfl) (all_cons j6r7v all_nil)) all_nil)) (by kernel_rfl) h6.of
abbrev S4 : wS := [(11, none, sp11), (6, none, sp6)]
theorem hS4 : SpecOK E (ofL S4) := specOK_cons h11 (specOK_cons h6 specOK_nil)
def sp4 : Sp := fun args τ K => asNil args <| asNil τ <| c4  (fun z1 => K (B z1) [])
theorem h4 : ∀ args τ K, sp4 args τ K → ACall E 4 args τ K := by
  intro args τ K h0
  obtain ⟨rfl, rfl, h2⟩ := cM h0
  exact ACall.spec2 (fn := Try.f4) (c := codeOf Try.f4) (L := lofL nL) hS4 (by kernel_rfl) (by kernel_rfl) (inlOK _) (all_eq (by kernel_rfl) all_nil) (by kernel_rfl) h2.of
def lsl5r3 : LSp := fun vs σ K => dP (.ptr 0 0 []) vs fun r1 => dD wI r1 fun s1 r2 => dD (.sl w0) r2 fun s2 r3 => dD wI r3 fun s3 r4 => dD wI r4 fun s4 r5 => asNil r5 <| dO w1 w1 σ fun s5 r6 => asNil r6 <| l5r3 (fun z1 z2 => K (.exit 0) [(1, .ptr 0 0 []), (3, I z1)] [.one w1 (.d w1 z2)]) s1 s2 s3 s4 s5
theorem l5r3v : LoopV E wF (E.info 5).keep 0 Try.f5.ntmps 6000003 (body Try.f5 3) ([1, 3, 7, 8, 9], lsl5r3) := by
  intro vs σ K h0
  obtain ⟨s1, s2, s3, r4, rfl, h8⟩ := cPDDD h0
  obtain ⟨s4, r5, rfl, h10⟩ := cD h8
  obtain ⟨rfl, h11⟩ := cN h10
  obtain ⟨s5, r6, rfl, h14⟩ := oD h11
  obtain ⟨rfl, h15⟩ := cN h14
  intro J hJ
  have hp : wH 5 Try.f5 (body Try.f5 3) nL := all_eq (by kernel_rfl) all_nil
  exact h15.of (fun s1 s2 s3 s4 s5 => J [(6000003, .undef), (1, .ptr 0 0 []), (3, I s1), (7, .d (.sl w0) s2), (8, I s3), (9, I s4)] [.one w1 (.d w1 s5)]) (fun s1 s2 s3 s4 s5 hb => loop_round2 nS (inlOK _) hp hJ (by kernel_rfl) hb)
abbrev L5 : wL := [(6000003, [1, 3, 7, 8, 9], none, lsl5r3)]
def sp5 : Sp := fun args τ K => dD w1 args fun x1 r1 => asNil r1 <| asNil τ <| c5 x1 (fun z1 => K (B z1) [])
theorem h5 : ∀ args τ K, sp5 args τ K → ACall E 5 args τ K := by
  intro args τ K h0
  obtain ⟨x1, r1, rfl, h2⟩ := cD h0
  obtain ⟨rfl, rfl, h4⟩ := cM h2
  exact ACall.spec2 (fn := Try.f5) (c := codeOf Try.f5) (L := lofL L5) nS (by kernel_rfl) (by kernel_rfl) (inlOK _) (all_eq (by kernel_rfl : subsOf (E.info 5).keep (codeOf Try.f5) = [.loop (body Try.f5 3)]) (all_cons (loopOK_of (mk := 6000003) (sl := [1, 3, 7, 8, 9]) (ss := [([1, 3, 7, 8, 9], lsl5r3)]) (by kernel_rfl) (by kernel_rfl) (all_cons l5r3v all_nil)) all_nil)) (by kernel_rfl) h4.of
def lsl7r11 : LSp := fun vs σ K => dP (.ptr 0 0 []) vs fun r1 => dD wI r1 fun s1 r2 => dD (.sl wI) r2 fun s2 r3 => dD wI r3 fun s3 r4 => dD wI r4 fun s4 r5 => dD (.sl wI) r5 fun s5 r6 => dD wI r6 fun s6 r7 => dD wI r7 fun s7 r8 => asNil r8 <| dO w1 w1 σ fun s8 r9 => asNil r9 <| l7r11 (fun z1 => K .ret [(1, .undef), (2, I z1), (40, .undef), (41, .undef), (42, .undef)] []) (fun z1 z2 z3 z4 => K (.exit 2) [(1, .ptr 0 0 []), (2, .undef), (40, .d (.sl wI) z1), (41, I z2), (42, I z3)] [.one w1 (.d w1 z4)]) s1 s2 s3 s4 s5 s6 s7 s8
theorem l7r11v : LoopV E wF (E.info 7).keep 0 Try.f7.ntmps 8000011 (body Try.f7 11) ([1, 4, 40, 41, 42, 58, 59, 60], lsl7r11) := by
  intro vs σ K h0
  obtain ⟨s1, s2, s3, r4, rfl, h8⟩ := cPDDD h0
  obtain ⟨s4, s5, s6, s7, r8, rfl, h16⟩ := cDDDD h8
  obtain ⟨rfl, h17⟩ := cN h16
  obtain ⟨s8, r9, rfl, h20⟩ := oD h17
  obtain ⟨rfl, h21⟩ := cN h20
  intro J hJ
  have hp : wH 7 Try.f7 (body Try.f7 11) nL := all_eq (by kernel_rfl) all_nil
  exact h21.of (fun s1 s2 s3 s4 s5 s6 s7 s8 => J [(8000011, .undef), (1, .ptr 0 0 []), (4, I s1), (40, .d (.sl wI) s2), (41, I s3), (42, I s4), (58, .d (.sl wI) s5), (59, I s6), (60, I s7)] [.one w1 (.d w1 s8)]) (fun s1 s2 s3 s4 s5 s6 s7 s8 hb => loop_round2 nS (inlOK _) hp hJ (by kernel_rfl) hb)
abbrev Ll7r6 : wL := [(8000011, [1, 4, 40, 41, 42, 58, 59, 60], none, lsl7r11)]
def lsl7r6 : LSp := fun vs σ K => dP (.ptr 0 0 []) vs fun r1 => dD (.sl wI) r1 fun s1 r2 => dD wI r2 fun s2 r3 => dD wI r3 fun s3 r4 => asNil r4 <| dO w1 w1 σ fun s4 r5 => asNil r5 <| l7r6 (fun z1 => K .ret [(1, .undef), (2, I z1)] []) (fun z1 => K (.exit 0) [(1, .ptr 0 0 []), (2, .undef)] [.one w1 (.d w1 z1)]) s1 s2 s3 s4
theorem l7r6v : LoopV E wF (E.info 7).keep 0 Try.f7.ntmps 8000006 (body Try.f7 6) ([1, 40, 41, 42], lsl7r6) := by
  intro vs σ K h0
  obtain ⟨s1, s2, s3, r4, rfl, h8⟩ := cPDDD h0
  obtain ⟨rfl, h9⟩ := cN h8
  obtain ⟨s4, r5, rfl, h12⟩ := oD h9
  obtain ⟨rfl, h13⟩ := cN h12
  intro J hJ
  have hp : wH 7 Try.f7 (body Try.f7 6) Ll7r6 := all_eq (by kernel_rfl : subsOf (E.info 7).keep (body Try.f7 6) = [.loop (body Try.f7 11)]) (all_cons (loopOK_of (mk := 8000011) (sl := [1, 4, 40, 41, 42, 58, 59, 60]) (ss := [([1, 4, 40, 41, 42, 58, 59, 60], lsl7r11)]) (by kernel_rfl) (by kernel_rfl) (all_cons l7r11v all_nil)) all_nil)
  exact h13.of (fun s1 s2 s3 s4 => J [(8000006, .undef), (1, .ptr 0 0 []), (40, .d (.sl wI) s1), (41, I s2), (42, I s3)] [.one w1 (.d w1 s4)]) (fun s1 s2 s3 s4 hb => loop_round2 nS (inlOK _) hp hJ (by kernel_rfl) hb)
def sp54 : Sp := fun args τ K => asNil args <| asNil τ <| c54  (fun z1 => K (.vec 0) [.row .str z1 false])
theorem h54 : ∀ args τ K, sp54 args τ K → ACall E 54 args τ K := by
  intro args τ K h0
  obtain ⟨rfl, rfl, h2⟩ := cM h0
  exact ACall.spec2 (fn := Try.f54) (c := codeOf Try.f54) (L := lofL nL) nS (by kernel_rfl) (by kernel_rfl) (inlOK _) (all_eq (by kernel_rfl) all_nil) (by kernel_rfl) h2.of
abbrev S42 : wS := [(54, none, sp54)]
theorem hS42 : SpecOK E (ofL S42) := specOK_cons h54 specOK_nil
def sp42 : Sp := fun args τ K => dD wI args fun x1 r1 => asNil r1 <| asNil τ <| c42 x1 (fun z1 => K (.d .str z1) [])
theorem h42 : ∀ args τ K, sp42 args τ K → ACall E 42 args τ K := by
  intro args τ K h0
  obtain ⟨x1, r1, rfl, h2⟩ := cD h0
  obtain ⟨rfl, rfl, h4⟩ := cM h2
  exact ACall.spec2 (fn := Try.f42) (c := codeOf Try.f42) (L := lofL nL) hS42 (by kernel_rfl) (by kernel_rfl) (inlOK _) (all_eq (by kernel_rfl) all_nil) (by kernel_rfl) h4.of
def lsl43r2 : LSp := fun vs σ K => dD .str vs fun s1 r1 => dD (.int .u8) r1 fun s2 r2 => dD wI r2 fun s3 r3 => dD wI r3 fun s4 r4 => asNil r4 <| asNil σ <| l43r2 (fun z1 => K .ret [(4, B z1)] []) (K (.exit 0) [(4, .undef)] []) s1 s2 s3 s4
theorem l43r2v : LoopV E wF (E.info 43).keep 0 Try.f43.ntmps 44000002 (body Try.f43 2) ([0, 1, 7, 8], lsl43r2) := by
  intro vs σ K h0
  obtain ⟨s1, s2, s3, s4, r4, rfl, h8⟩ := cDDDD h0
  obtain ⟨rfl, rfl, h10⟩ := cM h8
  intro J hJ
  have hp : wH 43 Try.f43 (body Try.f43 2) nL := all_eq (by kernel_rfl) all_nil
  exact h10.of (fun s1 s2 s3 s4 => J [(44000002, .undef), (0, .d .str s1), (1, .d (.int .u8) s2), (7, I s3), (8, I s4)] []) (fun s1 s2 s3 s4 hb => loop_round2 nS (inlOK _) hp hJ (by kernel_rfl) hb)
abbrev L43 : wL := [(44000002, [0, 1, 7, 8], none, lsl43r2)]
def sp43 : Sp := fun args τ K => dD .str args fun x1 r1 => dD (.int .u8) r1 fun x2 r2 => asNil r2 <| asNil τ <| c43 x1 x2 (fun z1 => K (B z1) [])
theorem h43 : ∀ args τ K, sp43 args τ K → ACall E 43 args τ K := by
  intro args τ K h0
  obtain ⟨x1, x2, r2, rfl, h4⟩ := cDD h0
  obtain ⟨rfl, rfl, h6⟩ := cM h4
  exact ACall.spec2 (fn := Try.f43) (c := codeOf Try.f43) (L := lofL L43) nS (by kernel_rfl) (by kernel_rfl) (inlOK _) (all_eq (by kernel_rfl : subsOf (E.info 43).keep (codeOf Try.f43) = [.loop (body Try.f43 2)]) (all_cons (loopOK_of (mk := 44000002) (sl := [0, 1, 7, 8]) (ss := [([0, 1, 7, 8], lsl43r2)]) (by kernel_rfl) (by kernel_rfl) (all_cons l43r2v all_nil)) all_nil)) (by kernel_rfl) h6.of
abbrev Sl18r5 : wS := [(43, none, sp43)]
theorem hSl18r5 : SpecOK E (ofL Sl18r5) := specOK_cons h43 specOK_nil
def lsl18r5 : LSp := fun vs σ K => dD wI vs fun s1 r1 => dP (.ptr 0 0 []) r1 fun r2 => dD .str r2 fun s2 r3 => dP (.vec 1) r3 fun r4 => dD wI r4 fun s3 r5 => dD wI r5 fun s4 r6 => asNil r6 <| dO w3 w3 σ fun s5 r7 => dR wI false r7 fun s6 r9 => asNil r9 <| l18r5 (fun z1 => K .ret [(1, .undef), (2, .undef), (4, I z1)] []) (fun z1 z2 => K (.exit 0) [(1, I z1), (2, .ptr 0 0 []), (4, .undef)] [.one w3 (.d w3 z2)]) s1 s2 s3 s4 s5 s6
theorem l18r5v : LoopV E wF (E.info 18).keep 0 Try.f18.ntmps 19000005 (body Try.f18 5) ([1, 2, 5, 28, 29, 30], lsl18r5) := by
  intro vs σ K h0
  obtain ⟨s1, s2, r4, rfl, h8⟩ := cDPDP h0
  obtain ⟨s3, s4, r6, rfl, h12⟩ := cDD h8
  obtain ⟨rfl, h13⟩ := cN h12
  obtain ⟨s5, r7, rfl, h16⟩ := oD h13
  obtain ⟨s6, r9, rfl, h18⟩ := cR h16
  obtain ⟨rfl, h19⟩ := cN h18
  intro J hJ
  have hp : wH 18 Try.f18 (body Try.f18 5) nL := all_eq (by kernel_rfl) all_nil
  exact h19.of (fun s1 s2 s3 s4 s5 s6 => J [(19000005, .undef), (1, I s1), (2, .ptr 0 0 []), (5, .d .str s2), (28, .vec 1), (29, I s3), (30, I s4)] [.one w3 (.d w3 s5), .row wI s6 false]) (fun s1 s2 s3 s4 s5 s6 hb => loop_round2 hSl18r5 (inlOK _) hp hJ (by kernel_rfl) hb)
def lsl18r23 : LSp := fun vs σ K => dD wI vs fun s1 r1 => dP (.vec 0) r1 fun r2 => dD wI r2 fun s2 r3 => dD wI r3 fun s3 r4 => asNil r4 <| dR wI false σ fun s4 r5 => asNil r5 <| l18r23 (fun z1 => K .ret [(4, I z1)] []) (K (.exit 3) [(4, .undef)] []) s1 s2 s3 s4
theorem l18r23v : LoopV E wF (E.info 18).keep 0 Try.f18.ntmps 19000023 (body Try.f18 23) ([1, 80, 81, 82], lsl18r23) := by
  intro vs σ K h0
  obtain ⟨s1, s2, s3, r4, rfl, h8⟩ := cDPDD h0
  obtain ⟨rfl, h9⟩ := cN h8
  obtain ⟨s4, r5, rfl, h11⟩ := cR h9
  obtain ⟨rfl, h12⟩ := cN h11
  intro J hJ
  have hp : wH 18 Try.f18 (body Try.f18 23) nL := all_eq (by kernel_rfl) all_nil
  exact h12.of (fun s1 s2 s3 s4 => J [(19000023, .undef), (1, I s1), (80, .vec 0), (81, I s2), (82, I s3)] [.row wI s4 false]) (fun s1 s2 s3 s4 hb => loop_round2 nS (inlOK _) hp hJ (by kernel_rfl) hb)
abbrev Lj18r20 : wL := [(19000023, [1, 80, 81, 82], none, lsl18r23)]
def lsj18r20 : LSp := fun vs σ K => dD wI vs fun s1 r1 => dP (.ptr 0 0 []) r1 fun r2 => dD wI r2 fun s2 r3 => dD wI r3 fun s3 r4 => asNil r4 <| dO w3 w3 σ fun s4 r5 => asNil r5 <| j18r20 (fun z1 => K .ret [(4, I z1)] []) s1 s2 s3 s4
theorem j18r20v : JoinV E wF (E.info 18).keep 0 Try.f18.ntmps 19400020 4000020 (jbody Try.f18 4000020) ([1, 2, 8, 9], lsj18r20) := by
  intro vs σ K h0
  obtain ⟨s1, s2, s3, r4, rfl, h8⟩ := cDPDD h0
  obtain ⟨rfl, h9⟩ := cN h8
  obtain ⟨s4, r5, rfl, h12⟩ := oD h9
  obtain ⟨rfl, h13⟩ := cN h12
  exact join_round2 (L := lofL Lj18r20) nS (inlOK _) (all_eq (by kernel_rfl : subsOf (E.info 18).keep (jbody Try.f18 4000020) = [.loop (body Try.f18 23)]) (all_cons (loopOK_of (mk := 19000023) (sl := [1, 80, 81, 82]) (ss := [([1, 80, 81, 82], lsl18r23)]) (by kernel_rfl) (by kernel_rfl) (all_cons l18r23v all_nil)) all_nil)) (by kernel_rfl) h13.of
abbrev S18 : wS := [(42, none, sp42)]
theorem hS18 : SpecOK E (ofL S18) := specOK_cons h42 specOK_nil
abbrev L18 : wL := [(19000005, [1, 2, 5, 28, 29, 30], none, lsl18r5), (19400020, [1, 2, 8, 9], none, lsj18r20)]
def sp18 : Sp := fun args τ K => dD w3 args fun x1 r1 => dD wI r1 fun x2 r2 => asNil r2 <| asNil τ <| c18 x1 x2 (fun z1 => K (I z1) [])
theorem h18 : ∀ args τ K, sp18 args τ K → ACall E 18 args τ K := by
  intro args τ K h0
  obtain ⟨x1, x2, r2, rfl, h4⟩ := cDD h0
  obtain ⟨rfl, rfl, h6⟩ := cM h4
  exact ACall.spec2 (fn := Try.f18) (c := codeOf Try.f18) (L := lofL L18) hS18 (by kernel_rfl) (by kernel_rfl) (inlOK _) (all_eq (by kernel_rfl : subsOf (E.info 18).keep (codeOf Try.f18) = [.loop (body Try.f18 5), .join 4000020 (jbody Try.f18 4000020)]) (all_cons (loopOK_of (mk := 19000005) (sl := [1, 2, 5, 28, 29, 30]) (ss := [([1, 2, 5, 28, 29, 30], lsl18r5)]) (by kernel_rfl) (by kernel_rfl) (all_cons l18r5v all_nil)) (all_cons (joinOK_of (mk := 19400020) (sl := [1, 2, 8, 9]) (ss := [([1, 2, 8, 9], lsj18r20)]) (by kernel_rfl) (by kernel_rfl) (all_cons j18r20v all_nil)) all_nil))) (by kernel_rfl) h6.of
abbrev Sl7r25 : wS := [(18, none, sp18)]
theorem hSl7r25 : SpecOK E (ofL Sl7r25) := specOK_cons h18 specOK_nil
def lsl7r25 : LSp := fun vs σ K => dP (.ptr 0 0 []) vs fun r1 => dD wI r1 fun s1 r2 => dP (.ptr 1 0 []) r2 fun r3 => dD (.sl w0) r3 fun s2 r4 => dD wI r4 fun s3 r5 => dD wI r5 fun s4 r6 => dD (.sl w3) r6 fun s5 r7 => dD wI r7 fun s6 r8 => dD wI r8 fun s7 r9 => asNil r9 <| dO w1 w1 σ fun s8 r10 => dO w0 w0 r10 fun s9 r12 => asNil r12 <| l7r25 (fun z1 => K .ret [(1, .undef), (2, I z1), (7, .undef), (9, .undef), (70, .undef), (71, .undef), (72, .undef)] []) (fun z1 z2 z3 z4 z5 z6 => K (.exit 6) [(1, .ptr 0 0 []), (2, .undef), (7, I z1), (9, .ptr 1 0 []), (70, .d (.sl w0) z2), (71, I z3), (72, I z4)] [.one w1 (.d w1 z5), .one w0 (.d w0 z6)]) s1 s2 s3 s4 s5 s6 s7 s8 s9
theorem l7r25v : LoopV E wF (E.info 7).keep 0 Try.f7.ntmps 8000025 (body Try.f7 25) ([1, 7, 9, 70, 71, 72, 84, 85, 86], lsl7r25) := by
  intro vs σ K h0
  obtain ⟨s1, s2, r4, rfl, h8⟩ := cPDPD h0
  obtain ⟨s3, s4, s5, s6, r8, rfl, h16⟩ := cDDDD h8
  obtain ⟨s7, r9, rfl, h18⟩ := cD h16
  obtain ⟨rfl, h19⟩ := cN h18
  obtain ⟨s8, r10, rfl, h22⟩ := oD h19
  obtain ⟨s9, r12, rfl, h25⟩ := oD h22
  obtain ⟨rfl, h26⟩ := cN h25
  intro J hJ
  have hp : wH 7 Try.f7 (body Try.f7 25) nL := all_eq (by kernel_rfl) all_nil
  exact h26.of (fun s1 s2 s3 s4 s5 s6 s7 s8 s9 => J [(8000025, .undef), (1, .ptr 0 0 []), (7, I s1), (9, .ptr 1 0 []), (70, .d (.sl w0) s2), (71, I s3), (72, I s4), (84, .d (.sl w3) s5), (85, I s6), (86, I s7)] [.one w1 (.d w1 s8), .one w0 (.d w0 s9)]) (fun s1 s2 s3 s4 s5 s6 s7 s8 s9 hb => loop_round2 hSl7r25 (inlOK _) hp hJ (by kernel_rfl) hb)
abbrev Sl19r6 : wS := [(43, none, sp43)]
theorem hSl19r6 : SpecOK E (ofL Sl19r6) := specOK_cons h43 specOK_nil
def lsl19r6 : LSp := fun vs σ K => dD wI vs fun s1 r1 => dD wI r1 fun s2 r2 => dP (.ptr 0 0 []) r2 fun r3 => dD .str r3 fun s3 r4 => dD wI r4 fun s4 r5 => dP (.vec 1) r5 fun r6 => dD wI r6 fun s5 r7 => dD wI r7 fun s6 r8 => asNil r8 <| dO w3 w3 σ fun s7 r9 => dR wI false r9 fun s8 r11 => asNil r11 <| l19r6 (fun z1 => K .ret [(1, .undef), (2, .undef), (3, .undef), (6, I z1), (8, .undef)] []) (fun z1 z2 z3 z4 => K (.exit 0) [(1, I z1), (2, I z2), (3, .ptr 0 0 []), (6, .undef), (8, I z3)] [.one w3 (.d w3 z4)]) s1 s2 s3 s4 s5 s6 s7 s8
theorem l19r6v : LoopV E wF (E.info 19).keep 0 Try.f19.ntmps 20000006 (body Try.f19 6) ([1, 2, 3, 7, 8, 39, 40, 41], lsl19r6) := by
  intro vs σ K h0
  obtain ⟨s1, s2, s3, r4, rfl, h8⟩ := cDDPD h0
  obtain ⟨s4, s5, s6, r8, rfl, h16⟩ := cDPDD h8
  obtain ⟨rfl, h17⟩ := cN h16
  obtain ⟨s7, r9, rfl, h20⟩ := oD h17
  obtain ⟨s8, r11, rfl, h22⟩ := cR h20
  obtain ⟨rfl, h23⟩ := cN h22
  intro J hJ
  have hp : wH 19 Try.f19 (body Try.f19 6) nL := all_eq (by kernel_rfl) all_nil
  exact h23.of (fun s1 s2 s3 s4 s5 s6 s7 s8 => J [(20000006, .undef), (1, I s1), (2, I s2), (3, .ptr 0 0 []), (7, .d .str s3), (8, I s4), (39, .vec 1), (40, I s5), (41, I s6)] [.one w3 (.d w3 s7), .row wI s8 false]) (fun s1 s2 s3 s4 s5 s6 s7 s8 hb => loop_round2 hSl19r6 (inlOK _) hp hJ (by kernel_rfl) hb)
def lsj19s11 : LSp := fun vs σ K => dD wI vs fun s1 r1 => dD wI r1 fun s2 r2 => dP (.ptr 0 0 []) r2 fun r3 => dD .bool r3 fun s3 r4 => asNil r4 <| dO w3 w3 σ fun s4 r5 => asNil r5 <| j19s11 (fun z1 => K .ret [(1, .undef), (2, .undef), (3, .undef), (6, I z1)] []) (fun z1 z2 z3 => K .normal [(1, I z1), (2, I z2), (3, .ptr 0 0 []), (6, .undef)] [.one w3 (.d w3 z3)]) s1 s2 s3 s4
theorem j19s11v : JoinV E wF (E.info 19).keep 0 Try.f19.ntmps 20500011 5000011 (jbody Try.f19 5000011) ([1, 2, 3, 90], lsj19s11) := by
  intro vs σ K h0
  obtain ⟨s1, s2, s3, r4, rfl, h8⟩ := cDDPD h0
  obtain ⟨rfl, h9⟩ := cN h8
  obtain ⟨s4, r5, rfl, h12⟩ := oD h9
  obtain ⟨rfl, h13⟩ := cN h12
  exact join_round2 (L := lofL nL) nS (inlOK _) (all_eq (by kernel_rfl) all_nil) (by kernel_rfl) h13.of
def lsl19r16 : LSp := fun vs σ K => dD wI vs fun s1 r1 => dD (.sl wI) r1 fun s2 r2 => dD wI r2 fun s3 r3 => dD wI r3 fun s4 r4 => asNil r4 <| asNil σ <| l19r16 (fun z1 => K .ret [(6, I z1)] []) (K (.exit 2) [(6, .undef)] []) s1 s2 s3 s4
theorem l19r16v : LoopV E wF (E.info 19).keep 0 Try.f19.ntmps 20000016 (body Try.f19 16) ([2, 112, 113, 114], lsl19r16) := by
  intro vs σ K h0
  obtain ⟨s1, s2, s3, s4, r4, rfl, h8⟩ := cDDDD h0
  obtain ⟨rfl, rfl, h10⟩ := cM h8
  intro J hJ
  have hp : wH 19 Try.f19 (body Try.f19 16) nL := all_eq (by kernel_rfl) all_nil
  exact h10.of (fun s1 s2 s3 s4 => J [(20000016, .undef), (2, I s1), (112, .d (.sl wI) s2), (113, I s3), (114, I s4)] []) (fun s1 s2 s3 s4 hb => loop_round2 nS (inlOK _) hp hJ (by kernel_rfl) hb)
abbrev Lj19r13 : wL := [(20000016, [2, 112, 113, 114], none, lsl19r16)]
def lsj19r13 : LSp := fun vs σ K => dD wI vs fun s1 r1 => dD wI r1 fun s2 r2 => dP (.ptr 0 0 []) r2 fun r3 => asNil r3 <| dO w3 w3 σ fun s3 r4 => asNil r4 <| j19r13 (fun z1 => K .ret [(6, I z1)] []) s1 s2 s3
theorem j19r13v : JoinV E wF (E.info 19).keep 0 Try.f19.ntmps 20400013 4000013 (jbody Try.f19 4000013) ([1, 2, 3], lsj19r13) := by
  intro vs σ K h0
  obtain ⟨s1, s2, r3, rfl, h6⟩ := cDDP h0
  obtain ⟨rfl, h7⟩ := cN h6
  obtain ⟨s3, r4, rfl, h10⟩ := oD h7
  obtain ⟨rfl, h11⟩ := cN h10
  exact join_round2 (L := lofL Lj19r13) nS (inlOK _) (all_eq (by kernel_rfl : subsOf (E.info 19).keep (jbody Try.f19 4000013) = [.loop (body Try.f19 16)]) (all_cons (loopOK_of (mk := 20000016) (sl := [2, 112, 113, 114]) (ss := [([2, 112, 113, 114], lsl19r16)]) (by kernel_rfl) (by kernel_rfl) (all_cons l19r16v all_nil)) all_nil)) (by kernel_rfl) h11.of
abbrev L19 : wL := [(20000006, [1, 2, 3, 7, 8, 39, 40, 41], none, lsl19r6), (20500011, [1, 2, 3, 90], none, lsj19s11), (20400013, [1, 2, 3], none, lsj19r13)]
def sp19 : Sp := fun args τ K => dD w3 args fun x1 r1 => dD wI r1 fun x2 r2 => dD wI r2 fun x3 r3 => asNil r3 <| asNil τ <| c19 x1 x2 x3 (fun z1 => K (I z1) [])
theorem h19 : ∀ args τ K, sp19 args τ K → ACall E 19 args τ K := by
  intro args τ K h0
  obtain ⟨x1, x2, x3, r3, rfl, h6⟩ := cDDD h0
  obtain ⟨rfl, rfl, h8⟩ := cM h6
  exact ACall.spec2 (fn := Try.f19) (c := codeOf Try.f19) (L := lofL L19) nS (by kernel_rfl) (by kernel_rfl) (inlOK _) (all_eq (by kernel_rfl : subsOf (E.info 19).keep (codeOf Try.f19) = [.loop (body Try.f19 6), .join 4000013 (jbody Try.f19 4000013), .join 5000011 (jbody Try.f19 5000011)]) (all_cons (loopOK_of (mk := 20000006) (sl := [1, 2, 3, 7, 8, 39, 40, 41]) (ss := [([1, 2, 3, 7, 8, 39, 40, 41], lsl19r6)]) (by kernel_rfl) (by kernel_rfl) (all_cons l19r6v all_nil)) (all_cons (joinOK_of (mk := 20400013) (sl := [1, 2, 3]) (ss := [([1, 2, 3], lsj19r13)]) (by kernel_rfl) (by kernel_rfl) (all_cons j19r13v all_nil)) (all_cons (joinOK_of (mk := 20500011) (sl := [1, 2, 3, 90]) (ss := [([1, 2, 3, 90], lsj19s11)]) (by kernel_rfl) (by kernel_rfl) (all_cons j19s11v all_nil)) all_nil)))) (by kernel_rfl) h8.of
abbrev Sl7r19 : wS := [(19, none, sp19)]
theorem hSl7r19 : SpecOK E (ofL Sl7r19) := specOK_cons h19 specOK_nil
abbrev Ll7r19 : wL := [(8000025, [1, 7, 9, 70, 71, 72, 84, 85, 86], none, lsl7r25)]
def lsl7r19 : LSp := fun vs σ K => dP (.ptr 0 0 []) vs fun r1 => dD wI r1 fun s1 r2 => dD (.sl w0) r2 fun s2 r3 => dD wI r3 fun s3 r4 => dD wI r4 fun s4 r5 => asNil r5 <| dO w1 w1 σ fun s5 r6 => asNil r6 <| l7r19 (fun z1 => K .ret [(1, .undef), (2, I z1)] []) (fun z1 => K (.exit 4) [(1, .ptr 0 0 []), (2, .undef)] [.one w1 (.d w1 z1)]) s1 s2 s3 s4 s5
theorem l7r19v : LoopV E wF (E.info 7).keep 0 Try.f7.ntmps 8000019 (body Try.f7 19) ([1, 7, 70, 71, 72], lsl7r19) := by
  intro vs σ K h0
  obtain ⟨s1, s2, s3, r4, rfl, h8⟩ := cPDDD h0
  obtain ⟨s4, r5, rfl, h10⟩ := cD h8
  obtain ⟨rfl, h11⟩ := cN h10
  obtain ⟨s5, r6, rfl, h14⟩ := oD h11
  obtain ⟨rfl, h15⟩ := cN h14
  intro J hJ
  have hp : wH 7 Try.f7 (body Try.f7 19) Ll7r19 := all_eq (by kernel_rfl : subsOf (E.info 7).keep (body Try.f7 19) = [.loop (body Try.f7 25)]) (all_cons (loopOK_of (mk := 8000025) (sl := [1, 7, 9, 70, 71, 72, 84, 85, 86]) (ss := [([1, 7, 9, 70, 71, 72, 84, 85, 86], lsl7r25)]) (by kernel_rfl) (by kernel_rfl) (all_cons l7r25v all_nil)) all_nil)
  exact h15.of (fun s1 s2 s3 s4 s5 => J [(8000019, .undef), (1, .ptr 0 0 []), (7, I s1), (70, .d (.sl w0) s2), (71, I s3), (72, I s4)] [.one w1 (.d w1 s5)]) (fun s1 s2 s3 s4 s5 hb => loop_round2 hSl7r19 (inlOK _) hp hJ (by kernel_rfl) hb)
def lsl44r3 : LSp := fun vs σ K => dP (.vec 0) vs fun r1 => dP (.vec 1) r1 fun r2 => dD wI r2 fun s1 r3 => dD wI r3 fun s2 r4 => asNil r4 <| dR wI false σ fun s3 r5 => dR wI false r5 fun s4 r6 => asNil r6 <| l44r3 (fun z1 => K (.exit 0) [(3, .vec 0)] [.row wI z1 false]) s1 s2 s3 s4
theorem l44r3v : LoopV E wF (E.info 44).keep 0 Try.f44.ntmps 45000003 (body Try.f44 3) ([3, 13, 14, 15], lsl44r3) := by
  intro vs σ K h0
  obtain ⟨s1, s2, r4, rfl, h8⟩ := cPPDD h0
  obtain ⟨rfl, h9⟩ := cN h8
  obtain ⟨s3, r5, rfl, h11⟩ := cR h9
  obtain ⟨s4, r6, rfl, h13⟩ := cR h11
  obtain ⟨rfl, h14⟩ := cN h13
  intro J hJ
  have hp : wH 44 Try.f44 (body Try.f44 3) nL := all_eq (by kernel_rfl) all_nil
  exact h14.of (fun s1 s2 s3 s4 => J [(45000003, .undef), (3, .vec 0), (13, .vec 1), (14, I s1), (15, I s2)] [.row wI s3 false, .row wI s4 false]) (fun s1 s2 s3 s4 hb => loop_round2 nS (inlOK _) hp hJ (by kernel_rfl) hb)
abbrev L44 : wL := [(45000003, [3, 13, 14, 15], none, lsl44r3)]
def sp44 : Sp := fun args τ K => dD w3 args fun x1 r1 => asNil r1 <| asNil τ <| c44 x1 (fun z1 => K (.vec 0) [.row wI z1 false])
theorem h44 : ∀ args τ K, sp44 args τ K → ACall E 44 args τ K := by
  intro args τ K h0
  obtain ⟨x1, r1, rfl, h2⟩ := cD h0
  obtain ⟨rfl, rfl, h4⟩ := cM h2
  exact ACall.spec2 (fn := Try.f44) (c := codeOf Try.f44) (L := lofL L44) nS (by kernel_rfl) (by kernel_rfl) (inlOK _) (all_eq (by kernel_rfl : subsOf (E.info 44).keep (codeOf Try.f44) = [.loop (body Try.f44 3)]) (all_cons (loopOK_of (mk := 45000003) (sl := [3, 13, 14, 15]) (ss := [([3, 13, 14, 15], lsl44r3)]) (by kernel_rfl) (by kernel_rfl) (all_cons l44r3v all_nil)) all_nil)) (by kernel_rfl) h4.of
def lsl21r2 : LSp := fun vs σ K => dD wI vs fun s1 r1 => dD (.sl wI) r1 fun s2 r2 => dD wI r2 fun s3 r3 => dD wI r3 fun s4 r4 => asNil r4 <| asNil σ <| l21r2 (fun z1 => K .ret [(4, B z1)] []) (K (.exit 0) [(4, .undef)] []) s1 s2 s3 s4
theorem l21r2v : LoopV E wF (E.info 21).keep 0 Try.f21.ntmps 22000002 (body Try.f21 2) ([1, 7, 8, 9], lsl21r2) := by
  intro vs σ K h0
  obtain ⟨s1, s2, s3, s4, r4, rfl, h8⟩ := cDDDD h0
  obtain ⟨rfl, rfl, h10⟩ := cM h8
  intro J hJ
  have hp : wH 21 Try.f21 (body Try.f21 2) nL := all_eq (by kernel_rfl) all_nil
  exact h10.of (fun s1 s2 s3 s4 => J [(22000002, .undef), (1, I s1), (7, .d (.sl wI) s2), (8, I s3), (9, I s4)] []) (fun s1 s2 s3 s4 hb => loop_round2 nS (inlOK _) hp hJ (by kernel_rfl) hb)
abbrev L21 : wL := [(22000002, [1, 7, 8, 9], none, lsl21r2)]
def sp21 : Sp := fun args τ K => dD (.sl wI) args fun x1 r1 => dD wI r1 fun x2 r2 => asNil r2 <| asNil τ <| c21 x1 x2 (fun z1 => K (B z1) [])
theorem h21 : ∀ args τ K, sp21 args τ K → ACall E 21 args τ K := by
  intro args τ K h0
  obtain ⟨x1, x2, r2, rfl, h4⟩ := cDD h0
  obtain ⟨rfl, rfl, h6⟩ := cM h4
  exact ACall.spec2 (fn := Try.f21) (c := codeOf Try.f21) (L := lofL L21) nS (by kernel_rfl) (by kernel_rfl) (inlOK _) (all_eq (by kernel_rfl : subsOf (E.info 21).keep (codeOf Try.f21) = [.loop (body Try.f21 2)]) (all_cons (loopOK_of (mk := 22000002) (sl := [1, 7, 8, 9]) (ss := [([1, 7, 8, 9], lsl21r2)]) (by kernel_rfl) (by kernel_rfl) (all_cons l21r2v all_nil)) all_nil)) (by kernel_rfl) h6.of
def sp25 : Sp := fun args τ K => dD w3 args fun x1 r1 => asNil r1 <| asNil τ <| c25 x1 (fun z1 => K (I z1) [])
theorem h25 : ∀ args τ K, sp25 args τ K → ACall E 25 args τ K := by
  intro args τ K h0
  obtain ⟨x1, r1, rfl, h2⟩ := cD h0
  obtain ⟨rfl, rfl, h4⟩ := cM h2
  exact ACall.spec2 (fn := Try.f25) (c := codeOf Try.f25) (L := lofL nL) nS (by kernel_rfl) (by kernel_rfl) (inlOK _) (all_eq (by kernel_rfl) all_nil) (by kernel_rfl) h4.of
abbrev Sl20r9 : wS := [(44, none, sp44), (21, none, sp21), (25, none, sp25)]
theorem hSl20r9 : SpecOK E (ofL Sl20r9) := specOK_cons h44 (specOK_cons h21 (specOK_cons h25 specOK_nil))
def lsl20r9 : LSp := fun vs σ K => dD wI vs fun s1 r1 => dP (.ptr 0 0 []) r1 fun r2 => dP (.vec 1) r2 fun r3 => asCons r3 fun a4 r4 => asSl 2 false a4 fun s2 s3 s4 => dP (.ptr 3 0 []) r4 fun r5 => dD .bool r5 fun s5 r6 => dD wI r6 fun s6 r7 => asNil r7 <| dO w1 w1 σ fun s7 r8 => dR .bool false r8 fun s8 r10 => dR (.arr 2 wI) false r10 fun s9 r11 => dO w0 w0 r11 fun s10 r12 => asNil r12 <| l20r9 (fun z1 => K .ret [(3, .undef), (4, .undef), (8, B z1), (9, .undef), (10, .undef), (12, .undef), (13, .undef)] []) (fun z1 z2 z3 z4 z5 z6 z7 z8 z9 => K (.exit 2) [(3, I z1), (4, .ptr 0 0 []), (8, .undef), (9, .vec 1), (10, .sl 2 z2 z3 z4 false), (12, .ptr 3 0 []), (13, B z5)] [.one w1 (.d w1 z6), .row .bool z7 false, .row (.arr 2 wI) z8 false, .one w0 (.d w0 z9)]) s1 s2 s3 s4 s5 s6 s7 s8 s9 s10
theorem l20r9v : LoopV E wF (E.info 20).keep 0 Try.f20.ntmps 21000009 (body Try.f20 9) ([3, 4, 9, 10, 12, 13, 14], lsl20r9) := by
  intro vs σ K h0
  obtain ⟨s1, r3, rfl, h6⟩ := cDPP h0
  obtain ⟨a4, r4, rfl, h7⟩ := asCons_inv h6
  obtain ⟨s2, s3, s4, rfl, h8⟩ := asSl_inv h7
  obtain ⟨s5, s6, r7, rfl, h14⟩ := cPDD h8
  obtain ⟨rfl, h15⟩ := cN h14
  obtain ⟨s7, r8, rfl, h18⟩ := oD h15
  obtain ⟨s8, r10, rfl, h20⟩ := cR h18
  obtain ⟨s9, r11, rfl, h22⟩ := cR h20
  obtain ⟨s10, r12, rfl, h25⟩ := oD h22
  obtain ⟨rfl, h26⟩ := cN h25
  intro J hJ
  have hp : wH 20 Try.f20 (body Try.f20 9) nL := all_eq (by kernel_rfl) all_nil
  exact h26.of (fun s1 s2 s3 s4 s5 s6 s7 s8 s9 s10 => J [(21000009, .undef), (3, I s1), (4, .ptr 0 0 []), (9, .vec 1), (10, .sl 2 s2 s3 s4 false), (12, .ptr 3 0 []), (13, B s5), (14, I s6)] [.one w1 (.d w1 s7), .row .bool s8 false, .row (.arr 2 wI) s9 false, .one w0 (.d w0 s10)]) (fun s1 s2 s3 s4 s5 s6 s7 s8 s9 s10 hb => loop_round2 hSl20r9 (inlOK _) hp hJ (by kernel_rfl) hb)
def lsl20r18 : LSp := fun vs σ K => dD wI vs fun s1 r1 => dP (.ptr 0 0 []) r1 fun r2 => dP (.vec 1) r2 fun r3 => asCons r3 fun a4 r4 => asSl 2 false a4 fun s2 s3 s4 => dD (.sl wI) r4 fun s5 r5 => dD wI r5 fun s6 r6 => dD wI r6 fun s7 r7 => asNil r7 <| dO w1 w1 σ fun s8 r8 => dR .bool false r8 fun s9 r10 => dR (.arr 2 wI) false r10 fun s10 r11 => asNil r11 <| l20r18 (fun z1 z2 z3 z4 z5 z6 z7 => K (.exit 4) [(3, I z1), (4, .ptr 0 0 []), (9, .vec 1), (10, .sl 2 z2 z3 z4 false)] [.one w1 (.d w1 z5), .row .bool z6 false, .row (.arr 2 wI) z7 false]) (fun z1 z2 z3 z4 => K (.exit 4) [(3, I z1), (4, .ptr 0 0 []), (9, .vec 1), (10, .vec 2)] [.one w1 (.d w1 z2), .row .bool z3 false, .row (.arr 2 wI) z4 false]) s1 s2 s3 s4 s5 s6 s7 s8 s9 s10
theorem l20r18v : LoopV E wF (E.info 20).keep 0 Try.f20.ntmps 21000018 (body Try.f20 18) ([3, 4, 9, 10, 89, 90, 91], lsl20r18) := by
  intro vs σ K h0
  obtain ⟨s1, r3, rfl, h6⟩ := cDPP h0
  obtain ⟨a4, r4, rfl, h7⟩ := asCons_inv h6
  obtain ⟨s2, s3, s4, rfl, h8⟩ := asSl_inv h7
  obtain ⟨s5, s6, s7, r7, rfl, h14⟩ := cDDD h8
  obtain ⟨rfl, h15⟩ := cN h14
  obtain ⟨s8, r8, rfl, h18⟩ := oD h15
  obtain ⟨s9, r10, rfl, h20⟩ := cR h18
  obtain ⟨s10, r11, rfl, h22⟩ := cR h20
  obtain ⟨rfl, h23⟩ := cN h22
  intro J hJ
  have hp : wH 20 Try.f20 (body Try.f20 18) nL := all_eq (by kernel_rfl) all_nil
  exact h23.of (fun s1 s2 s3 s4 s5 s6 s7 s8 s9 s10 => J [(21000018, .undef), (3, I s1), (4, .ptr 0 0 []), (9, .vec 1), (10, .sl 2 s2 s3 s4 false), (89, .d (.sl wI) s5), (90, I s6), (91, I s7)] [.one w1 (.d w1 s8), .row .bool s9 false, .row (.arr 2 wI) s10 false]) (fun s14 s15 s16 s17 s18 s19 s20 => J [(21000018, .undef), (3, I s14), (4, .ptr 0 0 []), (9, .vec 1), (10, .vec 2), (89, .d (.sl wI) s15), (90, I s16), (91, I s17)] [.one w1 (.d w1 s18), .row .bool s19 false, .row (.arr 2 wI) s20 false]) (fun s1 s2 s3 s4 s5 s6 s7 s8 s9 s10 hb => loop_round2 nS (inlOK _) hp hJ (by kernel_rfl) hb) (fun s14 s15 s16 s17 s18 s19 s20 hb => loop_round2 nS (inlOK _) hp hJ (by kernel_rfl) hb)
abbrev Ll20r3 : wL := [(21000009, [3, 4, 9, 10, 12, 13, 14], none, lsl20r9), (21000018, [3, 4, 9, 10, 89, 90, 91], none, lsl20r18)]
def lsl20r3 : LSp := fun vs σ K => dD wI vs fun s1 r1 => dP (.ptr 0 0 []) r1 fun r2 => dP (.vec 1) r2 fun r3 => dP (.vec 2) r3 fun r4 => asNil r4 <| dO w1 w1 σ fun s2 r5 => dR .bool false r5 fun s3 r7 => dR (.arr 2 wI) false r7 fun s4 r8 => asNil r8 <| l20r3 (fun z1 => K .ret [(8, B z1)] []) (K (.exit 0) [(8, .undef)] []) s1 s2 s3 s4
theorem l20r3v : LoopV E wF (E.info 20).keep 0 Try.f20.ntmps 21000003 (body Try.f20 3) ([3, 4, 9, 10], lsl20r3) := by
  intro vs σ K h0
  obtain ⟨s1, r4, rfl, h8⟩ := cDPPP h0
  obtain ⟨rfl, h9⟩ := cN h8
  obtain ⟨s2, r5, rfl, h12⟩ := oD h9
  obtain ⟨s3, r7, rfl, h14⟩ := cR h12
  obtain ⟨s4, r8, rfl, h16⟩ := cR h14
  obtain ⟨rfl, h17⟩ := cN h16
  intro J hJ
  have hp : wH 20 Try.f20 (body Try.f20 3) Ll20r3 := all_eq (by kernel_rfl : subsOf (E.info 20).keep (body Try.f20 3) = [.loop (body Try.f20 9), .loop (body Try.f20 18)]) (all_cons (loopOK_of (mk := 21000009) (sl := [3, 4, 9, 10, 12, 13, 14]) (ss := [([3, 4, 9, 10, 12, 13, 14], lsl20r9)]) (by kernel_rfl) (by kernel_rfl) (all_cons l20r9v all_nil)) (all_cons (loopOK_of (mk := 21000018) (sl := [3, 4, 9, 10, 89, 90, 91]) (ss := [([3, 4, 9, 10, 89, 90, 91], lsl20r18)]) (by kernel_rfl) (by kernel_rfl) (all_cons l20r18v all_nil)) all_nil))
  exact h17.of (fun s1 s2 s3 s4 => J [(21000003, .undef), (3, I s1), (4, .ptr 0 0 []), (9, .vec 1), (10, .vec 2)] [.one w1 (.d w1 s2), .row .bool s3 false, .row (.arr 2 wI) s4 false]) (fun s30 s31 s32 s33 s34 s35 s36 => J [(21000003, .undef), (3, I s30), (4, .ptr 0 0 []), (9, .vec 1), (10, .sl 2 s31 s32 s33 false)] [.one w1 (.d w1 s34), .row .bool s35 false, .row (.arr 2 wI) s36 false]) (fun s1 s2 s3 s4 hb => loop_round2 nS (inlOK _) hp hJ (by kernel_rfl) hb) (fun s30 s31 s32 s33 s34 s35 s36 hb => loop_round2 nS (inlOK _) hp hJ (by kernel_rfl) hb)
abbrev L20 : wL := [(21000003, [3, 4, 9, 10], none, lsl20r3)]
def sp20 : Sp := fun args τ K => dD w1 args fun x1 r1 => dD wI r1 fun x2 r2 => dD wI r2 fun x3 r3 => dD wI r3 fun x4 r4 => asNil r4 <| asNil τ <| c20 x1 x2 x3 x4 (fun z1 => K (B z1) [])
theorem h20 : ∀ args τ K, sp20 args τ K → ACall E 20 args τ K := by
  intro args τ K h0
  obtain ⟨x1, x2, x3, x4, r4, rfl, h8⟩ := cDDDD h0
  obtain ⟨rfl, rfl, h10⟩ := cM h8
  exact ACall.spec2 (fn := Try.f20) (c := codeOf Try.f20) (L := lofL L20) nS (by kernel_rfl) (by kernel_rfl) (inlOK _) (all_eq (by kernel_rfl : subsOf (E.info 20).keep (codeOf Try.f20) = [.loop (body Try.f20 3)]) (all_cons (loopOK_of (mk := 21000003) (sl := [3, 4, 9, 10]) (ss := [([3, 4, 9, 10], lsl20r3)]) (by kernel_rfl) (by kernel_rfl) (all_cons l20r3v all_nil)) all_nil)) (by kernel_rfl) h10.of
abbrev Sl7r36 : wS := [(20, none, sp20), (21, none, sp21)]
theorem hSl7r36 : SpecOK E (ofL Sl7r36) := specOK_cons h20 (specOK_cons h21 specOK_nil)
def lsl7r36 : LSp := fun vs σ K => dP (.ptr 0 0 []) vs fun r1 => dD wI r1 fun s1 r2 => asNil r2 <| dO w1 w1 σ fun s2 r3 => asNil r3 <| l7r36 (fun z1 => K .ret [(2, I z1)] []) (K (.exit 8) [(2, .undef)] []) s1 s2
theorem l7r36v : LoopV E wF (E.info 7).keep 0 Try.f7.ntmps 8000036 (body Try.f7 36) ([1, 14], lsl7r36) := by
  intro vs σ K h0
  obtain ⟨s1, r2, rfl, h4⟩ := cPD h0
  obtain ⟨rfl, h5⟩ := cN h4
  obtain ⟨s2, r3, rfl, h8⟩ := oD h5
  obtain ⟨rfl, h9⟩ := cN h8
  intro J hJ
  have hp : wH 7 Try.f7 (body Try.f7 36) nL := all_eq (by kernel_rfl) all_nil
  exact h9.of (fun s1 s2 => J [(8000036, .undef), (1, .ptr 0 0 []), (14, I s1)] [.one w1 (.d w1 s2)]) (fun s1 s2 hb => loop_round2 hSl7r36 (inlOK _) hp hJ (by kernel_rfl) hb)
abbrev L7 : wL := [(8000006, [1, 40, 41, 42], none, lsl7r6), (8000019, [1, 7, 70, 71, 72], none, lsl7r19), (8000036, [1, 14], none, lsl7r36)]
def sp7 : Sp := fun args τ K => dD w1 args fun x1 r1 => asNil r1 <| asNil τ <| c7 x1 (fun z1 => K (I z1) [])
theorem h7 : ∀ args τ K, sp7 args τ K → ACall E 7 args τ K := by
  intro args τ K h0
  obtain ⟨x1, r1, rfl, h2⟩ := cD h0
  obtain ⟨rfl, rfl, h4⟩ := cM h2
  exact ACall.spec2 (fn := Try.f7) (c := codeOf Try.f7) (L := lofL L7) nS (by kernel_rfl) (by kernel_rfl) (inlOK _) (all_eq (by kernel_rfl : subsOf (E.info 7).keep (codeOf Try.f7) = [.loop (body Try.f7 6), .loop (body Try.f7 19), .loop (body Try.f7 36)]) (all_cons (loopOK_of (mk := 8000006) (sl := [1, 40, 41, 42]) (ss := [([1, 40, 41, 42], lsl7r6)]) (by kernel_rfl) (by kernel_rfl) (all_cons l7r6v all_nil)) (all_cons (loopOK_of (mk := 8000019) (sl := [1, 7, 70, 71, 72]) (ss := [([1, 7, 70, 71, 72], lsl7r19)]) (by kernel_rfl) (by kernel_rfl) (all_cons l7r19v all_nil)) (all_cons (loopOK_of (mk := 8000036) (sl := [1, 14]) (ss := [([1, 14], lsl7r36)]) (by kernel_rfl) (by kernel_rfl) (all_cons l7r36v all_nil)) all_nil)))) (by kernel_rfl) h4.of
def lsl22r9 : LSp := fun vs σ K => dP (.ptr 0 0 []) vs fun r1 => dD wI r1 fun s1 r2 => dD wI r2 fun s2 r3 => asNil r3 <| dO w4 w4 σ fun s3 r4 => asNil r4 <| l22r9 (fun z1 => K .ret [(4, I z1)] []) (K (.exit 0) [(4, .undef)] []) s1 s2 s3
theorem l22r9v : LoopV E wF (E.info 22).keep 0 Try.f22.ntmps 23000009 (body Try.f22 9) ([3, 36, 37], lsl22r9) := by
  intro vs σ K h0
  obtain ⟨s1, s2, r3, rfl, h6⟩ := cPDD h0
  obtain ⟨rfl, h7⟩ := cN h6
  obtain ⟨s3, r4, rfl, h10⟩ := oD h7
  obtain ⟨rfl, h11⟩ := cN h10
  intro J hJ
  have hp : wH 22 Try.f22 (body Try.f22 9) nL := all_eq (by kernel_rfl) all_nil
  exact h11.of (fun s1 s2 s3 => J [(23000009, .undef), (3, .ptr 0 0 []), (36, I s1), (37, I s2)] [.one w4 (.d w4 s3)]) (fun s1 s2 s3 hb => loop_round2 nS (inlOK _) hp hJ (by kernel_rfl) hb)
abbrev S22 : wS := [(7, none, sp7)]
theorem hS22 : SpecOK E (ofL S22) := specOK_cons h7 specOK_nil
abbrev L22 : wL := [(23000009, [3, 36, 37], none, lsl22r9)]
def sp22 : Sp := fun args τ K => dD w1 args fun x1 r1 => dD w4 r1 fun x2 r2 => asNil r2 <| asNil τ <| c22 x1 x2 (fun z1 => K (I z1) [])
theorem h22 : ∀ args τ K, sp22 args τ K → ACall E 22 args τ K := by
  intro args τ K h0
  obtain ⟨x1, x2, r2, rfl, h4⟩ := cDD h0
  obtain ⟨rfl, rfl, h6⟩ := cM h4
  exact ACall.spec2 (fn := Try.f22) (c := codeOf Try.f22) (L := lofL L22) hS22 (by kernel_rfl) (by kernel_rfl) (inlOK _) (all_eq (by kernel_rfl : subsOf (E.info 22).keep (codeOf Try.f22) = [.loop (body Try.f22 9)]) (all_cons (loopOK_of (mk := 23000009) (sl := [3, 36, 37]) (ss := [([3, 36, 37], lsl22r9)]) (by kernel_rfl) (by kernel_rfl) (all_cons l22r9v all_nil)) all_nil)) (by kernel_rfl) h6.of
def sp9 : Sp := fun args τ K => dD w4 args fun x1 r1 => dD wI r1 fun x2 r2 => asNil r2 <| asNil τ <| c9 x1 x2 (fun z1 => K (I z1) [])
theorem h9 : ∀ args τ K, sp9 args τ K → ACall E 9 args τ K := by
  intro args τ K h0
  obtain ⟨x1, x2, r2, rfl, h4⟩ := cDD h0
  obtain ⟨rfl, rfl, h6⟩ := cM h4
  exact ACall.spec2 (fn := Try.f9) (c := codeOf Try.f9) (L := lofL nL) nS (by kernel_rfl) (by kernel_rfl) (inlOK _) (all_eq (by kernel_rfl) all_nil) (by kernel_rfl) h6.of
abbrev Sl23r7 : wS := [(25, none, sp25), (44, none, sp44), (21, none, sp21)]
theorem hSl23r7 : SpecOK E (ofL Sl23r7) := specOK_cons h25 (specOK_cons h44 (specOK_cons h21 specOK_nil))
def lsl23r7 : LSp := fun vs σ K => dD wI vs fun s1 r1 => dP (.ptr 0 0 []) r1 fun r2 => dD (.sl w0) r2 fun s2 r3 => dD wI r3 fun s3 r4 => dD wI r4 fun s4 r5 => dD (.sl w3) r5 fun s5 r6 => dD wI r6 fun s6 r7 => dD wI r7 fun s7 r8 => asNil r8 <| dO w0 w0 σ fun s8 r9 => asNil r9 <| l23r7 (fun z1 => K .ret [(1, .undef), (4, B z1), (6, .undef), (14, .undef), (15, .undef), (16, .undef)] []) (fun z1 z2 z3 z4 z5 => K (.exit 2) [(1, I z1), (4, .undef), (6, .ptr 0 0 []), (14, .d (.sl w0) z2), (15, I z3), (16, I z4)] [.one w0 (.d w0 z5)]) s1 s2 s3 s4 s5 s6 s7 s8
theorem l23r7v : LoopV E wF (E.info 23).keep 0 Try.f23.ntmps 24000007 (body Try.f23 7) ([1, 6, 14, 15, 16, 21, 22, 23], lsl23r7) := by
  intro vs σ K h0
  obtain ⟨s1, s2, s3, r4, rfl, h8⟩ := cDPDD h0
  obtain ⟨s4, s5, s6, s7, r8, rfl, h16⟩ := cDDDD h8
  obtain ⟨rfl, h17⟩ := cN h16
  obtain ⟨s8, r9, rfl, h20⟩ := oD h17
  obtain ⟨rfl, h21⟩ := cN h20
  intro J hJ
  have hp : wH 23 Try.f23 (body Try.f23 7) nL := all_eq (by kernel_rfl) all_nil
  exact h21.of (fun s1 s2 s3 s4 s5 s6 s7 s8 => J [(24000007, .undef), (1, I s1), (6, .ptr 0 0 []), (14, .d (.sl w0) s2), (15, I s3), (16, I s4), (21, .d (.sl w3) s5), (22, I s6), (23, I s7)] [.one w0 (.d w0 s8)]) (fun s1 s2 s3 s4 s5 s6 s7 s8 hb => loop_round2 hSl23r7 (inlOK _) hp hJ (by kernel_rfl) hb)
abbrev Ll23r4 : wL := [(24000007, [1, 6, 14, 15, 16, 21, 22, 23], none, lsl23r7)]
def lsl23r4 : LSp := fun vs σ K => dD wI vs fun s1 r1 => dD (.sl w0) r1 fun s2 r2 => dD wI r2 fun s3 r3 => dD wI r3 fun s4 r4 => asNil r4 <| asNil σ <| l23r4 (fun z1 => K .ret [(4, B z1)] []) (K (.exit 0) [(4, .undef)] []) s1 s2 s3 s4
theorem l23r4v : LoopV E wF (E.info 23).keep 0 Try.f23.ntmps 24000004 (body Try.f23 4) ([1, 14, 15, 16], lsl23r4) := by
  intro vs σ K h0
  obtain ⟨s1, s2, s3, s4, r4, rfl, h8⟩ := cDDDD h0
  obtain ⟨rfl, rfl, h10⟩ := cM h8
  intro J hJ
  have hp : wH 23 Try.f23 (body Try.f23 4) Ll23r4 := all_eq (by kernel_rfl : subsOf (E.info 23).keep (body Try.f23 4) = [.loop (body Try.f23 7)]) (all_cons (loopOK_of (mk := 24000007) (sl := [1, 6, 14, 15, 16, 21, 22, 23]) (ss := [([1, 6, 14, 15, 16, 21, 22, 23], lsl23r7)]) (by kernel_rfl) (by kernel_rfl) (all_cons l23r7v all_nil)) all_nil)
  exact h10.of (fun s1 s2 s3 s4 => J [(24000004, .undef), (1, I s1), (14, .d (.sl w0) s2), (15, I s3), (16, I s4)] []) (fun s1 s2 s3 s4 hb => loop_round2 nS (inlOK _) hp hJ (by kernel_rfl) hb)
abbrev S23 : wS := [(21, none, sp21)]
theorem hS23 : SpecOK E (ofL S23) := specOK_cons h21 specOK_nil
abbrev L23 : wL := [(24000004, [1, 14, 15, 16], none, lsl23r4)]
def sp23 : Sp := fun args τ K => dD w1 args fun x1 r1 => dD wI r1 fun x2 r2 => asNil r2 <| asNil τ <| c23 x1 x2 (fun z1 => K (B z1) [])
theorem h23 : ∀ args τ K, sp23 args τ K → ACall E 23 args τ K := by
  intro args τ K h0
  obtain ⟨x1, x2, r2, rfl, h4⟩ := cDD h0
  obtain ⟨rfl, rfl, h6⟩ := cM h4
  exact ACall.spec2 (fn := Try.f23) (c := codeOf Try.f23) (L := lofL L23) hS23 (by kernel_rfl) (by kernel_rfl) (inlOK _) (all_eq (by kernel_rfl : subsOf (E.info 23).keep (codeOf Try.f23) = [.loop (body Try.f23 4)]) (all_cons (loopOK_of (mk := 24000004) (sl := [1, 14, 15, 16]) (ss := [([1, 14, 15, 16], lsl23r4)]) (by kernel_rfl) (by kernel_rfl) (all_cons l23r4v all_nil)) all_nil)) (by kernel_rfl) h6.of
def lsj8s6 : LSp := fun vs σ K => dD wI vs fun s1 r1 => dP (.ptr 0 0 []) r1 fun r2 => dP (.ptr 1 0 []) r2 fun r3 => dD wI r3 fun s2 r4 => dD wI r4 fun s3 r5 => dD .bool r5 fun s4 r6 => asNil r6 <| dO w1 w1 σ fun s5 r7 => dO w4 w4 r7 fun s6 r9 => asNil r9 <| j8s6 (fun z1 => K .ret [(2, .undef), (3, .undef), (4, .undef), (6, B z1), (13, .undef), (14, .undef)] []) (fun z1 z2 z3 z4 z5 => K .normal [(2, I z1), (3, .ptr 0 0 []), (4, .ptr 1 0 []), (6, .undef), (13, I z2), (14, I z3)] [.one w1 (.d w1 z4), .one w4 (.d w4 z5)]) s1 s2 s3 s4 s5 s6
theorem j8s6v : JoinV E wF (E.info 8).keep 0 Try.f8.ntmps 9500006 5000006 (jbody Try.f8 5000006) ([2, 3, 4, 13, 14, 54], lsj8s6) := by
  intro vs σ K h0
  obtain ⟨s1, s2, r4, rfl, h8⟩ := cDPPD h0
  obtain ⟨s3, s4, r6, rfl, h12⟩ := cDD h8
  obtain ⟨rfl, h13⟩ := cN h12
  obtain ⟨s5, r7, rfl, h16⟩ := oD h13
  obtain ⟨s6, r9, rfl, h19⟩ := oD h16
  obtain ⟨rfl, h20⟩ := cN h19
  exact join_round2 (L := lofL nL) nS (inlOK _) (all_eq (by kernel_rfl) all_nil) (by kernel_rfl) h20.of
abbrev Sl24r5 : wS := [(25, none, sp25), (20, none, sp20)]
theorem hSl24r5 : SpecOK E (ofL Sl24r5) := specOK_cons h25 (specOK_cons h20 specOK_nil)
def lsl24r5 : LSp := fun vs σ K => dD wI vs fun s1 r1 => dP (.ptr 0 0 []) r1 fun r2 => dD wI r2 fun s2 r3 => dD (.sl w0) r3 fun s3 r4 => dD wI r4 fun s4 r5 => dD wI r5 fun s5 r6 => dD (.sl w3) r6 fun s6 r7 => dD wI r7 fun s7 r8 => dD wI r8 fun s8 r9 => asNil r9 <| dO w1 w1 σ fun s9 r10 => asNil r10 <| l24r5 (fun z1 => K .ret [(1, .undef), (2, .undef), (4, B z1), (10, .undef), (11, .undef), (12, .undef)] []) (fun z1 z2 z3 z4 z5 => K (.exit 2) [(1, I z1), (2, .ptr 0 0 []), (4, .undef), (10, .d (.sl w0) z2), (11, I z3), (12, I z4)] [.one w1 (.d w1 z5)]) s1 s2 s3 s4 s5 s6 s7 s8 s9
theorem l24r5v : LoopV E wF (E.info 24).keep 0 Try.f24.ntmps 25000005 (body Try.f24 5) ([1, 2, 5, 10, 11, 12, 18, 19, 20], lsl24r5) := by
  intro vs σ K h0
  obtain ⟨s1, s2, s3, r4, rfl, h8⟩ := cDPDD h0
  obtain ⟨s4, s5, s6, s7, r8, rfl, h16⟩ := cDDDD h8
  obtain ⟨s8, r9, rfl, h18⟩ := cD h16
  obtain ⟨rfl, h19⟩ := cN h18
  obtain ⟨s9, r10, rfl, h22⟩ := oD h19
  obtain ⟨rfl, h23⟩ := cN h22
  intro J hJ
  have hp : wH 24 Try.f24 (body Try.f24 5) nL := all_eq (by kernel_rfl) all_nil
  exact h23.of (fun s1 s2 s3 s4 s5 s6 s7 s8 s9 => J [(25000005, .undef), (1, I s1), (2, .ptr 0 0 []), (5, I s2), (10, .d (.sl w0) s3), (11, I s4), (12, I s5), (18, .d (.sl w3) s6), (19, I s7), (20, I s8)] [.one w1 (.d w1 s9)]) (fun s1 s2 s3 s4 s5 s6 s7 s8 s9 hb => loop_round2 hSl24r5 (inlOK _) hp hJ (by kernel_rfl) hb)
abbrev Ll24r2 : wL := [(25000005, [1, 2, 5, 10, 11, 12, 18, 19, 20], none, lsl24r5)]
def lsl24r2 : LSp := fun vs σ K => dD wI vs fun s1 r1 => dP (.ptr 0 0 []) r1 fun r2 => dD (.sl w0) r2 fun s2 r3 => dD wI r3 fun s3 r4 => dD wI r4 fun s4 r5 => asNil r5 <| dO w1 w1 σ fun s5 r6 => asNil r6 <| l24r2 (fun z1 => K .ret [(4, B z1)] []) (K (.exit 0) [(4, .undef)] []) s1 s2 s3 s4 s5
theorem l24r2v : LoopV E wF (E.info 24).keep 0 Try.f24.ntmps 25000002 (body Try.f24 2) ([1, 2, 10, 11, 12], lsl24r2) := by
  intro vs σ K h0
  obtain ⟨s1, s2, s3, r4, rfl, h8⟩ := cDPDD h0
  obtain ⟨s4, r5, rfl, h10⟩ := cD h8
  obtain ⟨rfl, h11⟩ := cN h10
  obtain ⟨s5, r6, rfl, h14⟩ := oD h11
  obtain ⟨rfl, h15⟩ := cN h14
  intro J hJ
  have hp : wH 24 Try.f24 (body Try.f24 2) Ll24r2 := all_eq (by kernel_rfl : subsOf (E.info 24).keep (body Try.f24 2) = [.loop (body Try.f24 5)]) (all_cons (loopOK_of (mk := 25000005) (sl := [1, 2, 5, 10, 11, 12, 18, 19, 20]) (ss := [([1, 2, 5, 10, 11, 12, 18, 19, 20], lsl24r5)]) (by kernel_rfl) (by kernel_rfl) (all_cons l24r5v all_nil)) all_nil)
  exact h15.of (fun s1 s2 s3 s4 s5 => J [(25000002, .undef), (1, I s1), (2, .ptr 0 0 []), (10, .d (.sl w0) s2), (11, I s3), (12, I s4)] [.one w1 (.d w1 s5)]) (fun s1 s2 s3 s4 s5 hb => loop_round2 nS (inlOK _) hp hJ (by kernel_rfl) hb)
abbrev L24 : wL := [(25000002, [1, 2, 10, 11, 12], none, lsl24r2)]
def sp24 : Sp := fun args τ K => dD w1 args fun x1 r1 => dD wI r1 fun x2 r2 => asNil r2 <| asNil τ <| c24 x1 x2 (fun z1 => K (B z1) [])
theorem h24 : ∀ args τ K, sp24 args τ K → ACall E 24 args τ K := by
  intro args τ K h0
  obtain ⟨x1, x2, r2, rfl, h4⟩ := cDD h0
  obtain ⟨rfl, rfl, h6⟩ := cM h4
  exact ACall.spec2 (fn := Try.f24) (c := codeOf Try.f24) (L := lofL L24) nS (by kernel_rfl) (by kernel_rfl) (inlOK _) (all_eq (by kernel_rfl : subsOf (E.info 24).keep (codeOf Try.f24) = [.loop (body Try.f24 2)]) (all_cons (loopOK_of (mk := 25000002) (sl := [1, 2, 10, 11, 12]) (ss := [([1, 2, 10, 11, 12], lsl24r2)]) (by kernel_rfl) (by kernel_rfl) (all_cons l24r2v all_nil)) all_nil)) (by kernel_rfl) h6.of
abbrev Sl8r4 : wS := [(9, none, sp9), (23, none, sp23), (24, none, sp24)]
theorem hSl8r4 : SpecOK E (ofL Sl8r4) := specOK_cons h9 (specOK_cons h23 (specOK_cons h24 specOK_nil))
abbrev Ll8r4 : wL := [(9500006, [2, 3, 4, 13, 14, 54], none, lsj8s6)]
def lsl8r4 : LSp := fun vs σ K => dD wI vs fun s1 r1 => dP (.ptr 0 0 []) r1 fun r2 => dP (.ptr 1 0 []) r2 fun r3 => dD wI r3 fun s2 r4 => dD wI r4 fun s3 r5 => asNil r5 <| dO w1 w1 σ fun s4 r6 => dO w4 w4 r6 fun s5 r8 => asNil r8 <| l8r4 (fun z1 => K .ret [(6, B z1)] []) (K (.exit 0) [(6, .undef)] []) s1 s2 s3 s4 s5
theorem l8r4v : LoopV E wF (E.info 8).keep 0 Try.f8.ntmps 9000004 (body Try.f8 4) ([2, 3, 4, 13, 14], lsl8r4) := by
  intro vs σ K h0
  obtain ⟨s1, s2, r4, rfl, h8⟩ := cDPPD h0
  obtain ⟨s3, r5, rfl, h10⟩ := cD h8
  obtain ⟨rfl, h11⟩ := cN h10
  obtain ⟨s4, r6, rfl, h14⟩ := oD h11
  obtain ⟨s5, r8, rfl, h17⟩ := oD h14
  obtain ⟨rfl, h18⟩ := cN h17
  intro J hJ
  have hp : wH 8 Try.f8 (body Try.f8 4) Ll8r4 := all_eq (by kernel_rfl : subsOf (E.info 8).keep (body Try.f8 4) = [.join 5000006 (jbody Try.f8 5000006)]) (all_cons (joinOK_of (mk := 9500006) (sl := [2, 3, 4, 13, 14, 54]) (ss := [([2, 3, 4, 13, 14, 54], lsj8s6)]) (by kernel_rfl) (by kernel_rfl) (all_cons j8s6v all_nil)) all_nil)
  exact h18.of (fun s1 s2 s3 s4 s5 => J [(9000004, .undef), (2, I s1), (3, .ptr 0 0 []), (4, .ptr 1 0 []), (13, I s2), (14, I s3)] [.one w1 (.d w1 s4), .one w4 (.d w4 s5)]) (fun s1 s2 s3 s4 s5 hb => loop_round2 hSl8r4 (inlOK _) hp hJ (by kernel_rfl) hb)
abbrev S8 : wS := [(22, none, sp22)]
theorem hS8 : SpecOK E (ofL S8) := specOK_cons h22 specOK_nil
abbrev L8 : wL := [(9000004, [2, 3, 4, 13, 14], none, lsl8r4)]
def sp8 : Sp := fun args τ K => dD w1 args fun x1 r1 => dD w4 r1 fun x2 r2 => dD wI r2 fun x3 r3 => asNil r3 <| asNil τ <| c8 x1 x2 x3 (fun z1 => K (B z1) [])
theorem h8 : ∀ args τ K, sp8 args τ K → ACall E 8 args τ K := by
  intro args τ K h0
  obtain ⟨x1, x2, x3, r3, rfl, h6⟩ := cDDD h0
  obtain ⟨rfl, rfl, h8⟩ := cM h6
  exact ACall.spec2 (fn := Try.f8) (c := codeOf Try.f8) (L := lofL L8) hS8 (by kernel_rfl) (by kernel_rfl) (inlOK _) (all_eq (by kernel_rfl : subsOf (E.info 8).keep (codeOf Try.f8) = [.loop (body Try.f8 4)]) (all_cons (loopOK_of (mk := 9000004) (sl := [2, 3, 4, 13, 14]) (ss := [([2, 3, 4, 13, 14], lsl8r4)]) (by kernel_rfl) (by kernel_rfl) (all_cons l8r4v all_nil)) all_nil)) (by kernel_rfl) h8.of
abbrev Sl10r8 : wS := [(25, none, sp25), (20, none, sp20)]
theorem hSl10r8 : SpecOK E (ofL Sl10r8) := specOK_cons h25 (specOK_cons h20 specOK_nil)
def lsl10r8 : LSp := fun vs σ K => dD wI vs fun s1 r1 => dD wI r1 fun s2 r2 => dP (.ptr 0 0 []) r2 fun r3 => dD wI r3 fun s3 r4 => dD (.sl w0) r4 fun s4 r5 => dD wI r5 fun s5 r6 => dD wI r6 fun s6 r7 => dD (.sl w3) r7 fun s7 r8 => dD wI r8 fun s8 r9 => dD wI r9 fun s9 r10 => asNil r10 <| dO w1 w1 σ fun s10 r11 => asNil r11 <| l10r8 (fun z1 => K .ret [(1, .undef), (2, .undef), (3, .undef), (6, B z1), (44, .undef), (45, .undef), (46, .undef)] []) (fun z1 z2 z3 z4 z5 z6 => K (.exit 2) [(1, I z1), (2, I z2), (3, .ptr 0 0 []), (6, .undef), (44, .d (.sl w0) z3), (45, I z4), (46, I z5)] [.one w1 (.d w1 z6)]) s1 s2 s3 s4 s5 s6 s7 s8 s9 s10
theorem l10r8v : LoopV E wF (E.info 10).keep 0 Try.f10.ntmps 11000008 (body Try.f10 8) ([1, 2, 3, 9, 44, 45, 46, 52, 53, 54], lsl10r8) := by
  intro vs σ K h0
  obtain ⟨s1, s2, s3, r4, rfl, h8⟩ := cDDPD h0
  obtain ⟨s4, s5, s6, s7, r8, rfl, h16⟩ := cDDDD h8
  obtain ⟨s8, s9, r10, rfl, h20⟩ := cDD h16
  obtain ⟨rfl, h21⟩ := cN h20
  obtain ⟨s10, r11, rfl, h24⟩ := oD h21
  obtain ⟨rfl, h25⟩ := cN h24
  intro J hJ
  have hp : wH 10 Try.f10 (body Try.f10 8) nL := all_eq (by kernel_rfl) all_nil
  exact h25.of (fun s1 s2 s3 s4 s5 s6 s7 s8 s9 s10 => J [(11000008, .undef), (1, I s1), (2, I s2), (3, .ptr 0 0 []), (9, I s3), (44, .d (.sl w0) s4), (45, I s5), (46, I s6), (52, .d (.sl w3) s7), (53, I s8), (54, I s9)] [.one w1 (.d w1 s10)]) (fun s1 s2 s3 s4 s5 s6 s7 s8 s9 s10 hb => loop_round2 hSl10r8 (inlOK _) hp hJ (by kernel_rfl) hb)
abbrev Ll10r5 : wL := [(11000008, [1, 2, 3, 9, 44, 45, 46, 52, 53, 54], none, lsl10r8)]
def lsl10r5 : LSp := fun vs σ K => dD wI vs fun s1 r1 => dD wI r1 fun s2 r2 => dP (.ptr 0 0 []) r2 fun r3 => dD (.sl w0) r3 fun s3 r4 => dD wI r4 fun s4 r5 => dD wI r5 fun s5 r6 => asNil r6 <| dO w1 w1 σ fun s6 r7 => asNil r7 <| l10r5 (fun z1 => K .ret [(6, B z1)] []) (K (.exit 0) [(6, .undef)] []) s1 s2 s3 s4 s5 s6
theorem l10r5v : LoopV E wF (E.info 10).keep 0 Try.f10.ntmps 11000005 (body Try.f10 5) ([1, 2, 3, 44, 45, 46], lsl10r5) := by
  intro vs σ K h0
  obtain ⟨s1, s2, s3, r4, rfl, h8⟩ := cDDPD h0
  obtain ⟨s4, s5, r6, rfl, h12⟩ := cDD h8
  obtain ⟨rfl, h13⟩ := cN h12
  obtain ⟨s6, r7, rfl, h16⟩ := oD h13
  obtain ⟨rfl, h17⟩ := cN h16
  intro J hJ
  have hp : wH 10 Try.f10 (body Try.f10 5) Ll10r5 := all_eq (by kernel_rfl : subsOf (E.info 10).keep (body Try.f10 5) = [.loop (body Try.f10 8)]) (all_cons (loopOK_of (mk := 11000008) (sl := [1, 2, 3, 9, 44, 45, 46, 52, 53, 54]) (ss := [([1, 2, 3, 9, 44, 45, 46, 52, 53, 54], lsl10r8)]) (by kernel_rfl) (by kernel_rfl) (all_cons l10r8v all_nil)) all_nil)
  exact h17.of (fun s1 s2 s3 s4 s5 s6 => J [(11000005, .undef), (1, I s1), (2, I s2), (3, .ptr 0 0 []), (44, .d (.sl w0) s3), (45, I s4), (46, I s5)] [.one w1 (.d w1 s6)]) (fun s1 s2 s3 s4 s5 s6 hb => loop_round2 nS (inlOK _) hp hJ (by kernel_rfl) hb)
abbrev Lj10r4 : wL := [(11000005, [1, 2, 3, 44, 45, 46], none, lsl10r5)]
def lsj10r4 : LSp := fun vs σ K => dD wI vs fun s1 r1 => dD wI r1 fun s2 r2 => dP (.ptr 0 0 []) r2 fun r3 => asNil r3 <| dO w1 w1 σ fun s3 r4 => asNil r4 <| j10r4 (fun z1 => K .ret [(6, B z1)] []) s1 s2 s3
theorem j10r4v : JoinV E wF (E.info 10).keep 0 Try.f10.ntmps 11400004 4000004 (jbody Try.f10 4000004) ([1, 2, 3], lsj10r4) := by
  intro vs σ K h0
  obtain ⟨s1, s2, r3, rfl, h6⟩ := cDDP h0
  obtain ⟨rfl, h7⟩ := cN h6
  obtain ⟨s3, r4, rfl, h10⟩ := oD h7
  obtain ⟨rfl, h11⟩ := cN h10
  exact join_round2 (L := lofL Lj10r4) nS (inlOK _) (all_eq (by kernel_rfl : subsOf (E.info 10).keep (jbody Try.f10 4000004) = [.loop (body Try.f10 5)]) (all_cons (loopOK_of (mk := 11000005) (sl := [1, 2, 3, 44, 45, 46]) (ss := [([1, 2, 3, 44, 45, 46], lsl10r5)]) (by kernel_rfl) (by kernel_rfl) (all_cons l10r5v all_nil)) all_nil)) (by kernel_rfl) h11.of
abbrev S10 : wS := [(21, none, sp21), (20, none, sp20)]
theorem hS10 : SpecOK E (ofL S10) := specOK_cons h21 (specOK_cons h20 specOK_nil)
abbrev L10 : wL := [(11400004, [1, 2, 3], none, lsj10r4)]
def sp10 : Sp := fun args τ K => dD w1 args fun x1 r1 => dD wI r1 fun x2 r2 => dD wI r2 fun x3 r3 => asNil r3 <| asNil τ <| c10 x1 x2 x3 (fun z1 => K (B z1) [])
theorem h10 : ∀ args τ K, sp10 args τ K → ACall E 10 args τ K := by
  intro args τ K h0
  obtain ⟨x1, x2, x3, r3, rfl, h6⟩ := cDDD h0
  obtain ⟨rfl, rfl, h8⟩ := cM h6
  exact ACall.spec2 (fn := Try.f10) (c := codeOf Try.f10) (L := lofL L10) hS10 (by kernel_rfl) (by kernel_rfl) (inlOK _) (all_eq (by kernel_rfl : subsOf (E.info 10).keep (codeOf Try.f10) = [.join 4000004 (jbody Try.f10 4000004)]) (all_cons (joinOK_of (mk := 11400004) (sl := [1, 2, 3]) (ss := [([1, 2, 3], lsj10r4)]) (by kernel_rfl) (by kernel_rfl) (all_cons j10r4v all_nil)) all_nil)) (by kernel_rfl) h8.of
abbrev Sl3r17 : wS := [(9, none, sp9), (10, none, sp10)]
theorem hSl3r17 : SpecOK E (ofL Sl3r17) := specOK_cons h9 (specOK_cons h10 specOK_nil)
def lsl3r17 : LSp := fun vs σ K => dP (.ptr 0 0 []) vs fun r1 => dP (.ptr 1 0 []) r1 fun r2 => dD wI r2 fun s1 r3 => dD wI r3 fun s2 r4 => asNil r4 <| dO w1 w1 σ fun s3 r5 => asCons r5 fun a7 r7 => asOne w4 a7 fun a8 => asAgL a8 fun l9 => dP (.vec 2) l9 fun r10 => dP (.vec 3) r10 fun r11 => dD wI r11 fun s4 r12 => asNil r12 <| dR wI false r7 fun s5 r13 => dR wI false r13 fun s6 r14 => asNil r14 <| l3r17 (fun z1 => K .ret [(2, .undef), (4, B z1), (5, .undef), (8, .undef)] []) (fun z1 z2 z3 z4 z5 => K (.exit 2) [(2, .ptr 0 0 []), (4, .undef), (5, .ptr 1 0 []), (8, I z1)] [.one w1 (.d w1 z2), .one w4 (.agg [.vec 2, .vec 3, I z3]), .row wI z4 false, .row wI z5 false]) s1 s2 s3 s4 s5 s6
theorem l3r17v : LoopV E wF (E.info 3).keep 0 Try.f3.ntmps 4000017 (body Try.f3 17) ([2, 5, 8, 9], lsl3r17) := by
  intro vs σ K h0
  obtain ⟨s1, s2, r4, rfl, h8⟩ := cPPDD h0
  obtain ⟨rfl, h9⟩ := cN h8
  obtain ⟨s3, r5, rfl, h12⟩ := oD h9
  obtain ⟨a7, r7, rfl, h13⟩ := asCons_inv h12
  obtain ⟨a8, rfl, h14⟩ := asOne_inv h13
  obtain ⟨l9, rfl, h15⟩ := asAgL_inv h14
  obtain ⟨s4, r12, rfl, h21⟩ := cPPD h15
  obtain ⟨rfl, h22⟩ := cN h21
  obtain ⟨s5, r13, rfl, h24⟩ := cR h22
  obtain ⟨s6, r14, rfl, h26⟩ := cR h24
  obtain ⟨rfl, h27⟩ := cN h26
  intro J hJ
  have hp : wH 3 Try.f3 (body Try.f3 17) nL := all_eq (by kernel_rfl) all_nil
  exact h27.of (fun s1 s2 s3 s4 s5 s6 => J [(4000017, .undef), (2, .ptr 0 0 []), (5, .ptr 1 0 []), (8, I s1), (9, I s2)] [.one w1 (.d w1 s3), .one w4 (.agg [.vec 2, .vec 3, I s4]), .row wI s5 false, .row wI s6 false]) (fun s1 s2 s3 s4 s5 s6 hb => loop_round2 hSl3r17 (inlOK _) hp hJ (by kernel_rfl) hb)
abbrev Ll3r14 : wL := [(4000017, [2, 5, 8, 9], none, lsl3r17)]
def lsl3r14 : LSp := fun vs σ K => dP (.ptr 0 0 []) vs fun r1 => dP (.ptr 1 0 []) r1 fun r2 => dD wI r2 fun s1 r3 => asNil r3 <| dO w1 w1 σ fun s2 r4 => asCons r4 fun a6 r6 => asOne w4 a6 fun a7 => asAgL a7 fun l8 => dP (.vec 2) l8 fun r9 => dP (.vec 3) r9 fun r10 => dD wI r10 fun s3 r11 => asNil r11 <| dR wI false r6 fun s4 r12 => dR wI false r12 fun s5 r13 => asNil r13 <| l3r14 (fun z1 => K .ret [(4, B z1)] []) (K (.exit 0) [(4, .undef)] []) s1 s2 s3 s4 s5
theorem l3r14v : LoopV E wF (E.info 3).keep 0 Try.f3.ntmps 4000014 (body Try.f3 14) ([2, 5, 8], lsl3r14) := by
  intro vs σ K h0
  obtain ⟨s1, r3, rfl, h6⟩ := cPPD h0
  obtain ⟨rfl, h7⟩ := cN h6
  obtain ⟨s2, r4, rfl, h10⟩ := oD h7
  obtain ⟨a6, r6, rfl, h11⟩ := asCons_inv h10
  obtain ⟨a7, rfl, h12⟩ := asOne_inv h11
  obtain ⟨l8, rfl, h13⟩ := asAgL_inv h12
  obtain ⟨s3, r11, rfl, h19⟩ := cPPD h13
  obtain ⟨rfl, h20⟩ := cN h19
  obtain ⟨s4, r12, rfl, h22⟩ := cR h20
  obtain ⟨s5, r13, rfl, h24⟩ := cR h22
  obtain ⟨rfl, h25⟩ := cN h24
  intro J hJ
  have hp : wH 3 Try.f3 (body Try.f3 14) Ll3r14 := all_eq (by kernel_rfl : subsOf (E.info 3).keep (body Try.f3 14) = [.loop (body Try.f3 17)]) (all_cons (loopOK_of (mk := 4000017) (sl := [2, 5, 8, 9]) (ss := [([2, 5, 8, 9], lsl3r17)]) (by kernel_rfl) (by kernel_rfl) (all_cons l3r17v all_nil)) all_nil)
  exact h25.of (fun s1 s2 s3 s4 s5 => J [(4000014, .undef), (2, .ptr 0 0 []), (5, .ptr 1 0 []), (8, I s1)] [.one w1 (.d w1 s2), .one w4 (.agg [.vec 2, .vec 3, I s3]), .row wI s4 false, .row wI s5 false]) (fun s1 s2 s3 s4 s5 hb => loop_round2 nS (inlOK _) hp hJ (by kernel_rfl) hb)
abbrev Sj3r9 : wS := [(8, none, sp8)]
theorem hSj3r9 : SpecOK E (ofL Sj3r9) := specOK_cons h8 specOK_nil
abbrev Lj3r9 : wL := [(4000014, [2, 5, 8], none, lsl3r14)]
def lsj3r9 : LSp := fun vs σ K => dD wI vs fun s1 r1 => dP (.ptr 0 0 []) r1 fun r2 => dP (.ptr 1 0 []) r2 fun r3 => dD wI r3 fun s2 r4 => dD wI r4 fun s3 r5 => asNil r5 <| dO w1 w1 σ fun s4 r6 => asCons r6 fun a8 r8 => asOne w4 a8 fun a9 => asAgL a9 fun l10 => dP (.vec 2) l10 fun r11 => dP (.vec 3) r11 fun r12 => dD wI r12 fun s5 r13 => asNil r13 <| dR wI false r8 fun s6 r14 => dR wI false r14 fun s7 r15 => asNil r15 <| j3r9 (fun z1 => K .ret [(4, B z1)] []) s1 s2 s3 s4 s5 s6 s7
theorem j3r9v : JoinV E wF (E.info 3).keep 0 Try.f3.ntmps 4400009 4000009 (jbody Try.f3 4000009) ([1, 2, 5, 6, 7], lsj3r9) := by
  intro vs σ K h0
  obtain ⟨s1, s2, r4, rfl, h8⟩ := cDPPD h0
  obtain ⟨s3, r5, rfl, h10⟩ := cD h8
  obtain ⟨rfl, h11⟩ := cN h10
  obtain ⟨s4, r6, rfl, h14⟩ := oD h11
  obtain ⟨a8, r8, rfl, h15⟩ := asCons_inv h14
  obtain ⟨a9, rfl, h16⟩ := asOne_inv h15
  obtain ⟨l10, rfl, h17⟩ := asAgL_inv h16
  obtain ⟨s5, r13, rfl, h23⟩ := cPPD h17
  obtain ⟨rfl, h24⟩ := cN h23
  obtain ⟨s6, r14, rfl, h26⟩ := cR h24
  obtain ⟨s7, r15, rfl, h28⟩ := cR h26
  obtain ⟨rfl, h29⟩ := cN h28
  exact join_round2 (L := lofL Lj3r9) hSj3r9 (inlOK _) (all_eq (by kernel_rfl : subsOf (E.info 3).keep (jbody Try.f3 4000009) = [.loop (body Try.f3 14)]) (all_cons (loopOK_of (mk := 4000014) (sl := [2, 5, 8]) (ss := [([2, 5, 8], lsl3r14)]) (by kernel_rfl) (by kernel_rfl) (all_cons l3r14v all_nil)) all_nil)) (by kernel_rfl) h29.of
abbrev S3 : wS := [(4, none, sp4), (5, none, sp5), (6, none, sp6), (7, none, sp7)]
theorem hS3 : SpecOK E (ofL S3) := specOK_cons h4 (specOK_cons h5 (specOK_cons h6 (specOK_cons h7 specOK_nil)))
abbrev L3 : wL := [(4400009, [1, 2, 5, 6, 7], none, lsj3r9)]
def sp3 : Sp := fun args τ K => dD w1 args fun x1 r1 => dD wI r1 fun x2 r2 => asNil r2 <| asNil τ <| c3 x1 x2 (fun z1 => K (B z1) [])
theorem h3 : ∀ args τ K, sp3 args τ K → ACall E 3 args τ K := by
  intro args τ K h0
  obtain ⟨x1, x2, r2, rfl, h4⟩ := cDD h0
  obtain ⟨rfl, rfl, h6⟩ := cM h4
  exact ACall.spec2 (fn := Try.f3) (c := codeOf Try.f3) (L := lofL L3) hS3 (by kernel_rfl) (by kernel_rfl) (inlOK _) (all_eq (by kernel_rfl : subsOf (E.info 3).keep (codeOf Try.f3) = [.join 4000009 (jbody Try.f3 4000009)]) (all_cons (joinOK_of (mk := 4400009) (sl := [1, 2, 5, 6, 7]) (ss := [([1, 2, 5, 6, 7], lsj3r9)]) (by kernel_rfl) (by kernel_rfl) (all_cons j3r9v all_nil)) all_nil)) (by kernel_rfl) h6.of
end Go.Proofs.Ytmnidkbkmakdbaa
