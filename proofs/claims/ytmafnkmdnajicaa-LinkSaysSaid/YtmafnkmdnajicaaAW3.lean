/- The functions compute that (printed by a program). -/
import Derived.Test.YtmafnkmdnajicaaAD3
import Derived.Test.YtmafnkmdnajicaaAEnvC
import Derived.Test.YtmafnkmdnajicaaAW3a
import Derived.KernelRfl
namespace Go.Proofs.Ytmafnkmdnajicaa
open Go.Abs
set_option maxRecDepth 100000
set_option maxHeartbeats 4000000
set_option linter.unusedVariables false
abbrev S46 : List (Nat × Pat × Sp) := []
theorem hS46 : SpecOK E (ofL S46) := specOK_nil
abbrev L46 : List (Nat × List Nat × Pat × LSp) := []
def sp46 : Sp := fun args τ K => asCons args fun a1 r1 => asD (.sl (.int .i64)) a1 fun x1 => asNil r1 <| asNil τ <| c46 x1 (fun z1 => K (.vec 0) [.row (.int .i64) z1 false])
theorem h46 : ∀ args τ K, sp46 args τ K → ACall E 46 args τ K := by
  intro args τ K h0
  unfold sp46 at h0
  obtain ⟨a1, r1, rfl, h1⟩ := asCons_inv h0; clear h0
  obtain ⟨x1, rfl, h2⟩ := asD_inv h1; clear h1
  obtain ⟨rfl, h3⟩ := asNil_inv h2; clear h2
  obtain ⟨rfl, h4⟩ := asNil_inv h3; clear h3
  exact ACall.spec2 (fn := Try.f46) (c := codeOf Try.f46) (S := ofL S46) (L := lofL L46) hS46 (by kernel_rfl) (by kernel_rfl) (inlOK _) (all_eq (by kernel_rfl : subsOf (E.info 46).keep (codeOf Try.f46) = []) (all_nil)) (by kernel_rfl) h4.of

abbrev Sl29r3 : List (Nat × Pat × Sp) := [(46, none, sp46)]
theorem hSl29r3 : SpecOK E (ofL Sl29r3) := specOK_cons h46 (specOK_nil)
abbrev Ll29r3 : List (Nat × List Nat × Pat × LSp) := []
def lsl29r3 : LSp := fun vs σ K => asCons vs fun a1 r1 => asSl 0 false a1 fun s1 s2 s3 => asCons r1 fun a2 r2 => asP (.ptr 1 0 []) a2 <| asCons r2 fun a3 r3 => asP (.vec 2) a3 <| asCons r3 fun a4 r4 => asD (.sl wMP) a4 fun s4 => asCons r4 fun a5 r5 => asD (.int .i64) a5 fun s5 => asCons r5 fun a6 r6 => asD (.int .i64) a6 fun s6 => asNil r6 <| asCons σ fun a7 r7 => asRw (.int .i64) false a7 fun s7 => asCons r7 fun a8 r8 => asOne wLF a8 fun a9 => asD wLF a9 fun s8 => asCons r8 fun a10 r10 => asRw (.pair (.int .i64) (.pair (.int .i64) (.pair (.sl (.int .i64)) (.pair (.int .i64) .unit)))) false a10 fun s9 => asNil r10 <| l29r3 (fun z1 z2 => K (.exit 0) [(5, .vec 1)] [.row (.int .i64) z1 false, .row (.pair (.int .i64) (.pair (.int .i64) (.pair (.sl (.int .i64)) (.pair (.int .i64) .unit)))) z2 false]) s1 s2 s3 s4 s5 s6 s7 s8 s9
theorem l29r3v : LoopV E (inlF (PA (ACall E)) E 8) (E.info 29).keep 1 Try.f29.ntmps 30000003 (body Try.f29 3) ([1, 2, 5, 10, 11, 12], lsl29r3) := by
  intro vs σ K (h0 : lsl29r3 vs σ K)
  unfold lsl29r3 at h0
  obtain ⟨a1, r1, rfl, h1⟩ := asCons_inv h0; clear h0
  obtain ⟨s1, s2, s3, rfl, h2⟩ := asSl_inv h1; clear h1
  obtain ⟨a2, r2, rfl, h3⟩ := asCons_inv h2; clear h2
  obtain ⟨rfl, h4⟩ := asP_inv h3; clear h3
  obtain ⟨a3, r3, rfl, h5⟩ := asCons_inv h4; clear h4
  obtain ⟨rfl, h6⟩ := asP_inv h5; clear h5
  obtain ⟨a4, r4, rfl, h7⟩ := asCons_inv h6; clear h6
  obtain ⟨s4, rfl, h8⟩ := asD_inv h7; clear h7
  obtain ⟨a5, r5, rfl, h9⟩ := asCons_inv h8; clear h8
  obtain ⟨s5, rfl, h10⟩ := asD_inv h9; clear h9
  obtain ⟨a6, r6, rfl, h11⟩ := asCons_inv h10; clear h10
  obtain ⟨s6, rfl, h12⟩ := asD_inv h11; clear h11
  obtain ⟨rfl, h13⟩ := asNil_inv h12; clear h12
  obtain ⟨a7, r7, rfl, h14⟩ := asCons_inv h13; clear h13
  obtain ⟨s7, rfl, h15⟩ := asRw_inv h14; clear h14
  obtain ⟨a8, r8, rfl, h16⟩ := asCons_inv h15; clear h15
  obtain ⟨a9, rfl, h17⟩ := asOne_inv h16; clear h16
  obtain ⟨s8, rfl, h18⟩ := asD_inv h17; clear h17
  obtain ⟨a10, r10, rfl, h19⟩ := asCons_inv h18; clear h18
  obtain ⟨s9, rfl, h20⟩ := asRw_inv h19; clear h19
  obtain ⟨rfl, h21⟩ := asNil_inv h20; clear h20
  intro J hJ
  have hp : ∀ c' ∈ subsOf (E.info 29).keep (body Try.f29 3), SubOK E (inlF (PA (ACall E)) E 8) (E.info 29).keep 1 Try.f29.ntmps (lofL Ll29r3) c' := all_eq (by kernel_rfl : subsOf (E.info 29).keep (body Try.f29 3) = []) (all_nil)
  exact h21.of (fun s1 s2 s3 s4 s5 s6 s7 s8 s9 => J [(30000003, .undef), (1, .sl 0 s1 s2 s3 false), (2, .ptr 1 0 []), (5, .vec 2), (10, .d (.sl wMP) s4), (11, I s5), (12, I s6)] [.row (.int .i64) s7 false, .one wLF (.d wLF s8), .row (.pair (.int .i64) (.pair (.int .i64) (.pair (.sl (.int .i64)) (.pair (.int .i64) .unit)))) s9 false]) (fun s1 s2 s3 s4 s5 s6 s7 s8 s9 hb => loop_round2 (S := ofL Sl29r3) (L := lofL Ll29r3) hSl29r3 (inlOK _) hp hJ (by kernel_rfl) hb)

abbrev S29 : List (Nat × Pat × Sp) := []
theorem hS29 : SpecOK E (ofL S29) := specOK_nil
abbrev L29 : List (Nat × List Nat × Pat × LSp) := [(30000003, [1, 2, 5, 10, 11, 12], none, lsl29r3)]
def sp29 : Sp := fun args τ K => asCons args fun a1 r1 => asD wLF a1 fun x1 => asCons r1 fun a2 r2 => asSl 0 false a2 fun x2 x3 x4 => asNil r2 <| asCons τ fun a3 r3 => asRw (.int .i64) false a3 fun x5 => asNil r3 <| c29 x1 x2 x3 x4 x5 (fun z1 z2 => K (.vec 1) [.row (.int .i64) z1 false, .row (.pair (.int .i64) (.pair (.int .i64) (.pair (.sl (.int .i64)) (.pair (.int .i64) .unit)))) z2 false])
theorem h29 : ∀ args τ K, sp29 args τ K → ACall E 29 args τ K := by
  intro args τ K h0
  unfold sp29 at h0
  obtain ⟨a1, r1, rfl, h1⟩ := asCons_inv h0; clear h0
  obtain ⟨x1, rfl, h2⟩ := asD_inv h1; clear h1
  obtain ⟨a2, r2, rfl, h3⟩ := asCons_inv h2; clear h2
  obtain ⟨x2, x3, x4, rfl, h4⟩ := asSl_inv h3; clear h3
  obtain ⟨rfl, h5⟩ := asNil_inv h4; clear h4
  obtain ⟨a3, r3, rfl, h6⟩ := asCons_inv h5; clear h5
  obtain ⟨x5, rfl, h7⟩ := asRw_inv h6; clear h6
  obtain ⟨rfl, h8⟩ := asNil_inv h7; clear h7
  exact ACall.spec2 (fn := Try.f29) (c := codeOf Try.f29) (S := ofL S29) (L := lofL L29) hS29 (by kernel_rfl) (by kernel_rfl) (inlOK _) (all_eq (by kernel_rfl : subsOf (E.info 29).keep (codeOf Try.f29) = [.loop (body Try.f29 3)]) (all_cons (loopOK_of (mk := 30000003) (sl := [1, 2, 5, 10, 11, 12]) (ss := [([1, 2, 5, 10, 11, 12], lsl29r3)]) (by kernel_rfl) (by kernel_rfl) (all_cons l29r3v (all_nil))) (all_nil))) (by kernel_rfl) h8.of

abbrev Sl19r12 : List (Nat × Pat × Sp) := [(29, none, sp29)]
theorem hSl19r12 : SpecOK E (ofL Sl19r12) := specOK_cons h29 (specOK_nil)
abbrev Ll19r12 : List (Nat × List Nat × Pat × LSp) := []
def lsl19r12 : LSp := fun vs σ K => asCons vs fun a1 r1 => asP (.ptr 0 0 []) a1 <| asCons r1 fun a2 r2 => asP (.vec 4) a2 <| asCons r2 fun a3 r3 => asP (.ptr 5 0 []) a3 <| asCons r3 fun a4 r4 => asP (.vec 10) a4 <| asCons r4 fun a5 r5 => asP (.ptr 11 0 []) a5 <| asCons r5 fun a6 r6 => asP (.vec 16) a6 <| asCons r6 fun a7 r7 => asD (.sl wLF) a7 fun s1 => asCons r7 fun a8 r8 => asD (.int .i64) a8 fun s2 => asCons r8 fun a9 r9 => asD (.int .i64) a9 fun s3 => asNil r9 <| asCons σ fun a10 r10 => asOne (.pair (.sl wIT) (.pair (.sl (.int .i64)) (.pair (.sl (.arr 2 (.int .i64))) .unit))) a10 fun a11 => asAgL a11 fun l12 => asCons l12 fun a13 r13 => asP (.vec 1) a13 <| asCons r13 fun a14 r14 => asP (.vec 2) a14 <| asCons r14 fun a15 r15 => asP (.vec 3) a15 <| asNil r15 <| asCons r10 fun a16 r16 => asRw wIT false a16 fun s4 => asCons r16 fun a17 r17 => asRw (.int .i64) false a17 fun s5 => asCons r17 fun a18 r18 => asRw (.arr 2 (.int .i64)) false a18 fun s6 => asCons r18 fun a19 r19 => asRw (.int .i64) false a19 fun s7 => asCons r19 fun a20 r20 => asOne (.pair (.sl (.int .i64)) (.pair (.int .i64) (.pair (.sl (.int .i64)) (.pair (.sl (.pair (.int .i64) (.pair (.int .i64) (.pair (.sl (.int .i64)) (.pair (.int .i64) .unit))))) (.pair (.sl (.pair (.int .i64) (.pair (.int .i64) (.pair (.int .i64) (.pair (.sl (.pair .str wCL)) .unit))))) .unit))))) a20 fun a21 => asAgL a21 fun l22 => asCons l22 fun a23 r23 => asP (.vec 6) a23 <| asCons r23 fun a24 r24 => asD (.int .i64) a24 fun s8 => asCons r24 fun a25 r25 => asP (.vec 7) a25 <| asCons r25 fun a26 r26 => asP (.vec 8) a26 <| asCons r26 fun a27 r27 => asP (.vec 9) a27 <| asNil r27 <| asCons r20 fun a28 r28 => asRw (.int .i64) false a28 fun s9 => asCons r28 fun a29 r29 => asRw (.int .i64) false a29 fun s10 => asCons r29 fun a30 r30 => asRw (.pair (.int .i64) (.pair (.int .i64) (.pair (.sl (.int .i64)) (.pair (.int .i64) .unit)))) false a30 fun s11 => asCons r30 fun a31 r31 => asRw (.pair (.int .i64) (.pair (.int .i64) (.pair (.int .i64) (.pair (.sl (.pair .str wCL)) .unit)))) false a31 fun s12 => asCons r31 fun a32 r32 => asRw (.int .i64) false a32 fun s13 => asCons r32 fun a33 r33 => asOne (.pair (.sl (.int .i64)) (.pair (.int .i64) (.pair (.sl (.int .i64)) (.pair (.sl (.pair (.int .i64) (.pair (.int .i64) (.pair (.sl (.int .i64)) (.pair (.int .i64) .unit))))) (.pair (.sl (.pair (.int .i64) (.pair (.int .i64) (.pair (.int .i64) (.pair (.sl (.pair .str wCL)) .unit))))) .unit))))) a33 fun a34 => asAgL a34 fun l35 => asCons l35 fun a36 r36 => asP (.vec 12) a36 <| asCons r36 fun a37 r37 => asD (.int .i64) a37 fun s14 => asCons r37 fun a38 r38 => asP (.vec 13) a38 <| asCons r38 fun a39 r39 => asP (.vec 14) a39 <| asCons r39 fun a40 r40 => asP (.vec 15) a40 <| asNil r40 <| asCons r33 fun a41 r41 => asRw (.int .i64) false a41 fun s15 => asCons r41 fun a42 r42 => asRw (.int .i64) false a42 fun s16 => asCons r42 fun a43 r43 => asRw (.pair (.int .i64) (.pair (.int .i64) (.pair (.sl (.int .i64)) (.pair (.int .i64) .unit)))) false a43 fun s17 => asCons r43 fun a44 r44 => asRw (.pair (.int .i64) (.pair (.int .i64) (.pair (.int .i64) (.pair (.sl (.pair .str wCL)) .unit)))) false a44 fun s18 => asCons r44 fun a45 r45 => asRw (.int .i64) false a45 fun s19 => asNil r45 <| l19r12 (fun z1 z2 z3 z4 z5 z6 z7 z8 z9 z10 z11 z12 z13 z14 z15 => K (.exit 2) [(8, .ptr 5 0 []), (16, .ptr 10 0 []), (17, .vec 15)] [.one (.pair (.sl wIT) (.pair (.sl (.int .i64)) (.pair (.sl (.arr 2 (.int .i64))) .unit))) (.agg [.vec 1, .vec 2, .vec 3]), .row wIT z1 false, .row (.int .i64) z2 false, .row (.arr 2 (.int .i64)) z3 false, .row (.int .i64) z4 false, .one (.pair (.sl (.int .i64)) (.pair (.int .i64) (.pair (.sl (.int .i64)) (.pair (.sl (.pair (.int .i64) (.pair (.int .i64) (.pair (.sl (.int .i64)) (.pair (.int .i64) .unit))))) (.pair (.sl (.pair (.int .i64) (.pair (.int .i64) (.pair (.int .i64) (.pair (.sl (.pair .str wCL)) .unit))))) .unit))))) (.agg [.vec 6, I z5, .vec 7, .vec 8, .vec 9]), .row (.int .i64) z6 false, .row (.int .i64) z7 false, .row (.pair (.int .i64) (.pair (.int .i64) (.pair (.sl (.int .i64)) (.pair (.int .i64) .unit)))) z8 false, .row (.pair (.int .i64) (.pair (.int .i64) (.pair (.int .i64) (.pair (.sl (.pair .str wCL)) .unit)))) z9 false, .one (.pair (.sl (.int .i64)) (.pair (.int .i64) (.pair (.sl (.int .i64)) (.pair (.sl (.pair (.int .i64) (.pair (.int .i64) (.pair (.sl (.int .i64)) (.pair (.int .i64) .unit))))) (.pair (.sl (.pair (.int .i64) (.pair (.int .i64) (.pair (.int .i64) (.pair (.sl (.pair .str wCL)) .unit))))) .unit))))) (.agg [.vec 11, I z10, .vec 12, .vec 13, .vec 14]), .row (.int .i64) z11 false, .row (.int .i64) z12 false, .row (.pair (.int .i64) (.pair (.int .i64) (.pair (.sl (.int .i64)) (.pair (.int .i64) .unit)))) z13 false, .row (.pair (.int .i64) (.pair (.int .i64) (.pair (.int .i64) (.pair (.sl (.pair .str wCL)) .unit)))) z14 false, .row (.int .i64) z15 false]) s1 s2 s3 s4 s5 s6 s7 s8 s9 s10 s11 s12 s13 s14 s15 s16 s17 s18 s19
theorem l19r12v : LoopV E (inlF (PA (ACall E)) E 8) (E.info 19).keep 5 Try.f19.ntmps 20000012 (body Try.f19 12) ([0, 2, 8, 12, 16, 17, 65, 66, 67], lsl19r12) := by
  intro vs σ K (h0 : lsl19r12 vs σ K)
  unfold lsl19r12 at h0
  obtain ⟨a1, r1, rfl, h1⟩ := asCons_inv h0; clear h0
  obtain ⟨rfl, h2⟩ := asP_inv h1; clear h1
  obtain ⟨a2, r2, rfl, h3⟩ := asCons_inv h2; clear h2
  obtain ⟨rfl, h4⟩ := asP_inv h3; clear h3
  obtain ⟨a3, r3, rfl, h5⟩ := asCons_inv h4; clear h4
  obtain ⟨rfl, h6⟩ := asP_inv h5; clear h5
  obtain ⟨a4, r4, rfl, h7⟩ := asCons_inv h6; clear h6
  obtain ⟨rfl, h8⟩ := asP_inv h7; clear h7
  obtain ⟨a5, r5, rfl, h9⟩ := asCons_inv h8; clear h8
  obtain ⟨rfl, h10⟩ := asP_inv h9; clear h9
  obtain ⟨a6, r6, rfl, h11⟩ := asCons_inv h10; clear h10
  obtain ⟨rfl, h12⟩ := asP_inv h11; clear h11
  obtain ⟨a7, r7, rfl, h13⟩ := asCons_inv h12; clear h12
  obtain ⟨s1, rfl, h14⟩ := asD_inv h13; clear h13
  obtain ⟨a8, r8, rfl, h15⟩ := asCons_inv h14; clear h14
  obtain ⟨s2, rfl, h16⟩ := asD_inv h15; clear h15
  obtain ⟨a9, r9, rfl, h17⟩ := asCons_inv h16; clear h16
  obtain ⟨s3, rfl, h18⟩ := asD_inv h17; clear h17
  obtain ⟨rfl, h19⟩ := asNil_inv h18; clear h18
  obtain ⟨a10, r10, rfl, h20⟩ := asCons_inv h19; clear h19
  obtain ⟨a11, rfl, h21⟩ := asOne_inv h20; clear h20
  obtain ⟨l12, rfl, h22⟩ := asAgL_inv h21; clear h21
  obtain ⟨a13, r13, rfl, h23⟩ := asCons_inv h22; clear h22
  obtain ⟨rfl, h24⟩ := asP_inv h23; clear h23
  obtain ⟨a14, r14, rfl, h25⟩ := asCons_inv h24; clear h24
  obtain ⟨rfl, h26⟩ := asP_inv h25; clear h25
  obtain ⟨a15, r15, rfl, h27⟩ := asCons_inv h26; clear h26
  obtain ⟨rfl, h28⟩ := asP_inv h27; clear h27
  obtain ⟨rfl, h29⟩ := asNil_inv h28; clear h28
  obtain ⟨a16, r16, rfl, h30⟩ := asCons_inv h29; clear h29
  obtain ⟨s4, rfl, h31⟩ := asRw_inv h30; clear h30
  obtain ⟨a17, r17, rfl, h32⟩ := asCons_inv h31; clear h31
  obtain ⟨s5, rfl, h33⟩ := asRw_inv h32; clear h32
  obtain ⟨a18, r18, rfl, h34⟩ := asCons_inv h33; clear h33
  obtain ⟨s6, rfl, h35⟩ := asRw_inv h34; clear h34
  obtain ⟨a19, r19, rfl, h36⟩ := asCons_inv h35; clear h35
  obtain ⟨s7, rfl, h37⟩ := asRw_inv h36; clear h36
  obtain ⟨a20, r20, rfl, h38⟩ := asCons_inv h37; clear h37
  obtain ⟨a21, rfl, h39⟩ := asOne_inv h38; clear h38
  obtain ⟨l22, rfl, h40⟩ := asAgL_inv h39; clear h39
  obtain ⟨a23, r23, rfl, h41⟩ := asCons_inv h40; clear h40
  obtain ⟨rfl, h42⟩ := asP_inv h41; clear h41
  obtain ⟨a24, r24, rfl, h43⟩ := asCons_inv h42; clear h42
  obtain ⟨s8, rfl, h44⟩ := asD_inv h43; clear h43
  obtain ⟨a25, r25, rfl, h45⟩ := asCons_inv h44; clear h44
  obtain ⟨rfl, h46⟩ := asP_inv h45; clear h45
  obtain ⟨a26, r26, rfl, h47⟩ := asCons_inv h46; clear h46
  obtain ⟨rfl, h48⟩ := asP_inv h47; clear h47
  obtain ⟨a27, r27, rfl, h49⟩ := asCons_inv h48; clear h48
  obtain ⟨rfl, h50⟩ := asP_inv h49; clear h49
  obtain ⟨rfl, h51⟩ := asNil_inv h50; clear h50
  obtain ⟨a28, r28, rfl, h52⟩ := asCons_inv h51; clear h51
  obtain ⟨s9, rfl, h53⟩ := asRw_inv h52; clear h52
  obtain ⟨a29, r29, rfl, h54⟩ := asCons_inv h53; clear h53
  obtain ⟨s10, rfl, h55⟩ := asRw_inv h54; clear h54
  obtain ⟨a30, r30, rfl, h56⟩ := asCons_inv h55; clear h55
  obtain ⟨s11, rfl, h57⟩ := asRw_inv h56; clear h56
  obtain ⟨a31, r31, rfl, h58⟩ := asCons_inv h57; clear h57
  obtain ⟨s12, rfl, h59⟩ := asRw_inv h58; clear h58
  obtain ⟨a32, r32, rfl, h60⟩ := asCons_inv h59; clear h59
  obtain ⟨s13, rfl, h61⟩ := asRw_inv h60; clear h60
  obtain ⟨a33, r33, rfl, h62⟩ := asCons_inv h61; clear h61
  obtain ⟨a34, rfl, h63⟩ := asOne_inv h62; clear h62
  obtain ⟨l35, rfl, h64⟩ := asAgL_inv h63; clear h63
  obtain ⟨a36, r36, rfl, h65⟩ := asCons_inv h64; clear h64
  obtain ⟨rfl, h66⟩ := asP_inv h65; clear h65
  obtain ⟨a37, r37, rfl, h67⟩ := asCons_inv h66; clear h66
  obtain ⟨s14, rfl, h68⟩ := asD_inv h67; clear h67
  obtain ⟨a38, r38, rfl, h69⟩ := asCons_inv h68; clear h68
  obtain ⟨rfl, h70⟩ := asP_inv h69; clear h69
  obtain ⟨a39, r39, rfl, h71⟩ := asCons_inv h70; clear h70
  obtain ⟨rfl, h72⟩ := asP_inv h71; clear h71
  obtain ⟨a40, r40, rfl, h73⟩ := asCons_inv h72; clear h72
  obtain ⟨rfl, h74⟩ := asP_inv h73; clear h73
  obtain ⟨rfl, h75⟩ := asNil_inv h74; clear h74
  obtain ⟨a41, r41, rfl, h76⟩ := asCons_inv h75; clear h75
  obtain ⟨s15, rfl, h77⟩ := asRw_inv h76; clear h76
  obtain ⟨a42, r42, rfl, h78⟩ := asCons_inv h77; clear h77
  obtain ⟨s16, rfl, h79⟩ := asRw_inv h78; clear h78
  obtain ⟨a43, r43, rfl, h80⟩ := asCons_inv h79; clear h79
  obtain ⟨s17, rfl, h81⟩ := asRw_inv h80; clear h80
  obtain ⟨a44, r44, rfl, h82⟩ := asCons_inv h81; clear h81
  obtain ⟨s18, rfl, h83⟩ := asRw_inv h82; clear h82
  obtain ⟨a45, r45, rfl, h84⟩ := asCons_inv h83; clear h83
  obtain ⟨s19, rfl, h85⟩ := asRw_inv h84; clear h84
  obtain ⟨rfl, h86⟩ := asNil_inv h85; clear h85
  intro J hJ
  have hp : ∀ c' ∈ subsOf (E.info 19).keep (body Try.f19 12), SubOK E (inlF (PA (ACall E)) E 8) (E.info 19).keep 5 Try.f19.ntmps (lofL Ll19r12) c' := all_eq (by kernel_rfl : subsOf (E.info 19).keep (body Try.f19 12) = []) (all_nil)
  exact h86.of (fun s1 s2 s3 s4 s5 s6 s7 s8 s9 s10 s11 s12 s13 s14 s15 s16 s17 s18 s19 => J [(20000012, .undef), (0, .ptr 0 0 []), (2, .vec 4), (8, .ptr 5 0 []), (12, .vec 10), (16, .ptr 11 0 []), (17, .vec 16), (65, .d (.sl wLF) s1), (66, I s2), (67, I s3)] [.one (.pair (.sl wIT) (.pair (.sl (.int .i64)) (.pair (.sl (.arr 2 (.int .i64))) .unit))) (.agg [.vec 1, .vec 2, .vec 3]), .row wIT s4 false, .row (.int .i64) s5 false, .row (.arr 2 (.int .i64)) s6 false, .row (.int .i64) s7 false, .one (.pair (.sl (.int .i64)) (.pair (.int .i64) (.pair (.sl (.int .i64)) (.pair (.sl (.pair (.int .i64) (.pair (.int .i64) (.pair (.sl (.int .i64)) (.pair (.int .i64) .unit))))) (.pair (.sl (.pair (.int .i64) (.pair (.int .i64) (.pair (.int .i64) (.pair (.sl (.pair .str wCL)) .unit))))) .unit))))) (.agg [.vec 6, I s8, .vec 7, .vec 8, .vec 9]), .row (.int .i64) s9 false, .row (.int .i64) s10 false, .row (.pair (.int .i64) (.pair (.int .i64) (.pair (.sl (.int .i64)) (.pair (.int .i64) .unit)))) s11 false, .row (.pair (.int .i64) (.pair (.int .i64) (.pair (.int .i64) (.pair (.sl (.pair .str wCL)) .unit)))) s12 false, .row (.int .i64) s13 false, .one (.pair (.sl (.int .i64)) (.pair (.int .i64) (.pair (.sl (.int .i64)) (.pair (.sl (.pair (.int .i64) (.pair (.int .i64) (.pair (.sl (.int .i64)) (.pair (.int .i64) .unit))))) (.pair (.sl (.pair (.int .i64) (.pair (.int .i64) (.pair (.int .i64) (.pair (.sl (.pair .str wCL)) .unit))))) .unit))))) (.agg [.vec 12, I s14, .vec 13, .vec 14, .vec 15]), .row (.int .i64) s15 false, .row (.int .i64) s16 false, .row (.pair (.int .i64) (.pair (.int .i64) (.pair (.sl (.int .i64)) (.pair (.int .i64) .unit)))) s17 false, .row (.pair (.int .i64) (.pair (.int .i64) (.pair (.int .i64) (.pair (.sl (.pair .str wCL)) .unit)))) s18 false, .row (.int .i64) s19 false]) (fun s1 s2 s3 s4 s5 s6 s7 s8 s9 s10 s11 s12 s13 s14 s15 s16 s17 s18 s19 hb => loop_round2 (S := ofL Sl19r12) (L := lofL Ll19r12) hSl19r12 (inlOK _) hp hJ (by kernel_rfl) hb)

abbrev Sl19r5v2 : List (Nat × Pat × Sp) := []
theorem hSl19r5v2 : SpecOK E (ofL Sl19r5v2) := specOK_nil
abbrev Ll19r5v2 : List (Nat × List Nat × Pat × LSp) := []
def lsl19r5v2 : LSp := fun vs σ K => asCons vs fun a1 r1 => asP (.ptr 0 0 []) a1 <| asCons r1 fun a2 r2 => asD (.sl wLF) a2 fun s1 => asCons r2 fun a3 r3 => asP (.vec 4) a3 <| asCons r3 fun a4 r4 => asP (.ptr 5 0 []) a4 <| asCons r4 fun a5 r5 => asP (.vec 10) a5 <| asCons r5 fun a6 r6 => asSl 11 false a6 fun s2 s3 s4 => asCons r6 fun a7 r7 => asP (.vec 3) a7 <| asCons r7 fun a8 r8 => asD (.int .i64) a8 fun s5 => asCons r8 fun a9 r9 => asD (.int .i64) a9 fun s6 => asNil r9 <| asCons σ fun a10 r10 => asOne (.pair (.sl wIT) (.pair (.sl (.int .i64)) (.pair (.sl (.arr 2 (.int .i64))) .unit))) a10 fun a11 => asAgL a11 fun l12 => asCons l12 fun a13 r13 => asP (.vec 1) a13 <| asCons r13 fun a14 r14 => asP (.vec 2) a14 <| asCons r14 fun a15 r15 => asP (.vec 3) a15 <| asNil r15 <| asCons r10 fun a16 r16 => asRw wIT false a16 fun s7 => asCons r16 fun a17 r17 => asRw (.int .i64) false a17 fun s8 => asCons r17 fun a18 r18 => asRw (.arr 2 (.int .i64)) false a18 fun s9 => asCons r18 fun a19 r19 => asRw (.int .i64) false a19 fun s10 => asCons r19 fun a20 r20 => asOne (.pair (.sl (.int .i64)) (.pair (.int .i64) (.pair (.sl (.int .i64)) (.pair (.sl (.pair (.int .i64) (.pair (.int .i64) (.pair (.sl (.int .i64)) (.pair (.int .i64) .unit))))) (.pair (.sl (.pair (.int .i64) (.pair (.int .i64) (.pair (.int .i64) (.pair (.sl (.pair .str wCL)) .unit))))) .unit))))) a20 fun a21 => asAgL a21 fun l22 => asCons l22 fun a23 r23 => asP (.vec 6) a23 <| asCons r23 fun a24 r24 => asD (.int .i64) a24 fun s11 => asCons r24 fun a25 r25 => asP (.vec 7) a25 <| asCons r25 fun a26 r26 => asP (.vec 8) a26 <| asCons r26 fun a27 r27 => asP (.vec 9) a27 <| asNil r27 <| asCons r20 fun a28 r28 => asRw (.int .i64) false a28 fun s12 => asCons r28 fun a29 r29 => asRw (.int .i64) false a29 fun s13 => asCons r29 fun a30 r30 => asRw (.pair (.int .i64) (.pair (.int .i64) (.pair (.sl (.int .i64)) (.pair (.int .i64) .unit)))) false a30 fun s14 => asCons r30 fun a31 r31 => asRw (.pair (.int .i64) (.pair (.int .i64) (.pair (.int .i64) (.pair (.sl (.pair .str wCL)) .unit)))) false a31 fun s15 => asCons r31 fun a32 r32 => asRw (.int .i64) false a32 fun s16 => asCons r32 fun a33 r33 => asRw (.int .i64) false a33 fun s17 => asNil r33 <| l19r5v2 (fun z1 z2 z3 z4 z5 z6 z7 z8 z9 z10 z11 z12 z13 z14 z15 => K (.exit 0) [(0, .ptr 0 0 []), (1, .d (.sl wLF) z1), (2, .vec 4), (8, .ptr 5 0 []), (11, .vec 10), (12, .sl 11 z2 z3 z4 false)] [.one (.pair (.sl wIT) (.pair (.sl (.int .i64)) (.pair (.sl (.arr 2 (.int .i64))) .unit))) (.agg [.vec 1, .vec 2, .vec 3]), .row wIT z5 false, .row (.int .i64) z6 false, .row (.arr 2 (.int .i64)) z7 false, .row (.int .i64) z8 false, .one (.pair (.sl (.int .i64)) (.pair (.int .i64) (.pair (.sl (.int .i64)) (.pair (.sl (.pair (.int .i64) (.pair (.int .i64) (.pair (.sl (.int .i64)) (.pair (.int .i64) .unit))))) (.pair (.sl (.pair (.int .i64) (.pair (.int .i64) (.pair (.int .i64) (.pair (.sl (.pair .str wCL)) .unit))))) .unit))))) (.agg [.vec 6, I z9, .vec 7, .vec 8, .vec 9]), .row (.int .i64) z10 false, .row (.int .i64) z11 false, .row (.pair (.int .i64) (.pair (.int .i64) (.pair (.sl (.int .i64)) (.pair (.int .i64) .unit)))) z12 false, .row (.pair (.int .i64) (.pair (.int .i64) (.pair (.int .i64) (.pair (.sl (.pair .str wCL)) .unit)))) z13 false, .row (.int .i64) z14 false, .row (.int .i64) z15 false]) s1 s2 s3 s4 s5 s6 s7 s8 s9 s10 s11 s12 s13 s14 s15 s16 s17
theorem l19r5v2v : LoopV E (inlF (PA (ACall E)) E 8) (E.info 19).keep 5 Try.f19.ntmps 20000005 (body Try.f19 5) ([0, 1, 2, 8, 11, 12, 38, 39, 40], lsl19r5v2) := by
  intro vs σ K (h0 : lsl19r5v2 vs σ K)
  unfold lsl19r5v2 at h0
  obtain ⟨a1, r1, rfl, h1⟩ := asCons_inv h0; clear h0
  obtain ⟨rfl, h2⟩ := asP_inv h1; clear h1
  obtain ⟨a2, r2, rfl, h3⟩ := asCons_inv h2; clear h2
  obtain ⟨s1, rfl, h4⟩ := asD_inv h3; clear h3
  obtain ⟨a3, r3, rfl, h5⟩ := asCons_inv h4; clear h4
  obtain ⟨rfl, h6⟩ := asP_inv h5; clear h5
  obtain ⟨a4, r4, rfl, h7⟩ := asCons_inv h6; clear h6
  obtain ⟨rfl, h8⟩ := asP_inv h7; clear h7
  obtain ⟨a5, r5, rfl, h9⟩ := asCons_inv h8; clear h8
  obtain ⟨rfl, h10⟩ := asP_inv h9; clear h9
  obtain ⟨a6, r6, rfl, h11⟩ := asCons_inv h10; clear h10
  obtain ⟨s2, s3, s4, rfl, h12⟩ := asSl_inv h11; clear h11
  obtain ⟨a7, r7, rfl, h13⟩ := asCons_inv h12; clear h12
  obtain ⟨rfl, h14⟩ := asP_inv h13; clear h13
  obtain ⟨a8, r8, rfl, h15⟩ := asCons_inv h14; clear h14
  obtain ⟨s5, rfl, h16⟩ := asD_inv h15; clear h15
  obtain ⟨a9, r9, rfl, h17⟩ := asCons_inv h16; clear h16
  obtain ⟨s6, rfl, h18⟩ := asD_inv h17; clear h17
  obtain ⟨rfl, h19⟩ := asNil_inv h18; clear h18
  obtain ⟨a10, r10, rfl, h20⟩ := asCons_inv h19; clear h19
  obtain ⟨a11, rfl, h21⟩ := asOne_inv h20; clear h20
  obtain ⟨l12, rfl, h22⟩ := asAgL_inv h21; clear h21
  obtain ⟨a13, r13, rfl, h23⟩ := asCons_inv h22; clear h22
  obtain ⟨rfl, h24⟩ := asP_inv h23; clear h23
  obtain ⟨a14, r14, rfl, h25⟩ := asCons_inv h24; clear h24
  obtain ⟨rfl, h26⟩ := asP_inv h25; clear h25
  obtain ⟨a15, r15, rfl, h27⟩ := asCons_inv h26; clear h26
  obtain ⟨rfl, h28⟩ := asP_inv h27; clear h27
  obtain ⟨rfl, h29⟩ := asNil_inv h28; clear h28
  obtain ⟨a16, r16, rfl, h30⟩ := asCons_inv h29; clear h29
  obtain ⟨s7, rfl, h31⟩ := asRw_inv h30; clear h30
  obtain ⟨a17, r17, rfl, h32⟩ := asCons_inv h31; clear h31
  obtain ⟨s8, rfl, h33⟩ := asRw_inv h32; clear h32
  obtain ⟨a18, r18, rfl, h34⟩ := asCons_inv h33; clear h33
  obtain ⟨s9, rfl, h35⟩ := asRw_inv h34; clear h34
  obtain ⟨a19, r19, rfl, h36⟩ := asCons_inv h35; clear h35
  obtain ⟨s10, rfl, h37⟩ := asRw_inv h36; clear h36
  obtain ⟨a20, r20, rfl, h38⟩ := asCons_inv h37; clear h37
  obtain ⟨a21, rfl, h39⟩ := asOne_inv h38; clear h38
  obtain ⟨l22, rfl, h40⟩ := asAgL_inv h39; clear h39
  obtain ⟨a23, r23, rfl, h41⟩ := asCons_inv h40; clear h40
  obtain ⟨rfl, h42⟩ := asP_inv h41; clear h41
  obtain ⟨a24, r24, rfl, h43⟩ := asCons_inv h42; clear h42
  obtain ⟨s11, rfl, h44⟩ := asD_inv h43; clear h43
  obtain ⟨a25, r25, rfl, h45⟩ := asCons_inv h44; clear h44
  obtain ⟨rfl, h46⟩ := asP_inv h45; clear h45
  obtain ⟨a26, r26, rfl, h47⟩ := asCons_inv h46; clear h46
  obtain ⟨rfl, h48⟩ := asP_inv h47; clear h47
  obtain ⟨a27, r27, rfl, h49⟩ := asCons_inv h48; clear h48
  obtain ⟨rfl, h50⟩ := asP_inv h49; clear h49
  obtain ⟨rfl, h51⟩ := asNil_inv h50; clear h50
  obtain ⟨a28, r28, rfl, h52⟩ := asCons_inv h51; clear h51
  obtain ⟨s12, rfl, h53⟩ := asRw_inv h52; clear h52
  obtain ⟨a29, r29, rfl, h54⟩ := asCons_inv h53; clear h53
  obtain ⟨s13, rfl, h55⟩ := asRw_inv h54; clear h54
  obtain ⟨a30, r30, rfl, h56⟩ := asCons_inv h55; clear h55
  obtain ⟨s14, rfl, h57⟩ := asRw_inv h56; clear h56
  obtain ⟨a31, r31, rfl, h58⟩ := asCons_inv h57; clear h57
  obtain ⟨s15, rfl, h59⟩ := asRw_inv h58; clear h58
  obtain ⟨a32, r32, rfl, h60⟩ := asCons_inv h59; clear h59
  obtain ⟨s16, rfl, h61⟩ := asRw_inv h60; clear h60
  obtain ⟨a33, r33, rfl, h62⟩ := asCons_inv h61; clear h61
  obtain ⟨s17, rfl, h63⟩ := asRw_inv h62; clear h62
  obtain ⟨rfl, h64⟩ := asNil_inv h63; clear h63
  intro J hJ
  have hp : ∀ c' ∈ subsOf (E.info 19).keep (body Try.f19 5), SubOK E (inlF (PA (ACall E)) E 8) (E.info 19).keep 5 Try.f19.ntmps (lofL Ll19r5v2) c' := all_eq (by kernel_rfl : subsOf (E.info 19).keep (body Try.f19 5) = []) (all_nil)
  exact h64.of (fun s1 s2 s3 s4 s5 s6 s7 s8 s9 s10 s11 s12 s13 s14 s15 s16 s17 => J [(20000005, .undef), (0, .ptr 0 0 []), (1, .d (.sl wLF) s1), (2, .vec 4), (8, .ptr 5 0 []), (11, .vec 10), (12, .sl 11 s2 s3 s4 false), (38, .vec 3), (39, I s5), (40, I s6)] [.one (.pair (.sl wIT) (.pair (.sl (.int .i64)) (.pair (.sl (.arr 2 (.int .i64))) .unit))) (.agg [.vec 1, .vec 2, .vec 3]), .row wIT s7 false, .row (.int .i64) s8 false, .row (.arr 2 (.int .i64)) s9 false, .row (.int .i64) s10 false, .one (.pair (.sl (.int .i64)) (.pair (.int .i64) (.pair (.sl (.int .i64)) (.pair (.sl (.pair (.int .i64) (.pair (.int .i64) (.pair (.sl (.int .i64)) (.pair (.int .i64) .unit))))) (.pair (.sl (.pair (.int .i64) (.pair (.int .i64) (.pair (.int .i64) (.pair (.sl (.pair .str wCL)) .unit))))) .unit))))) (.agg [.vec 6, I s11, .vec 7, .vec 8, .vec 9]), .row (.int .i64) s12 false, .row (.int .i64) s13 false, .row (.pair (.int .i64) (.pair (.int .i64) (.pair (.sl (.int .i64)) (.pair (.int .i64) .unit)))) s14 false, .row (.pair (.int .i64) (.pair (.int .i64) (.pair (.int .i64) (.pair (.sl (.pair .str wCL)) .unit)))) s15 false, .row (.int .i64) s16 false, .row (.int .i64) s17 false]) (fun s1 s2 s3 s4 s5 s6 s7 s8 s9 s10 s11 s12 s13 s14 s15 s16 s17 hb => loop_round2 (S := ofL Sl19r5v2) (L := lofL Ll19r5v2) hSl19r5v2 (inlOK _) hp hJ (by kernel_rfl) hb)

abbrev Sl19r12v2 : List (Nat × Pat × Sp) := [(29, none, sp29)]
theorem hSl19r12v2 : SpecOK E (ofL Sl19r12v2) := specOK_cons h29 (specOK_nil)
abbrev Ll19r12v2 : List (Nat × List Nat × Pat × LSp) := []
def lsl19r12v2 : LSp := fun vs σ K => asCons vs fun a1 r1 => asP (.ptr 0 0 []) a1 <| asCons r1 fun a2 r2 => asP (.vec 4) a2 <| asCons r2 fun a3 r3 => asP (.ptr 5 0 []) a3 <| asCons r3 fun a4 r4 => asSl 10 false a4 fun s1 s2 s3 => asCons r4 fun a5 r5 => asP (.ptr 11 0 []) a5 <| asCons r5 fun a6 r6 => asP (.vec 16) a6 <| asCons r6 fun a7 r7 => asD (.sl wLF) a7 fun s4 => asCons r7 fun a8 r8 => asD (.int .i64) a8 fun s5 => asCons r8 fun a9 r9 => asD (.int .i64) a9 fun s6 => asNil r9 <| asCons σ fun a10 r10 => asOne (.pair (.sl wIT) (.pair (.sl (.int .i64)) (.pair (.sl (.arr 2 (.int .i64))) .unit))) a10 fun a11 => asAgL a11 fun l12 => asCons l12 fun a13 r13 => asP (.vec 1) a13 <| asCons r13 fun a14 r14 => asP (.vec 2) a14 <| asCons r14 fun a15 r15 => asP (.vec 3) a15 <| asNil r15 <| asCons r10 fun a16 r16 => asRw wIT false a16 fun s7 => asCons r16 fun a17 r17 => asRw (.int .i64) false a17 fun s8 => asCons r17 fun a18 r18 => asRw (.arr 2 (.int .i64)) false a18 fun s9 => asCons r18 fun a19 r19 => asRw (.int .i64) false a19 fun s10 => asCons r19 fun a20 r20 => asOne (.pair (.sl (.int .i64)) (.pair (.int .i64) (.pair (.sl (.int .i64)) (.pair (.sl (.pair (.int .i64) (.pair (.int .i64) (.pair (.sl (.int .i64)) (.pair (.int .i64) .unit))))) (.pair (.sl (.pair (.int .i64) (.pair (.int .i64) (.pair (.int .i64) (.pair (.sl (.pair .str wCL)) .unit))))) .unit))))) a20 fun a21 => asAgL a21 fun l22 => asCons l22 fun a23 r23 => asP (.vec 6) a23 <| asCons r23 fun a24 r24 => asD (.int .i64) a24 fun s11 => asCons r24 fun a25 r25 => asP (.vec 7) a25 <| asCons r25 fun a26 r26 => asP (.vec 8) a26 <| asCons r26 fun a27 r27 => asP (.vec 9) a27 <| asNil r27 <| asCons r20 fun a28 r28 => asRw (.int .i64) false a28 fun s12 => asCons r28 fun a29 r29 => asRw (.int .i64) false a29 fun s13 => asCons r29 fun a30 r30 => asRw (.pair (.int .i64) (.pair (.int .i64) (.pair (.sl (.int .i64)) (.pair (.int .i64) .unit)))) false a30 fun s14 => asCons r30 fun a31 r31 => asRw (.pair (.int .i64) (.pair (.int .i64) (.pair (.int .i64) (.pair (.sl (.pair .str wCL)) .unit)))) false a31 fun s15 => asCons r31 fun a32 r32 => asRw (.int .i64) false a32 fun s16 => asCons r32 fun a33 r33 => asOne (.pair (.sl (.int .i64)) (.pair (.int .i64) (.pair (.sl (.int .i64)) (.pair (.sl (.pair (.int .i64) (.pair (.int .i64) (.pair (.sl (.int .i64)) (.pair (.int .i64) .unit))))) (.pair (.sl (.pair (.int .i64) (.pair (.int .i64) (.pair (.int .i64) (.pair (.sl (.pair .str wCL)) .unit))))) .unit))))) a33 fun a34 => asAgL a34 fun l35 => asCons l35 fun a36 r36 => asP (.vec 12) a36 <| asCons r36 fun a37 r37 => asD (.int .i64) a37 fun s17 => asCons r37 fun a38 r38 => asP (.vec 13) a38 <| asCons r38 fun a39 r39 => asP (.vec 14) a39 <| asCons r39 fun a40 r40 => asP (.vec 15) a40 <| asNil r40 <| asCons r33 fun a41 r41 => asRw (.int .i64) false a41 fun s18 => asCons r41 fun a42 r42 => asRw (.int .i64) false a42 fun s19 => asCons r42 fun a43 r43 => asRw (.pair (.int .i64) (.pair (.int .i64) (.pair (.sl (.int .i64)) (.pair (.int .i64) .unit)))) false a43 fun s20 => asCons r43 fun a44 r44 => asRw (.pair (.int .i64) (.pair (.int .i64) (.pair (.int .i64) (.pair (.sl (.pair .str wCL)) .unit)))) false a44 fun s21 => asCons r44 fun a45 r45 => asRw (.int .i64) false a45 fun s22 => asNil r45 <| l19r12v2 (fun z1 z2 z3 z4 z5 z6 z7 z8 z9 z10 z11 z12 z13 z14 z15 => K (.exit 2) [(8, .ptr 5 0 []), (16, .ptr 10 0 []), (17, .vec 15)] [.one (.pair (.sl wIT) (.pair (.sl (.int .i64)) (.pair (.sl (.arr 2 (.int .i64))) .unit))) (.agg [.vec 1, .vec 2, .vec 3]), .row wIT z1 false, .row (.int .i64) z2 false, .row (.arr 2 (.int .i64)) z3 false, .row (.int .i64) z4 false, .one (.pair (.sl (.int .i64)) (.pair (.int .i64) (.pair (.sl (.int .i64)) (.pair (.sl (.pair (.int .i64) (.pair (.int .i64) (.pair (.sl (.int .i64)) (.pair (.int .i64) .unit))))) (.pair (.sl (.pair (.int .i64) (.pair (.int .i64) (.pair (.int .i64) (.pair (.sl (.pair .str wCL)) .unit))))) .unit))))) (.agg [.vec 6, I z5, .vec 7, .vec 8, .vec 9]), .row (.int .i64) z6 false, .row (.int .i64) z7 false, .row (.pair (.int .i64) (.pair (.int .i64) (.pair (.sl (.int .i64)) (.pair (.int .i64) .unit)))) z8 false, .row (.pair (.int .i64) (.pair (.int .i64) (.pair (.int .i64) (.pair (.sl (.pair .str wCL)) .unit)))) z9 false, .one (.pair (.sl (.int .i64)) (.pair (.int .i64) (.pair (.sl (.int .i64)) (.pair (.sl (.pair (.int .i64) (.pair (.int .i64) (.pair (.sl (.int .i64)) (.pair (.int .i64) .unit))))) (.pair (.sl (.pair (.int .i64) (.pair (.int .i64) (.pair (.int .i64) (.pair (.sl (.pair .str wCL)) .unit))))) .unit))))) (.agg [.vec 11, I z10, .vec 12, .vec 13, .vec 14]), .row (.int .i64) z11 false, .row (.int .i64) z12 false, .row (.pair (.int .i64) (.pair (.int .i64) (.pair (.sl (.int .i64)) (.pair (.int .i64) .unit)))) z13 false, .row (.pair (.int .i64) (.pair (.int .i64) (.pair (.int .i64) (.pair (.sl (.pair .str wCL)) .unit)))) z14 false, .row (.int .i64) z15 false]) s1 s2 s3 s4 s5 s6 s7 s8 s9 s10 s11 s12 s13 s14 s15 s16 s17 s18 s19 s20 s21 s22
theorem l19r12v2v : LoopV E (inlF (PA (ACall E)) E 8) (E.info 19).keep 5 Try.f19.ntmps 20000012 (body Try.f19 12) ([0, 2, 8, 12, 16, 17, 65, 66, 67], lsl19r12v2) := by
  intro vs σ K (h0 : lsl19r12v2 vs σ K)
  unfold lsl19r12v2 at h0
  obtain ⟨a1, r1, rfl, h1⟩ := asCons_inv h0; clear h0
  obtain ⟨rfl, h2⟩ := asP_inv h1; clear h1
  obtain ⟨a2, r2, rfl, h3⟩ := asCons_inv h2; clear h2
  obtain ⟨rfl, h4⟩ := asP_inv h3; clear h3
  obtain ⟨a3, r3, rfl, h5⟩ := asCons_inv h4; clear h4
  obtain ⟨rfl, h6⟩ := asP_inv h5; clear h5
  obtain ⟨a4, r4, rfl, h7⟩ := asCons_inv h6; clear h6
  obtain ⟨s1, s2, s3, rfl, h8⟩ := asSl_inv h7; clear h7
  obtain ⟨a5, r5, rfl, h9⟩ := asCons_inv h8; clear h8
  obtain ⟨rfl, h10⟩ := asP_inv h9; clear h9
  obtain ⟨a6, r6, rfl, h11⟩ := asCons_inv h10; clear h10
  obtain ⟨rfl, h12⟩ := asP_inv h11; clear h11
  obtain ⟨a7, r7, rfl, h13⟩ := asCons_inv h12; clear h12
  obtain ⟨s4, rfl, h14⟩ := asD_inv h13; clear h13
  obtain ⟨a8, r8, rfl, h15⟩ := asCons_inv h14; clear h14
  obtain ⟨s5, rfl, h16⟩ := asD_inv h15; clear h15
  obtain ⟨a9, r9, rfl, h17⟩ := asCons_inv h16; clear h16
  obtain ⟨s6, rfl, h18⟩ := asD_inv h17; clear h17
  obtain ⟨rfl, h19⟩ := asNil_inv h18; clear h18
  obtain ⟨a10, r10, rfl, h20⟩ := asCons_inv h19; clear h19
  obtain ⟨a11, rfl, h21⟩ := asOne_inv h20; clear h20
  obtain ⟨l12, rfl, h22⟩ := asAgL_inv h21; clear h21
  obtain ⟨a13, r13, rfl, h23⟩ := asCons_inv h22; clear h22
  obtain ⟨rfl, h24⟩ := asP_inv h23; clear h23
  obtain ⟨a14, r14, rfl, h25⟩ := asCons_inv h24; clear h24
  obtain ⟨rfl, h26⟩ := asP_inv h25; clear h25
  obtain ⟨a15, r15, rfl, h27⟩ := asCons_inv h26; clear h26
  obtain ⟨rfl, h28⟩ := asP_inv h27; clear h27
  obtain ⟨rfl, h29⟩ := asNil_inv h28; clear h28
  obtain ⟨a16, r16, rfl, h30⟩ := asCons_inv h29; clear h29
  obtain ⟨s7, rfl, h31⟩ := asRw_inv h30; clear h30
  obtain ⟨a17, r17, rfl, h32⟩ := asCons_inv h31; clear h31
  obtain ⟨s8, rfl, h33⟩ := asRw_inv h32; clear h32
  obtain ⟨a18, r18, rfl, h34⟩ := asCons_inv h33; clear h33
  obtain ⟨s9, rfl, h35⟩ := asRw_inv h34; clear h34
  obtain ⟨a19, r19, rfl, h36⟩ := asCons_inv h35; clear h35
  obtain ⟨s10, rfl, h37⟩ := asRw_inv h36; clear h36
  obtain ⟨a20, r20, rfl, h38⟩ := asCons_inv h37; clear h37
  obtain ⟨a21, rfl, h39⟩ := asOne_inv h38; clear h38
  obtain ⟨l22, rfl, h40⟩ := asAgL_inv h39; clear h39
  obtain ⟨a23, r23, rfl, h41⟩ := asCons_inv h40; clear h40
  obtain ⟨rfl, h42⟩ := asP_inv h41; clear h41
  obtain ⟨a24, r24, rfl, h43⟩ := asCons_inv h42; clear h42
  obtain ⟨s11, rfl, h44⟩ := asD_inv h43; clear h43
  obtain ⟨a25, r25, rfl, h45⟩ := asCons_inv h44; clear h44
  obtain ⟨rfl, h46⟩ := asP_inv h45; clear h45
  obtain ⟨a26, r26, rfl, h47⟩ := asCons_inv h46; clear h46
  obtain ⟨rfl, h48⟩ := asP_inv h47; clear h47
  obtain ⟨a27, r27, rfl, h49⟩ := asCons_inv h48; clear h48
  obtain ⟨rfl, h50⟩ := asP_inv h49; clear h49
  obtain ⟨rfl, h51⟩ := asNil_inv h50; clear h50
  obtain ⟨a28, r28, rfl, h52⟩ := asCons_inv h51; clear h51
  obtain ⟨s12, rfl, h53⟩ := asRw_inv h52; clear h52
  obtain ⟨a29, r29, rfl, h54⟩ := asCons_inv h53; clear h53
  obtain ⟨s13, rfl, h55⟩ := asRw_inv h54; clear h54
  obtain ⟨a30, r30, rfl, h56⟩ := asCons_inv h55; clear h55
  obtain ⟨s14, rfl, h57⟩ := asRw_inv h56; clear h56
  obtain ⟨a31, r31, rfl, h58⟩ := asCons_inv h57; clear h57
  obtain ⟨s15, rfl, h59⟩ := asRw_inv h58; clear h58
  obtain ⟨a32, r32, rfl, h60⟩ := asCons_inv h59; clear h59
  obtain ⟨s16, rfl, h61⟩ := asRw_inv h60; clear h60
  obtain ⟨a33, r33, rfl, h62⟩ := asCons_inv h61; clear h61
  obtain ⟨a34, rfl, h63⟩ := asOne_inv h62; clear h62
  obtain ⟨l35, rfl, h64⟩ := asAgL_inv h63; clear h63
  obtain ⟨a36, r36, rfl, h65⟩ := asCons_inv h64; clear h64
  obtain ⟨rfl, h66⟩ := asP_inv h65; clear h65
  obtain ⟨a37, r37, rfl, h67⟩ := asCons_inv h66; clear h66
  obtain ⟨s17, rfl, h68⟩ := asD_inv h67; clear h67
  obtain ⟨a38, r38, rfl, h69⟩ := asCons_inv h68; clear h68
  obtain ⟨rfl, h70⟩ := asP_inv h69; clear h69
  obtain ⟨a39, r39, rfl, h71⟩ := asCons_inv h70; clear h70
  obtain ⟨rfl, h72⟩ := asP_inv h71; clear h71
  obtain ⟨a40, r40, rfl, h73⟩ := asCons_inv h72; clear h72
  obtain ⟨rfl, h74⟩ := asP_inv h73; clear h73
  obtain ⟨rfl, h75⟩ := asNil_inv h74; clear h74
  obtain ⟨a41, r41, rfl, h76⟩ := asCons_inv h75; clear h75
  obtain ⟨s18, rfl, h77⟩ := asRw_inv h76; clear h76
  obtain ⟨a42, r42, rfl, h78⟩ := asCons_inv h77; clear h77
  obtain ⟨s19, rfl, h79⟩ := asRw_inv h78; clear h78
  obtain ⟨a43, r43, rfl, h80⟩ := asCons_inv h79; clear h79
  obtain ⟨s20, rfl, h81⟩ := asRw_inv h80; clear h80
  obtain ⟨a44, r44, rfl, h82⟩ := asCons_inv h81; clear h81
  obtain ⟨s21, rfl, h83⟩ := asRw_inv h82; clear h82
  obtain ⟨a45, r45, rfl, h84⟩ := asCons_inv h83; clear h83
  obtain ⟨s22, rfl, h85⟩ := asRw_inv h84; clear h84
  obtain ⟨rfl, h86⟩ := asNil_inv h85; clear h85
  intro J hJ
  have hp : ∀ c' ∈ subsOf (E.info 19).keep (body Try.f19 12), SubOK E (inlF (PA (ACall E)) E 8) (E.info 19).keep 5 Try.f19.ntmps (lofL Ll19r12v2) c' := all_eq (by kernel_rfl : subsOf (E.info 19).keep (body Try.f19 12) = []) (all_nil)
  exact h86.of (fun s1 s2 s3 s4 s5 s6 s7 s8 s9 s10 s11 s12 s13 s14 s15 s16 s17 s18 s19 s20 s21 s22 => J [(20000012, .undef), (0, .ptr 0 0 []), (2, .vec 4), (8, .ptr 5 0 []), (12, .sl 10 s1 s2 s3 false), (16, .ptr 11 0 []), (17, .vec 16), (65, .d (.sl wLF) s4), (66, I s5), (67, I s6)] [.one (.pair (.sl wIT) (.pair (.sl (.int .i64)) (.pair (.sl (.arr 2 (.int .i64))) .unit))) (.agg [.vec 1, .vec 2, .vec 3]), .row wIT s7 false, .row (.int .i64) s8 false, .row (.arr 2 (.int .i64)) s9 false, .row (.int .i64) s10 false, .one (.pair (.sl (.int .i64)) (.pair (.int .i64) (.pair (.sl (.int .i64)) (.pair (.sl (.pair (.int .i64) (.pair (.int .i64) (.pair (.sl (.int .i64)) (.pair (.int .i64) .unit))))) (.pair (.sl (.pair (.int .i64) (.pair (.int .i64) (.pair (.int .i64) (.pair (.sl (.pair .str wCL)) .unit))))) .unit))))) (.agg [.vec 6, I s11, .vec 7, .vec 8, .vec 9]), .row (.int .i64) s12 false, .row (.int .i64) s13 false, .row (.pair (.int .i64) (.pair (.int .i64) (.pair (.sl (.int .i64)) (.pair (.int .i64) .unit)))) s14 false, .row (.pair (.int .i64) (.pair (.int .i64) (.pair (.int .i64) (.pair (.sl (.pair .str wCL)) .unit)))) s15 false, .row (.int .i64) s16 false, .one (.pair (.sl (.int .i64)) (.pair (.int .i64) (.pair (.sl (.int .i64)) (.pair (.sl (.pair (.int .i64) (.pair (.int .i64) (.pair (.sl (.int .i64)) (.pair (.int .i64) .unit))))) (.pair (.sl (.pair (.int .i64) (.pair (.int .i64) (.pair (.int .i64) (.pair (.sl (.pair .str wCL)) .unit))))) .unit))))) (.agg [.vec 12, I s17, .vec 13, .vec 14, .vec 15]), .row (.int .i64) s18 false, .row (.int .i64) s19 false, .row (.pair (.int .i64) (.pair (.int .i64) (.pair (.sl (.int .i64)) (.pair (.int .i64) .unit)))) s20 false, .row (.pair (.int .i64) (.pair (.int .i64) (.pair (.int .i64) (.pair (.sl (.pair .str wCL)) .unit)))) s21 false, .row (.int .i64) s22 false]) (fun s1 s2 s3 s4 s5 s6 s7 s8 s9 s10 s11 s12 s13 s14 s15 s16 s17 s18 s19 s20 s21 s22 hb => loop_round2 (S := ofL Sl19r12v2) (L := lofL Ll19r12v2) hSl19r12v2 (inlOK _) hp hJ (by kernel_rfl) hb)

abbrev S19 : List (Nat × Pat × Sp) := [(28, none, sp28)]
theorem hS19 : SpecOK E (ofL S19) := specOK_cons h28 (specOK_nil)
abbrev L19 : List (Nat × List Nat × Pat × LSp) := [(20000005, [0, 1, 2, 8, 11, 12, 38, 39, 40], some ([.fix (.ptr 0 0 []), .d (.sl wLF), .fix (.vec 4), .fix (.ptr 5 0 []), .fix (.vec 10), .fix (.vec 11), .fix (.vec 3), .d (.int .i64), .d (.int .i64)], [.one (.pair (.sl wIT) (.pair (.sl (.int .i64)) (.pair (.sl (.arr 2 (.int .i64))) .unit))) (.agg [.fix (.vec 1), .fix (.vec 2), .fix (.vec 3)]), .row wIT false, .row (.int .i64) false, .row (.arr 2 (.int .i64)) false, .row (.int .i64) false, .one (.pair (.sl (.int .i64)) (.pair (.int .i64) (.pair (.sl (.int .i64)) (.pair (.sl (.pair (.int .i64) (.pair (.int .i64) (.pair (.sl (.int .i64)) (.pair (.int .i64) .unit))))) (.pair (.sl (.pair (.int .i64) (.pair (.int .i64) (.pair (.int .i64) (.pair (.sl (.pair .str wCL)) .unit))))) .unit))))) (.agg [.fix (.vec 6), .d (.int .i64), .fix (.vec 7), .fix (.vec 8), .fix (.vec 9)]), .row (.int .i64) false, .row (.int .i64) false, .row (.pair (.int .i64) (.pair (.int .i64) (.pair (.sl (.int .i64)) (.pair (.int .i64) .unit)))) false, .row (.pair (.int .i64) (.pair (.int .i64) (.pair (.int .i64) (.pair (.sl (.pair .str wCL)) .unit)))) false, .row (.int .i64) false, .row (.int .i64) false]), lsl19r5), (20000012, [0, 2, 8, 12, 16, 17, 65, 66, 67], some ([.fix (.ptr 0 0 []), .fix (.vec 4), .fix (.ptr 5 0 []), .fix (.vec 10), .fix (.ptr 11 0 []), .fix (.vec 16), .d (.sl wLF), .d (.int .i64), .d (.int .i64)], [.one (.pair (.sl wIT) (.pair (.sl (.int .i64)) (.pair (.sl (.arr 2 (.int .i64))) .unit))) (.agg [.fix (.vec 1), .fix (.vec 2), .fix (.vec 3)]), .row wIT false, .row (.int .i64) false, .row (.arr 2 (.int .i64)) false, .row (.int .i64) false, .one (.pair (.sl (.int .i64)) (.pair (.int .i64) (.pair (.sl (.int .i64)) (.pair (.sl (.pair (.int .i64) (.pair (.int .i64) (.pair (.sl (.int .i64)) (.pair (.int .i64) .unit))))) (.pair (.sl (.pair (.int .i64) (.pair (.int .i64) (.pair (.int .i64) (.pair (.sl (.pair .str wCL)) .unit))))) .unit))))) (.agg [.fix (.vec 6), .d (.int .i64), .fix (.vec 7), .fix (.vec 8), .fix (.vec 9)]), .row (.int .i64) false, .row (.int .i64) false, .row (.pair (.int .i64) (.pair (.int .i64) (.pair (.sl (.int .i64)) (.pair (.int .i64) .unit)))) false, .row (.pair (.int .i64) (.pair (.int .i64) (.pair (.int .i64) (.pair (.sl (.pair .str wCL)) .unit)))) false, .row (.int .i64) false, .one (.pair (.sl (.int .i64)) (.pair (.int .i64) (.pair (.sl (.int .i64)) (.pair (.sl (.pair (.int .i64) (.pair (.int .i64) (.pair (.sl (.int .i64)) (.pair (.int .i64) .unit))))) (.pair (.sl (.pair (.int .i64) (.pair (.int .i64) (.pair (.int .i64) (.pair (.sl (.pair .str wCL)) .unit))))) .unit))))) (.agg [.fix (.vec 12), .d (.int .i64), .fix (.vec 13), .fix (.vec 14), .fix (.vec 15)]), .row (.int .i64) false, .row (.int .i64) false, .row (.pair (.int .i64) (.pair (.int .i64) (.pair (.sl (.int .i64)) (.pair (.int .i64) .unit)))) false, .row (.pair (.int .i64) (.pair (.int .i64) (.pair (.int .i64) (.pair (.sl (.pair .str wCL)) .unit)))) false, .row (.int .i64) false]), lsl19r12), (20000005, [0, 1, 2, 8, 11, 12, 38, 39, 40], some ([.fix (.ptr 0 0 []), .d (.sl wLF), .fix (.vec 4), .fix (.ptr 5 0 []), .fix (.vec 10), .sl 11 false, .fix (.vec 3), .d (.int .i64), .d (.int .i64)], [.one (.pair (.sl wIT) (.pair (.sl (.int .i64)) (.pair (.sl (.arr 2 (.int .i64))) .unit))) (.agg [.fix (.vec 1), .fix (.vec 2), .fix (.vec 3)]), .row wIT false, .row (.int .i64) false, .row (.arr 2 (.int .i64)) false, .row (.int .i64) false, .one (.pair (.sl (.int .i64)) (.pair (.int .i64) (.pair (.sl (.int .i64)) (.pair (.sl (.pair (.int .i64) (.pair (.int .i64) (.pair (.sl (.int .i64)) (.pair (.int .i64) .unit))))) (.pair (.sl (.pair (.int .i64) (.pair (.int .i64) (.pair (.int .i64) (.pair (.sl (.pair .str wCL)) .unit))))) .unit))))) (.agg [.fix (.vec 6), .d (.int .i64), .fix (.vec 7), .fix (.vec 8), .fix (.vec 9)]), .row (.int .i64) false, .row (.int .i64) false, .row (.pair (.int .i64) (.pair (.int .i64) (.pair (.sl (.int .i64)) (.pair (.int .i64) .unit)))) false, .row (.pair (.int .i64) (.pair (.int .i64) (.pair (.int .i64) (.pair (.sl (.pair .str wCL)) .unit)))) false, .row (.int .i64) false, .row (.int .i64) false]), lsl19r5v2), (20000012, [0, 2, 8, 12, 16, 17, 65, 66, 67], some ([.fix (.ptr 0 0 []), .fix (.vec 4), .fix (.ptr 5 0 []), .sl 10 false, .fix (.ptr 11 0 []), .fix (.vec 16), .d (.sl wLF), .d (.int .i64), .d (.int .i64)], [.one (.pair (.sl wIT) (.pair (.sl (.int .i64)) (.pair (.sl (.arr 2 (.int .i64))) .unit))) (.agg [.fix (.vec 1), .fix (.vec 2), .fix (.vec 3)]), .row wIT false, .row (.int .i64) false, .row (.arr 2 (.int .i64)) false, .row (.int .i64) false, .one (.pair (.sl (.int .i64)) (.pair (.int .i64) (.pair (.sl (.int .i64)) (.pair (.sl (.pair (.int .i64) (.pair (.int .i64) (.pair (.sl (.int .i64)) (.pair (.int .i64) .unit))))) (.pair (.sl (.pair (.int .i64) (.pair (.int .i64) (.pair (.int .i64) (.pair (.sl (.pair .str wCL)) .unit))))) .unit))))) (.agg [.fix (.vec 6), .d (.int .i64), .fix (.vec 7), .fix (.vec 8), .fix (.vec 9)]), .row (.int .i64) false, .row (.int .i64) false, .row (.pair (.int .i64) (.pair (.int .i64) (.pair (.sl (.int .i64)) (.pair (.int .i64) .unit)))) false, .row (.pair (.int .i64) (.pair (.int .i64) (.pair (.int .i64) (.pair (.sl (.pair .str wCL)) .unit)))) false, .row (.int .i64) false, .one (.pair (.sl (.int .i64)) (.pair (.int .i64) (.pair (.sl (.int .i64)) (.pair (.sl (.pair (.int .i64) (.pair (.int .i64) (.pair (.sl (.int .i64)) (.pair (.int .i64) .unit))))) (.pair (.sl (.pair (.int .i64) (.pair (.int .i64) (.pair (.int .i64) (.pair (.sl (.pair .str wCL)) .unit))))) .unit))))) (.agg [.fix (.vec 12), .d (.int .i64), .fix (.vec 13), .fix (.vec 14), .fix (.vec 15)]), .row (.int .i64) false, .row (.int .i64) false, .row (.pair (.int .i64) (.pair (.int .i64) (.pair (.sl (.int .i64)) (.pair (.int .i64) .unit)))) false, .row (.pair (.int .i64) (.pair (.int .i64) (.pair (.int .i64) (.pair (.sl (.pair .str wCL)) .unit)))) false, .row (.int .i64) false]), lsl19r12v2)]
def sp19 : Sp := fun args τ K => asCons args fun a1 r1 => asP (.ptr 0 0 []) a1 <| asCons r1 fun a2 r2 => asD (.sl wLF) a2 fun x1 => asCons r2 fun a3 r3 => asP (.vec 4) a3 <| asCons r3 fun a4 r4 => asD .bool a4 fun x2 => asNil r4 <| asCons τ fun a5 r5 => asOne (.pair (.sl wIT) (.pair (.sl (.int .i64)) (.pair (.sl (.arr 2 (.int .i64))) .unit))) a5 fun a6 => asAgL a6 fun l7 => asCons l7 fun a8 r8 => asP (.vec 1) a8 <| asCons r8 fun a9 r9 => asP (.vec 2) a9 <| asCons r9 fun a10 r10 => asP (.vec 3) a10 <| asNil r10 <| asCons r5 fun a11 r11 => asRw wIT false a11 fun x3 => asCons r11 fun a12 r12 => asRw (.int .i64) false a12 fun x4 => asCons r12 fun a13 r13 => asRw (.arr 2 (.int .i64)) false a13 fun x5 => asCons r13 fun a14 r14 => asRw (.int .i64) false a14 fun x6 => asNil r14 <| c19 x1 x2 x3 x4 x5 x6 (fun z1 z2 z3 z4 z5 z6 z7 z8 z9 z10 z11 => K (.tup [.agg [.vec 5, I z1, .vec 6, .vec 7, .vec 8], .vec 9, I z2]) [.one (.pair (.sl wIT) (.pair (.sl (.int .i64)) (.pair (.sl (.arr 2 (.int .i64))) .unit))) (.agg [.vec 1, .vec 2, .vec 3]), .row wIT z3 false, .row (.int .i64) z4 false, .row (.arr 2 (.int .i64)) z5 false, .row (.int .i64) z6 false, .row (.int .i64) z7 false, .row (.int .i64) z8 false, .row (.pair (.int .i64) (.pair (.int .i64) (.pair (.sl (.int .i64)) (.pair (.int .i64) .unit)))) z9 false, .row (.pair (.int .i64) (.pair (.int .i64) (.pair (.int .i64) (.pair (.sl (.pair .str wCL)) .unit)))) z10 false, .row (.int .i64) z11 false])
theorem h19 : ∀ args τ K, sp19 args τ K → ACall E 19 args τ K := by
  intro args τ K h0
  unfold sp19 at h0
  obtain ⟨a1, r1, rfl, h1⟩ := asCons_inv h0; clear h0
  obtain ⟨rfl, h2⟩ := asP_inv h1; clear h1
  obtain ⟨a2, r2, rfl, h3⟩ := asCons_inv h2; clear h2
  obtain ⟨x1, rfl, h4⟩ := asD_inv h3; clear h3
  obtain ⟨a3, r3, rfl, h5⟩ := asCons_inv h4; clear h4
  obtain ⟨rfl, h6⟩ := asP_inv h5; clear h5
  obtain ⟨a4, r4, rfl, h7⟩ := asCons_inv h6; clear h6
  obtain ⟨x2, rfl, h8⟩ := asD_inv h7; clear h7
  obtain ⟨rfl, h9⟩ := asNil_inv h8; clear h8
  obtain ⟨a5, r5, rfl, h10⟩ := asCons_inv h9; clear h9
  obtain ⟨a6, rfl, h11⟩ := asOne_inv h10; clear h10
  obtain ⟨l7, rfl, h12⟩ := asAgL_inv h11; clear h11
  obtain ⟨a8, r8, rfl, h13⟩ := asCons_inv h12; clear h12
  obtain ⟨rfl, h14⟩ := asP_inv h13; clear h13
  obtain ⟨a9, r9, rfl, h15⟩ := asCons_inv h14; clear h14
  obtain ⟨rfl, h16⟩ := asP_inv h15; clear h15
  obtain ⟨a10, r10, rfl, h17⟩ := asCons_inv h16; clear h16
  obtain ⟨rfl, h18⟩ := asP_inv h17; clear h17
  obtain ⟨rfl, h19⟩ := asNil_inv h18; clear h18
  obtain ⟨a11, r11, rfl, h20⟩ := asCons_inv h19; clear h19
  obtain ⟨x3, rfl, h21⟩ := asRw_inv h20; clear h20
  obtain ⟨a12, r12, rfl, h22⟩ := asCons_inv h21; clear h21
  obtain ⟨x4, rfl, h23⟩ := asRw_inv h22; clear h22
  obtain ⟨a13, r13, rfl, h24⟩ := asCons_inv h23; clear h23
  obtain ⟨x5, rfl, h25⟩ := asRw_inv h24; clear h24
  obtain ⟨a14, r14, rfl, h26⟩ := asCons_inv h25; clear h25
  obtain ⟨x6, rfl, h27⟩ := asRw_inv h26; clear h26
  obtain ⟨rfl, h28⟩ := asNil_inv h27; clear h27
  exact ACall.spec2 (fn := Try.f19) (c := codeOf Try.f19) (S := ofL S19) (L := lofL L19) hS19 (by kernel_rfl) (by kernel_rfl) (inlOK _) (all_eq (by kernel_rfl : subsOf (E.info 19).keep (codeOf Try.f19) = [.loop (body Try.f19 5), .loop (body Try.f19 12)]) (all_cons (loopOK_of (mk := 20000005) (sl := [0, 1, 2, 8, 11, 12, 38, 39, 40]) (ss := [([0, 1, 2, 8, 11, 12, 38, 39, 40], lsl19r5), ([0, 1, 2, 8, 11, 12, 38, 39, 40], lsl19r5v2)]) (by kernel_rfl) (by kernel_rfl) (all_cons l19r5v (all_cons l19r5v2v (all_nil)))) (all_cons (loopOK_of (mk := 20000012) (sl := [0, 2, 8, 12, 16, 17, 65, 66, 67]) (ss := [([0, 2, 8, 12, 16, 17, 65, 66, 67], lsl19r12), ([0, 2, 8, 12, 16, 17, 65, 66, 67], lsl19r12v2)]) (by kernel_rfl) (by kernel_rfl) (all_cons l19r12v (all_cons l19r12v2v (all_nil)))) (all_nil)))) (by kernel_rfl) h28.of

abbrev S8 : List (Nat × Pat × Sp) := [(6, none, sp6), (19, none, sp19)]
theorem hS8 : SpecOK E (ofL S8) := specOK_cons h6 (specOK_cons h19 (specOK_nil))
abbrev L8 : List (Nat × List Nat × Pat × LSp) := [(9000007, [0, 1, 2, 3, 8, 31, 32, 33], none, lsl8r7), (9000016, [0, 1, 2, 3, 8, 14, 71, 72, 73], none, lsl8r16), (9000025, [0, 1, 3, 8, 14, 124, 125, 126], none, lsl8r25)]
def sp8 : Sp := fun args τ K => asCons args fun a1 r1 => asD (.sl wLF) a1 fun x1 => asCons r1 fun a2 r2 => asP (.vec 0) a2 <| asCons r2 fun a3 r3 => asD (.int .i64) a3 fun x2 => asCons r3 fun a4 r4 => asD .bool a4 fun x3 => asNil r4 <| asCons τ fun a5 r5 => asRw (.int .i64) false a5 fun x4 => asNil r5 <| c8 x1 x2 x3 x4 (fun z1 z2 z3 z4 z5 z6 z7 z8 => K (.tup [.agg [.vec 1, I z1, .vec 2, .vec 3, .vec 4], .vec 5, I z2]) [.row (.int .i64) z3 false, .row (.int .i64) z4 false, .row (.int .i64) z5 false, .row (.pair (.int .i64) (.pair (.int .i64) (.pair (.sl (.int .i64)) (.pair (.int .i64) .unit)))) z6 false, .row (.pair (.int .i64) (.pair (.int .i64) (.pair (.int .i64) (.pair (.sl (.pair .str wCL)) .unit)))) z7 false, .row (.int .i64) z8 false])
theorem h8 : ∀ args τ K, sp8 args τ K → ACall E 8 args τ K := by
  intro args τ K h0
  unfold sp8 at h0
  obtain ⟨a1, r1, rfl, h1⟩ := asCons_inv h0; clear h0
  obtain ⟨x1, rfl, h2⟩ := asD_inv h1; clear h1
  obtain ⟨a2, r2, rfl, h3⟩ := asCons_inv h2; clear h2
  obtain ⟨rfl, h4⟩ := asP_inv h3; clear h3
  obtain ⟨a3, r3, rfl, h5⟩ := asCons_inv h4; clear h4
  obtain ⟨x2, rfl, h6⟩ := asD_inv h5; clear h5
  obtain ⟨a4, r4, rfl, h7⟩ := asCons_inv h6; clear h6
  obtain ⟨x3, rfl, h8⟩ := asD_inv h7; clear h7
  obtain ⟨rfl, h9⟩ := asNil_inv h8; clear h8
  obtain ⟨a5, r5, rfl, h10⟩ := asCons_inv h9; clear h9
  obtain ⟨x4, rfl, h11⟩ := asRw_inv h10; clear h10
  obtain ⟨rfl, h12⟩ := asNil_inv h11; clear h11
  exact ACall.spec2 (fn := Try.f8) (c := codeOf Try.f8) (S := ofL S8) (L := lofL L8) hS8 (by kernel_rfl) (by kernel_rfl) (inlOK _) (all_eq (by kernel_rfl : subsOf (E.info 8).keep (codeOf Try.f8) = [.loop (body Try.f8 7), .loop (body Try.f8 16), .loop (body Try.f8 25)]) (all_cons (loopOK_of (mk := 9000007) (sl := [0, 1, 2, 3, 8, 31, 32, 33]) (ss := [([0, 1, 2, 3, 8, 31, 32, 33], lsl8r7)]) (by kernel_rfl) (by kernel_rfl) (all_cons l8r7v (all_nil))) (all_cons (loopOK_of (mk := 9000016) (sl := [0, 1, 2, 3, 8, 14, 71, 72, 73]) (ss := [([0, 1, 2, 3, 8, 14, 71, 72, 73], lsl8r16)]) (by kernel_rfl) (by kernel_rfl) (all_cons l8r16v (all_nil))) (all_cons (loopOK_of (mk := 9000025) (sl := [0, 1, 3, 8, 14, 124, 125, 126]) (ss := [([0, 1, 3, 8, 14, 124, 125, 126], lsl8r25)]) (by kernel_rfl) (by kernel_rfl) (all_cons l8r25v (all_nil))) (all_nil))))) (by kernel_rfl) h12.of

abbrev Sl9r5 : List (Nat × Pat × Sp) := []
theorem hSl9r5 : SpecOK E (ofL Sl9r5) := specOK_nil
abbrev Ll9r5 : List (Nat × List Nat × Pat × LSp) := []
def lsl9r5 : LSp := fun vs σ K => asCons vs fun a1 r1 => asD (.sl wLF) a1 fun s1 => asCons r1 fun a2 r2 => asP (.vec 0) a2 <| asCons r2 fun a3 r3 => asD (.int .i64) a3 fun s2 => asCons r3 fun a4 r4 => asD .bool a4 fun s3 => asCons r4 fun a5 r5 => asP (.ptr 1 0 []) a5 <| asCons r5 fun a6 r6 => asP (.vec 6) a6 <| asCons r6 fun a7 r7 => asP (.vec 7) a7 <| asCons r7 fun a8 r8 => asD (.int .i64) a8 fun s4 => asCons r8 fun a9 r9 => asD (.sl wLF) a9 fun s5 => asCons r9 fun a10 r10 => asD (.int .i64) a10 fun s6 => asCons r10 fun a11 r11 => asD (.int .i64) a11 fun s7 => asNil r11 <| asCons σ fun a12 r12 => asRw (.int .i64) false a12 fun s8 => asCons r12 fun a13 r13 => asOne (.pair (.sl (.int .i64)) (.pair (.int .i64) (.pair (.sl (.int .i64)) (.pair (.sl (.pair (.int .i64) (.pair (.int .i64) (.pair (.sl (.int .i64)) (.pair (.int .i64) .unit))))) (.pair (.sl (.pair (.int .i64) (.pair (.int .i64) (.pair (.int .i64) (.pair (.sl (.pair .str wCL)) .unit))))) .unit))))) a13 fun a14 => asAgL a14 fun l15 => asCons l15 fun a16 r16 => asP (.vec 2) a16 <| asCons r16 fun a17 r17 => asD (.int .i64) a17 fun s9 => asCons r17 fun a18 r18 => asP (.vec 3) a18 <| asCons r18 fun a19 r19 => asP (.vec 4) a19 <| asCons r19 fun a20 r20 => asP (.vec 5) a20 <| asNil r20 <| asCons r13 fun a21 r21 => asRw (.int .i64) false a21 fun s10 => asCons r21 fun a22 r22 => asRw (.int .i64) false a22 fun s11 => asCons r22 fun a23 r23 => asRw (.pair (.int .i64) (.pair (.int .i64) (.pair (.sl (.int .i64)) (.pair (.int .i64) .unit)))) false a23 fun s12 => asCons r23 fun a24 r24 => asRw (.pair (.int .i64) (.pair (.int .i64) (.pair (.int .i64) (.pair (.sl (.pair .str wCL)) .unit)))) false a24 fun s13 => asCons r24 fun a25 r25 => asRw wIT false a25 fun s14 => asCons r25 fun a26 r26 => asRw (.int .i64) false a26 fun s15 => asNil r26 <| l9r5 (fun z1 z2 z3 z4 z5 z6 z7 z8 z9 z10 z11 => K (.exit 0) [(0, .d (.sl wLF) z1), (1, .vec 0), (2, I z2), (3, B z3), (8, .ptr 1 0 []), (11, .vec 6), (12, .vec 7)] [.row (.int .i64) z4 false, .one (.pair (.sl (.int .i64)) (.pair (.int .i64) (.pair (.sl (.int .i64)) (.pair (.sl (.pair (.int .i64) (.pair (.int .i64) (.pair (.sl (.int .i64)) (.pair (.int .i64) .unit))))) (.pair (.sl (.pair (.int .i64) (.pair (.int .i64) (.pair (.int .i64) (.pair (.sl (.pair .str wCL)) .unit))))) .unit))))) (.agg [.vec 2, I z5, .vec 3, .vec 4, .vec 5]), .row (.int .i64) z6 false, .row (.int .i64) z7 false, .row (.pair (.int .i64) (.pair (.int .i64) (.pair (.sl (.int .i64)) (.pair (.int .i64) .unit)))) z8 false, .row (.pair (.int .i64) (.pair (.int .i64) (.pair (.int .i64) (.pair (.sl (.pair .str wCL)) .unit)))) z9 false, .row wIT z10 false, .row (.int .i64) z11 false]) s1 s2 s3 s4 s5 s6 s7 s8 s9 s10 s11 s12 s13 s14 s15
theorem l9r5v : LoopV E (inlF (PA (ACall E)) E 8) (E.info 9).keep 1 Try.f9.ntmps 10000005 (body Try.f9 5) ([0, 1, 2, 3, 8, 11, 12, 13, 44, 45, 46], lsl9r5) := by
  intro vs σ K (h0 : lsl9r5 vs σ K)
  unfold lsl9r5 at h0
  obtain ⟨a1, r1, rfl, h1⟩ := asCons_inv h0; clear h0
  obtain ⟨s1, rfl, h2⟩ := asD_inv h1; clear h1
  obtain ⟨a2, r2, rfl, h3⟩ := asCons_inv h2; clear h2
  obtain ⟨rfl, h4⟩ := asP_inv h3; clear h3
  obtain ⟨a3, r3, rfl, h5⟩ := asCons_inv h4; clear h4
  obtain ⟨s2, rfl, h6⟩ := asD_inv h5; clear h5
  obtain ⟨a4, r4, rfl, h7⟩ := asCons_inv h6; clear h6
  obtain ⟨s3, rfl, h8⟩ := asD_inv h7; clear h7
  obtain ⟨a5, r5, rfl, h9⟩ := asCons_inv h8; clear h8
  obtain ⟨rfl, h10⟩ := asP_inv h9; clear h9
  obtain ⟨a6, r6, rfl, h11⟩ := asCons_inv h10; clear h10
  obtain ⟨rfl, h12⟩ := asP_inv h11; clear h11
  obtain ⟨a7, r7, rfl, h13⟩ := asCons_inv h12; clear h12
  obtain ⟨rfl, h14⟩ := asP_inv h13; clear h13
  obtain ⟨a8, r8, rfl, h15⟩ := asCons_inv h14; clear h14
  obtain ⟨s4, rfl, h16⟩ := asD_inv h15; clear h15
  obtain ⟨a9, r9, rfl, h17⟩ := asCons_inv h16; clear h16
  obtain ⟨s5, rfl, h18⟩ := asD_inv h17; clear h17
  obtain ⟨a10, r10, rfl, h19⟩ := asCons_inv h18; clear h18
  obtain ⟨s6, rfl, h20⟩ := asD_inv h19; clear h19
  obtain ⟨a11, r11, rfl, h21⟩ := asCons_inv h20; clear h20
  obtain ⟨s7, rfl, h22⟩ := asD_inv h21; clear h21
  obtain ⟨rfl, h23⟩ := asNil_inv h22; clear h22
  obtain ⟨a12, r12, rfl, h24⟩ := asCons_inv h23; clear h23
  obtain ⟨s8, rfl, h25⟩ := asRw_inv h24; clear h24
  obtain ⟨a13, r13, rfl, h26⟩ := asCons_inv h25; clear h25
  obtain ⟨a14, rfl, h27⟩ := asOne_inv h26; clear h26
  obtain ⟨l15, rfl, h28⟩ := asAgL_inv h27; clear h27
  obtain ⟨a16, r16, rfl, h29⟩ := asCons_inv h28; clear h28
  obtain ⟨rfl, h30⟩ := asP_inv h29; clear h29
  obtain ⟨a17, r17, rfl, h31⟩ := asCons_inv h30; clear h30
  obtain ⟨s9, rfl, h32⟩ := asD_inv h31; clear h31
  obtain ⟨a18, r18, rfl, h33⟩ := asCons_inv h32; clear h32
  obtain ⟨rfl, h34⟩ := asP_inv h33; clear h33
  obtain ⟨a19, r19, rfl, h35⟩ := asCons_inv h34; clear h34
  obtain ⟨rfl, h36⟩ := asP_inv h35; clear h35
  obtain ⟨a20, r20, rfl, h37⟩ := asCons_inv h36; clear h36
  obtain ⟨rfl, h38⟩ := asP_inv h37; clear h37
  obtain ⟨rfl, h39⟩ := asNil_inv h38; clear h38
  obtain ⟨a21, r21, rfl, h40⟩ := asCons_inv h39; clear h39
  obtain ⟨s10, rfl, h41⟩ := asRw_inv h40; clear h40
  obtain ⟨a22, r22, rfl, h42⟩ := asCons_inv h41; clear h41
  obtain ⟨s11, rfl, h43⟩ := asRw_inv h42; clear h42
  obtain ⟨a23, r23, rfl, h44⟩ := asCons_inv h43; clear h43
  obtain ⟨s12, rfl, h45⟩ := asRw_inv h44; clear h44
  obtain ⟨a24, r24, rfl, h46⟩ := asCons_inv h45; clear h45
  obtain ⟨s13, rfl, h47⟩ := asRw_inv h46; clear h46
  obtain ⟨a25, r25, rfl, h48⟩ := asCons_inv h47; clear h47
  obtain ⟨s14, rfl, h49⟩ := asRw_inv h48; clear h48
  obtain ⟨a26, r26, rfl, h50⟩ := asCons_inv h49; clear h49
  obtain ⟨s15, rfl, h51⟩ := asRw_inv h50; clear h50
  obtain ⟨rfl, h52⟩ := asNil_inv h51; clear h51
  intro J hJ
  have hp : ∀ c' ∈ subsOf (E.info 9).keep (body Try.f9 5), SubOK E (inlF (PA (ACall E)) E 8) (E.info 9).keep 1 Try.f9.ntmps (lofL Ll9r5) c' := all_eq (by kernel_rfl : subsOf (E.info 9).keep (body Try.f9 5) = []) (all_nil)
  exact h52.of (fun s1 s2 s3 s4 s5 s6 s7 s8 s9 s10 s11 s12 s13 s14 s15 => J [(10000005, .undef), (0, .d (.sl wLF) s1), (1, .vec 0), (2, I s2), (3, B s3), (8, .ptr 1 0 []), (11, .vec 6), (12, .vec 7), (13, I s4), (44, .d (.sl wLF) s5), (45, I s6), (46, I s7)] [.row (.int .i64) s8 false, .one (.pair (.sl (.int .i64)) (.pair (.int .i64) (.pair (.sl (.int .i64)) (.pair (.sl (.pair (.int .i64) (.pair (.int .i64) (.pair (.sl (.int .i64)) (.pair (.int .i64) .unit))))) (.pair (.sl (.pair (.int .i64) (.pair (.int .i64) (.pair (.int .i64) (.pair (.sl (.pair .str wCL)) .unit))))) .unit))))) (.agg [.vec 2, I s9, .vec 3, .vec 4, .vec 5]), .row (.int .i64) s10 false, .row (.int .i64) s11 false, .row (.pair (.int .i64) (.pair (.int .i64) (.pair (.sl (.int .i64)) (.pair (.int .i64) .unit)))) s12 false, .row (.pair (.int .i64) (.pair (.int .i64) (.pair (.int .i64) (.pair (.sl (.pair .str wCL)) .unit)))) s13 false, .row wIT s14 false, .row (.int .i64) s15 false]) (fun s1 s2 s3 s4 s5 s6 s7 s8 s9 s10 s11 s12 s13 s14 s15 hb => loop_round2 (S := ofL Sl9r5) (L := lofL Ll9r5) hSl9r5 (inlOK _) hp hJ (by kernel_rfl) hb)

abbrev Sl9r23 : List (Nat × Pat × Sp) := []
theorem hSl9r23 : SpecOK E (ofL Sl9r23) := specOK_nil
abbrev Ll9r23 : List (Nat × List Nat × Pat × LSp) := []
def lsl9r23 : LSp := fun vs σ K => asCons vs fun a1 r1 => asD (.sl wLF) a1 fun s1 => asCons r1 fun a2 r2 => asP (.vec 0) a2 <| asCons r2 fun a3 r3 => asD .bool a3 fun s2 => asCons r3 fun a4 r4 => asP (.ptr 1 0 []) a4 <| asCons r4 fun a5 r5 => asP (.vec 6) a5 <| asCons r5 fun a6 r6 => asP (.vec 7) a6 <| asCons r6 fun a7 r7 => asP (.vec 8) a7 <| asCons r7 fun a8 r8 => asD (.int .i64) a8 fun s3 => asCons r8 fun a9 r9 => asP (.ptr 9 0 []) a9 <| asCons r9 fun a10 r10 => asD (.int .i64) a10 fun s4 => asCons r10 fun a11 r11 => asP (.ptr 10 0 []) a11 <| asCons r11 fun a12 r12 => asD (.sl wLF) a12 fun s5 => asCons r12 fun a13 r13 => asD (.int .i64) a13 fun s6 => asCons r13 fun a14 r14 => asD (.int .i64) a14 fun s7 => asCons r14 fun a15 r15 => asD (.sl wIT) a15 fun s8 => asCons r15 fun a16 r16 => asD (.int .i64) a16 fun s9 => asCons r16 fun a17 r17 => asD (.int .i64) a17 fun s10 => asCons r17 fun a18 r18 => asD (.sl wCL) a18 fun s11 => asCons r18 fun a19 r19 => asD (.int .i64) a19 fun s12 => asCons r19 fun a20 r20 => asD (.int .i64) a20 fun s13 => asNil r20 <| asCons σ fun a21 r21 => asRw (.int .i64) false a21 fun s14 => asCons r21 fun a22 r22 => asOne (.pair (.sl (.int .i64)) (.pair (.int .i64) (.pair (.sl (.int .i64)) (.pair (.sl (.pair (.int .i64) (.pair (.int .i64) (.pair (.sl (.int .i64)) (.pair (.int .i64) .unit))))) (.pair (.sl (.pair (.int .i64) (.pair (.int .i64) (.pair (.int .i64) (.pair (.sl (.pair .str wCL)) .unit))))) .unit))))) a22 fun a23 => asAgL a23 fun l24 => asCons l24 fun a25 r25 => asP (.vec 2) a25 <| asCons r25 fun a26 r26 => asD (.int .i64) a26 fun s15 => asCons r26 fun a27 r27 => asP (.vec 3) a27 <| asCons r27 fun a28 r28 => asP (.vec 4) a28 <| asCons r28 fun a29 r29 => asP (.vec 5) a29 <| asNil r29 <| asCons r22 fun a30 r30 => asRw (.int .i64) false a30 fun s16 => asCons r30 fun a31 r31 => asRw (.int .i64) false a31 fun s17 => asCons r31 fun a32 r32 => asRw (.pair (.int .i64) (.pair (.int .i64) (.pair (.sl (.int .i64)) (.pair (.int .i64) .unit)))) false a32 fun s18 => asCons r32 fun a33 r33 => asRw (.pair (.int .i64) (.pair (.int .i64) (.pair (.int .i64) (.pair (.sl (.pair .str wCL)) .unit)))) false a33 fun s19 => asCons r33 fun a34 r34 => asRw wIT false a34 fun s20 => asCons r34 fun a35 r35 => asRw (.int .i64) false a35 fun s21 => asCons r35 fun a36 r36 => asRw wCL false a36 fun s22 => asCons r36 fun a37 r37 => asOne wLF a37 fun a38 => asD wLF a38 fun s23 => asCons r37 fun a39 r39 => asOne wIT a39 fun a40 => asD wIT a40 fun s24 => asNil r39 <| l9r23 (fun z1 z2 z3 z4 z5 z6 z7 z8 z9 z10 z11 z12 z13 z14 z15 z16 z17 z18 z19 z20 => K (.exit 6) [(0, .d (.sl wLF) z1), (1, .vec 0), (3, B z2), (8, .ptr 1 0 []), (11, .vec 6), (12, .vec 7), (16, .vec 8), (17, I z3), (18, .ptr 9 0 []), (20, .ptr 10 0 []), (77, .d (.sl wLF) z4), (78, I z5), (79, I z6), (91, .d (.sl wIT) z7), (92, I z8), (93, I z9)] [.row (.int .i64) z10 false, .one (.pair (.sl (.int .i64)) (.pair (.int .i64) (.pair (.sl (.int .i64)) (.pair (.sl (.pair (.int .i64) (.pair (.int .i64) (.pair (.sl (.int .i64)) (.pair (.int .i64) .unit))))) (.pair (.sl (.pair (.int .i64) (.pair (.int .i64) (.pair (.int .i64) (.pair (.sl (.pair .str wCL)) .unit))))) .unit))))) (.agg [.vec 2, I z11, .vec 3, .vec 4, .vec 5]), .row (.int .i64) z12 false, .row (.int .i64) z13 false, .row (.pair (.int .i64) (.pair (.int .i64) (.pair (.sl (.int .i64)) (.pair (.int .i64) .unit)))) z14 false, .row (.pair (.int .i64) (.pair (.int .i64) (.pair (.int .i64) (.pair (.sl (.pair .str wCL)) .unit)))) z15 false, .row wIT z16 false, .row (.int .i64) z17 false, .row wCL z18 false, .one wLF (.d wLF z19), .one wIT (.d wIT z20)]) s1 s2 s3 s4 s5 s6 s7 s8 s9 s10 s11 s12 s13 s14 s15 s16 s17 s18 s19 s20 s21 s22 s23 s24
theorem l9r23v : LoopV E (inlF (PA (ACall E)) E 8) (E.info 9).keep 1 Try.f9.ntmps 10000023 (body Try.f9 23) ([0, 1, 3, 8, 11, 12, 16, 17, 18, 19, 20, 77, 78, 79, 91, 92, 93, 110, 111, 112], lsl9r23) := by
  intro vs σ K (h0 : lsl9r23 vs σ K)
  unfold lsl9r23 at h0
  obtain ⟨a1, r1, rfl, h1⟩ := asCons_inv h0; clear h0
  obtain ⟨s1, rfl, h2⟩ := asD_inv h1; clear h1
  obtain ⟨a2, r2, rfl, h3⟩ := asCons_inv h2; clear h2
  obtain ⟨rfl, h4⟩ := asP_inv h3; clear h3
  obtain ⟨a3, r3, rfl, h5⟩ := asCons_inv h4; clear h4
  obtain ⟨s2, rfl, h6⟩ := asD_inv h5; clear h5
  obtain ⟨a4, r4, rfl, h7⟩ := asCons_inv h6; clear h6
  obtain ⟨rfl, h8⟩ := asP_inv h7; clear h7
  obtain ⟨a5, r5, rfl, h9⟩ := asCons_inv h8; clear h8
  obtain ⟨rfl, h10⟩ := asP_inv h9; clear h9
  obtain ⟨a6, r6, rfl, h11⟩ := asCons_inv h10; clear h10
  obtain ⟨rfl, h12⟩ := asP_inv h11; clear h11
  obtain ⟨a7, r7, rfl, h13⟩ := asCons_inv h12; clear h12
  obtain ⟨rfl, h14⟩ := asP_inv h13; clear h13
  obtain ⟨a8, r8, rfl, h15⟩ := asCons_inv h14; clear h14
  obtain ⟨s3, rfl, h16⟩ := asD_inv h15; clear h15
  obtain ⟨a9, r9, rfl, h17⟩ := asCons_inv h16; clear h16
  obtain ⟨rfl, h18⟩ := asP_inv h17; clear h17
  obtain ⟨a10, r10, rfl, h19⟩ := asCons_inv h18; clear h18
  obtain ⟨s4, rfl, h20⟩ := asD_inv h19; clear h19
  obtain ⟨a11, r11, rfl, h21⟩ := asCons_inv h20; clear h20
  obtain ⟨rfl, h22⟩ := asP_inv h21; clear h21
  obtain ⟨a12, r12, rfl, h23⟩ := asCons_inv h22; clear h22
  obtain ⟨s5, rfl, h24⟩ := asD_inv h23; clear h23
  obtain ⟨a13, r13, rfl, h25⟩ := asCons_inv h24; clear h24
  obtain ⟨s6, rfl, h26⟩ := asD_inv h25; clear h25
  obtain ⟨a14, r14, rfl, h27⟩ := asCons_inv h26; clear h26
  obtain ⟨s7, rfl, h28⟩ := asD_inv h27; clear h27
  obtain ⟨a15, r15, rfl, h29⟩ := asCons_inv h28; clear h28
  obtain ⟨s8, rfl, h30⟩ := asD_inv h29; clear h29
  obtain ⟨a16, r16, rfl, h31⟩ := asCons_inv h30; clear h30
  obtain ⟨s9, rfl, h32⟩ := asD_inv h31; clear h31
  obtain ⟨a17, r17, rfl, h33⟩ := asCons_inv h32; clear h32
  obtain ⟨s10, rfl, h34⟩ := asD_inv h33; clear h33
  obtain ⟨a18, r18, rfl, h35⟩ := asCons_inv h34; clear h34
  obtain ⟨s11, rfl, h36⟩ := asD_inv h35; clear h35
  obtain ⟨a19, r19, rfl, h37⟩ := asCons_inv h36; clear h36
  obtain ⟨s12, rfl, h38⟩ := asD_inv h37; clear h37
  obtain ⟨a20, r20, rfl, h39⟩ := asCons_inv h38; clear h38
  obtain ⟨s13, rfl, h40⟩ := asD_inv h39; clear h39
  obtain ⟨rfl, h41⟩ := asNil_inv h40; clear h40
  obtain ⟨a21, r21, rfl, h42⟩ := asCons_inv h41; clear h41
  obtain ⟨s14, rfl, h43⟩ := asRw_inv h42; clear h42
  obtain ⟨a22, r22, rfl, h44⟩ := asCons_inv h43; clear h43
  obtain ⟨a23, rfl, h45⟩ := asOne_inv h44; clear h44
  obtain ⟨l24, rfl, h46⟩ := asAgL_inv h45; clear h45
  obtain ⟨a25, r25, rfl, h47⟩ := asCons_inv h46; clear h46
  obtain ⟨rfl, h48⟩ := asP_inv h47; clear h47
  obtain ⟨a26, r26, rfl, h49⟩ := asCons_inv h48; clear h48
  obtain ⟨s15, rfl, h50⟩ := asD_inv h49; clear h49
  obtain ⟨a27, r27, rfl, h51⟩ := asCons_inv h50; clear h50
  obtain ⟨rfl, h52⟩ := asP_inv h51; clear h51
  obtain ⟨a28, r28, rfl, h53⟩ := asCons_inv h52; clear h52
  obtain ⟨rfl, h54⟩ := asP_inv h53; clear h53
  obtain ⟨a29, r29, rfl, h55⟩ := asCons_inv h54; clear h54
  obtain ⟨rfl, h56⟩ := asP_inv h55; clear h55
  obtain ⟨rfl, h57⟩ := asNil_inv h56; clear h56
  obtain ⟨a30, r30, rfl, h58⟩ := asCons_inv h57; clear h57
  obtain ⟨s16, rfl, h59⟩ := asRw_inv h58; clear h58
  obtain ⟨a31, r31, rfl, h60⟩ := asCons_inv h59; clear h59
  obtain ⟨s17, rfl, h61⟩ := asRw_inv h60; clear h60
  obtain ⟨a32, r32, rfl, h62⟩ := asCons_inv h61; clear h61
  obtain ⟨s18, rfl, h63⟩ := asRw_inv h62; clear h62
  obtain ⟨a33, r33, rfl, h64⟩ := asCons_inv h63; clear h63
  obtain ⟨s19, rfl, h65⟩ := asRw_inv h64; clear h64
  obtain ⟨a34, r34, rfl, h66⟩ := asCons_inv h65; clear h65
  obtain ⟨s20, rfl, h67⟩ := asRw_inv h66; clear h66
  obtain ⟨a35, r35, rfl, h68⟩ := asCons_inv h67; clear h67
  obtain ⟨s21, rfl, h69⟩ := asRw_inv h68; clear h68
  obtain ⟨a36, r36, rfl, h70⟩ := asCons_inv h69; clear h69
  obtain ⟨s22, rfl, h71⟩ := asRw_inv h70; clear h70
  obtain ⟨a37, r37, rfl, h72⟩ := asCons_inv h71; clear h71
  obtain ⟨a38, rfl, h73⟩ := asOne_inv h72; clear h72
  obtain ⟨s23, rfl, h74⟩ := asD_inv h73; clear h73
  obtain ⟨a39, r39, rfl, h75⟩ := asCons_inv h74; clear h74
  obtain ⟨a40, rfl, h76⟩ := asOne_inv h75; clear h75
  obtain ⟨s24, rfl, h77⟩ := asD_inv h76; clear h76
  obtain ⟨rfl, h78⟩ := asNil_inv h77; clear h77
  intro J hJ
  have hp : ∀ c' ∈ subsOf (E.info 9).keep (body Try.f9 23), SubOK E (inlF (PA (ACall E)) E 8) (E.info 9).keep 1 Try.f9.ntmps (lofL Ll9r23) c' := all_eq (by kernel_rfl : subsOf (E.info 9).keep (body Try.f9 23) = []) (all_nil)
  exact h78.of (fun s1 s2 s3 s4 s5 s6 s7 s8 s9 s10 s11 s12 s13 s14 s15 s16 s17 s18 s19 s20 s21 s22 s23 s24 => J [(10000023, .undef), (0, .d (.sl wLF) s1), (1, .vec 0), (3, B s2), (8, .ptr 1 0 []), (11, .vec 6), (12, .vec 7), (16, .vec 8), (17, I s3), (18, .ptr 9 0 []), (19, I s4), (20, .ptr 10 0 []), (77, .d (.sl wLF) s5), (78, I s6), (79, I s7), (91, .d (.sl wIT) s8), (92, I s9), (93, I s10), (110, .d (.sl wCL) s11), (111, I s12), (112, I s13)] [.row (.int .i64) s14 false, .one (.pair (.sl (.int .i64)) (.pair (.int .i64) (.pair (.sl (.int .i64)) (.pair (.sl (.pair (.int .i64) (.pair (.int .i64) (.pair (.sl (.int .i64)) (.pair (.int .i64) .unit))))) (.pair (.sl (.pair (.int .i64) (.pair (.int .i64) (.pair (.int .i64) (.pair (.sl (.pair .str wCL)) .unit))))) .unit))))) (.agg [.vec 2, I s15, .vec 3, .vec 4, .vec 5]), .row (.int .i64) s16 false, .row (.int .i64) s17 false, .row (.pair (.int .i64) (.pair (.int .i64) (.pair (.sl (.int .i64)) (.pair (.int .i64) .unit)))) s18 false, .row (.pair (.int .i64) (.pair (.int .i64) (.pair (.int .i64) (.pair (.sl (.pair .str wCL)) .unit)))) s19 false, .row wIT s20 false, .row (.int .i64) s21 false, .row wCL s22 false, .one wLF (.d wLF s23), .one wIT (.d wIT s24)]) (fun s1 s2 s3 s4 s5 s6 s7 s8 s9 s10 s11 s12 s13 s14 s15 s16 s17 s18 s19 s20 s21 s22 s23 s24 hb => loop_round2 (S := ofL Sl9r23) (L := lofL Ll9r23) hSl9r23 (inlOK _) hp hJ (by kernel_rfl) hb)

abbrev Sl9r18 : List (Nat × Pat × Sp) := []
theorem hSl9r18 : SpecOK E (ofL Sl9r18) := specOK_nil
abbrev Ll9r18 : List (Nat × List Nat × Pat × LSp) := [(10000023, [0, 1, 3, 8, 11, 12, 16, 17, 18, 19, 20, 77, 78, 79, 91, 92, 93, 110, 111, 112], none, lsl9r23)]
def lsl9r18 : LSp := fun vs σ K => asCons vs fun a1 r1 => asD (.sl wLF) a1 fun s1 => asCons r1 fun a2 r2 => asP (.vec 0) a2 <| asCons r2 fun a3 r3 => asD .bool a3 fun s2 => asCons r3 fun a4 r4 => asP (.ptr 1 0 []) a4 <| asCons r4 fun a5 r5 => asP (.vec 6) a5 <| asCons r5 fun a6 r6 => asP (.vec 7) a6 <| asCons r6 fun a7 r7 => asP (.vec 8) a7 <| asCons r7 fun a8 r8 => asD (.int .i64) a8 fun s3 => asCons r8 fun a9 r9 => asP (.ptr 9 0 []) a9 <| asCons r9 fun a10 r10 => asD (.sl wLF) a10 fun s4 => asCons r10 fun a11 r11 => asD (.int .i64) a11 fun s5 => asCons r11 fun a12 r12 => asD (.int .i64) a12 fun s6 => asCons r12 fun a13 r13 => asD (.sl wIT) a13 fun s7 => asCons r13 fun a14 r14 => asD (.int .i64) a14 fun s8 => asCons r14 fun a15 r15 => asD (.int .i64) a15 fun s9 => asNil r15 <| asCons σ fun a16 r16 => asRw (.int .i64) false a16 fun s10 => asCons r16 fun a17 r17 => asOne (.pair (.sl (.int .i64)) (.pair (.int .i64) (.pair (.sl (.int .i64)) (.pair (.sl (.pair (.int .i64) (.pair (.int .i64) (.pair (.sl (.int .i64)) (.pair (.int .i64) .unit))))) (.pair (.sl (.pair (.int .i64) (.pair (.int .i64) (.pair (.int .i64) (.pair (.sl (.pair .str wCL)) .unit))))) .unit))))) a17 fun a18 => asAgL a18 fun l19 => asCons l19 fun a20 r20 => asP (.vec 2) a20 <| asCons r20 fun a21 r21 => asD (.int .i64) a21 fun s11 => asCons r21 fun a22 r22 => asP (.vec 3) a22 <| asCons r22 fun a23 r23 => asP (.vec 4) a23 <| asCons r23 fun a24 r24 => asP (.vec 5) a24 <| asNil r24 <| asCons r17 fun a25 r25 => asRw (.int .i64) false a25 fun s12 => asCons r25 fun a26 r26 => asRw (.int .i64) false a26 fun s13 => asCons r26 fun a27 r27 => asRw (.pair (.int .i64) (.pair (.int .i64) (.pair (.sl (.int .i64)) (.pair (.int .i64) .unit)))) false a27 fun s14 => asCons r27 fun a28 r28 => asRw (.pair (.int .i64) (.pair (.int .i64) (.pair (.int .i64) (.pair (.sl (.pair .str wCL)) .unit)))) false a28 fun s15 => asCons r28 fun a29 r29 => asRw wIT false a29 fun s16 => asCons r29 fun a30 r30 => asRw (.int .i64) false a30 fun s17 => asCons r30 fun a31 r31 => asRw wCL false a31 fun s18 => asCons r31 fun a32 r32 => asOne wLF a32 fun a33 => asD wLF a33 fun s19 => asNil r32 <| l9r18 (fun z1 z2 z3 z4 z5 z6 z7 z8 z9 z10 z11 z12 z13 z14 => K (.exit 4) [(0, .d (.sl wLF) z1), (1, .vec 0), (3, B z2), (8, .ptr 1 0 []), (11, .vec 6), (12, .vec 7), (16, .vec 8), (77, .d (.sl wLF) z3), (78, I z4), (79, I z5)] [.row (.int .i64) z6 false, .one (.pair (.sl (.int .i64)) (.pair (.int .i64) (.pair (.sl (.int .i64)) (.pair (.sl (.pair (.int .i64) (.pair (.int .i64) (.pair (.sl (.int .i64)) (.pair (.int .i64) .unit))))) (.pair (.sl (.pair (.int .i64) (.pair (.int .i64) (.pair (.int .i64) (.pair (.sl (.pair .str wCL)) .unit))))) .unit))))) (.agg [.vec 2, I z7, .vec 3, .vec 4, .vec 5]), .row (.int .i64) z8 false, .row (.int .i64) z9 false, .row (.pair (.int .i64) (.pair (.int .i64) (.pair (.sl (.int .i64)) (.pair (.int .i64) .unit)))) z10 false, .row (.pair (.int .i64) (.pair (.int .i64) (.pair (.int .i64) (.pair (.sl (.pair .str wCL)) .unit)))) z11 false, .row wIT z12 false, .row (.int .i64) z13 false, .row wCL z14 false]) s1 s2 s3 s4 s5 s6 s7 s8 s9 s10 s11 s12 s13 s14 s15 s16 s17 s18 s19
theorem l9r18v : LoopV E (inlF (PA (ACall E)) E 8) (E.info 9).keep 1 Try.f9.ntmps 10000018 (body Try.f9 18) ([0, 1, 3, 8, 11, 12, 16, 17, 18, 77, 78, 79, 91, 92, 93], lsl9r18) := by
  intro vs σ K (h0 : lsl9r18 vs σ K)
  unfold lsl9r18 at h0
  obtain ⟨a1, r1, rfl, h1⟩ := asCons_inv h0; clear h0
  obtain ⟨s1, rfl, h2⟩ := asD_inv h1; clear h1
  obtain ⟨a2, r2, rfl, h3⟩ := asCons_inv h2; clear h2
  obtain ⟨rfl, h4⟩ := asP_inv h3; clear h3
  obtain ⟨a3, r3, rfl, h5⟩ := asCons_inv h4; clear h4
  obtain ⟨s2, rfl, h6⟩ := asD_inv h5; clear h5
  obtain ⟨a4, r4, rfl, h7⟩ := asCons_inv h6; clear h6
  obtain ⟨rfl, h8⟩ := asP_inv h7; clear h7
  obtain ⟨a5, r5, rfl, h9⟩ := asCons_inv h8; clear h8
  obtain ⟨rfl, h10⟩ := asP_inv h9; clear h9
  obtain ⟨a6, r6, rfl, h11⟩ := asCons_inv h10; clear h10
  obtain ⟨rfl, h12⟩ := asP_inv h11; clear h11
  obtain ⟨a7, r7, rfl, h13⟩ := asCons_inv h12; clear h12
  obtain ⟨rfl, h14⟩ := asP_inv h13; clear h13
  obtain ⟨a8, r8, rfl, h15⟩ := asCons_inv h14; clear h14
  obtain ⟨s3, rfl, h16⟩ := asD_inv h15; clear h15
  obtain ⟨a9, r9, rfl, h17⟩ := asCons_inv h16; clear h16
  obtain ⟨rfl, h18⟩ := asP_inv h17; clear h17
  obtain ⟨a10, r10, rfl, h19⟩ := asCons_inv h18; clear h18
  obtain ⟨s4, rfl, h20⟩ := asD_inv h19; clear h19
  obtain ⟨a11, r11, rfl, h21⟩ := asCons_inv h20; clear h20
  obtain ⟨s5, rfl, h22⟩ := asD_inv h21; clear h21
  obtain ⟨a12, r12, rfl, h23⟩ := asCons_inv h22; clear h22
  obtain ⟨s6, rfl, h24⟩ := asD_inv h23; clear h23
  obtain ⟨a13, r13, rfl, h25⟩ := asCons_inv h24; clear h24
  obtain ⟨s7, rfl, h26⟩ := asD_inv h25; clear h25
  obtain ⟨a14, r14, rfl, h27⟩ := asCons_inv h26; clear h26
  obtain ⟨s8, rfl, h28⟩ := asD_inv h27; clear h27
  obtain ⟨a15, r15, rfl, h29⟩ := asCons_inv h28; clear h28
  obtain ⟨s9, rfl, h30⟩ := asD_inv h29; clear h29
  obtain ⟨rfl, h31⟩ := asNil_inv h30; clear h30
  obtain ⟨a16, r16, rfl, h32⟩ := asCons_inv h31; clear h31
  obtain ⟨s10, rfl, h33⟩ := asRw_inv h32; clear h32
  obtain ⟨a17, r17, rfl, h34⟩ := asCons_inv h33; clear h33
  obtain ⟨a18, rfl, h35⟩ := asOne_inv h34; clear h34
  obtain ⟨l19, rfl, h36⟩ := asAgL_inv h35; clear h35
  obtain ⟨a20, r20, rfl, h37⟩ := asCons_inv h36; clear h36
  obtain ⟨rfl, h38⟩ := asP_inv h37; clear h37
  obtain ⟨a21, r21, rfl, h39⟩ := asCons_inv h38; clear h38
  obtain ⟨s11, rfl, h40⟩ := asD_inv h39; clear h39
  obtain ⟨a22, r22, rfl, h41⟩ := asCons_inv h40; clear h40
  obtain ⟨rfl, h42⟩ := asP_inv h41; clear h41
  obtain ⟨a23, r23, rfl, h43⟩ := asCons_inv h42; clear h42
  obtain ⟨rfl, h44⟩ := asP_inv h43; clear h43
  obtain ⟨a24, r24, rfl, h45⟩ := asCons_inv h44; clear h44
  obtain ⟨rfl, h46⟩ := asP_inv h45; clear h45
  obtain ⟨rfl, h47⟩ := asNil_inv h46; clear h46
  obtain ⟨a25, r25, rfl, h48⟩ := asCons_inv h47; clear h47
  obtain ⟨s12, rfl, h49⟩ := asRw_inv h48; clear h48
  obtain ⟨a26, r26, rfl, h50⟩ := asCons_inv h49; clear h49
  obtain ⟨s13, rfl, h51⟩ := asRw_inv h50; clear h50
  obtain ⟨a27, r27, rfl, h52⟩ := asCons_inv h51; clear h51
  obtain ⟨s14, rfl, h53⟩ := asRw_inv h52; clear h52
  obtain ⟨a28, r28, rfl, h54⟩ := asCons_inv h53; clear h53
  obtain ⟨s15, rfl, h55⟩ := asRw_inv h54; clear h54
  obtain ⟨a29, r29, rfl, h56⟩ := asCons_inv h55; clear h55
  obtain ⟨s16, rfl, h57⟩ := asRw_inv h56; clear h56
  obtain ⟨a30, r30, rfl, h58⟩ := asCons_inv h57; clear h57
  obtain ⟨s17, rfl, h59⟩ := asRw_inv h58; clear h58
  obtain ⟨a31, r31, rfl, h60⟩ := asCons_inv h59; clear h59
  obtain ⟨s18, rfl, h61⟩ := asRw_inv h60; clear h60
  obtain ⟨a32, r32, rfl, h62⟩ := asCons_inv h61; clear h61
  obtain ⟨a33, rfl, h63⟩ := asOne_inv h62; clear h62
  obtain ⟨s19, rfl, h64⟩ := asD_inv h63; clear h63
  obtain ⟨rfl, h65⟩ := asNil_inv h64; clear h64
  intro J hJ
  have hp : ∀ c' ∈ subsOf (E.info 9).keep (body Try.f9 18), SubOK E (inlF (PA (ACall E)) E 8) (E.info 9).keep 1 Try.f9.ntmps (lofL Ll9r18) c' := all_eq (by kernel_rfl : subsOf (E.info 9).keep (body Try.f9 18) = [.loop (body Try.f9 23)]) (all_cons (loopOK_of (mk := 10000023) (sl := [0, 1, 3, 8, 11, 12, 16, 17, 18, 19, 20, 77, 78, 79, 91, 92, 93, 110, 111, 112]) (ss := [([0, 1, 3, 8, 11, 12, 16, 17, 18, 19, 20, 77, 78, 79, 91, 92, 93, 110, 111, 112], lsl9r23)]) (by kernel_rfl) (by kernel_rfl) (all_cons l9r23v (all_nil))) (all_nil))
  exact h65.of (fun s1 s2 s3 s4 s5 s6 s7 s8 s9 s10 s11 s12 s13 s14 s15 s16 s17 s18 s19 => J [(10000018, .undef), (0, .d (.sl wLF) s1), (1, .vec 0), (3, B s2), (8, .ptr 1 0 []), (11, .vec 6), (12, .vec 7), (16, .vec 8), (17, I s3), (18, .ptr 9 0 []), (77, .d (.sl wLF) s4), (78, I s5), (79, I s6), (91, .d (.sl wIT) s7), (92, I s8), (93, I s9)] [.row (.int .i64) s10 false, .one (.pair (.sl (.int .i64)) (.pair (.int .i64) (.pair (.sl (.int .i64)) (.pair (.sl (.pair (.int .i64) (.pair (.int .i64) (.pair (.sl (.int .i64)) (.pair (.int .i64) .unit))))) (.pair (.sl (.pair (.int .i64) (.pair (.int .i64) (.pair (.int .i64) (.pair (.sl (.pair .str wCL)) .unit))))) .unit))))) (.agg [.vec 2, I s11, .vec 3, .vec 4, .vec 5]), .row (.int .i64) s12 false, .row (.int .i64) s13 false, .row (.pair (.int .i64) (.pair (.int .i64) (.pair (.sl (.int .i64)) (.pair (.int .i64) .unit)))) s14 false, .row (.pair (.int .i64) (.pair (.int .i64) (.pair (.int .i64) (.pair (.sl (.pair .str wCL)) .unit)))) s15 false, .row wIT s16 false, .row (.int .i64) s17 false, .row wCL s18 false, .one wLF (.d wLF s19)]) (fun s1 s2 s3 s4 s5 s6 s7 s8 s9 s10 s11 s12 s13 s14 s15 s16 s17 s18 s19 hb => loop_round2 (S := ofL Sl9r18) (L := lofL Ll9r18) hSl9r18 (inlOK _) hp hJ (by kernel_rfl) hb)

abbrev Sl9r14 : List (Nat × Pat × Sp) := []
theorem hSl9r14 : SpecOK E (ofL Sl9r14) := specOK_nil
abbrev Ll9r14 : List (Nat × List Nat × Pat × LSp) := [(10000018, [0, 1, 3, 8, 11, 12, 16, 17, 18, 77, 78, 79, 91, 92, 93], none, lsl9r18)]
def lsl9r14 : LSp := fun vs σ K => asCons vs fun a1 r1 => asD (.sl wLF) a1 fun s1 => asCons r1 fun a2 r2 => asP (.vec 0) a2 <| asCons r2 fun a3 r3 => asD .bool a3 fun s2 => asCons r3 fun a4 r4 => asP (.ptr 1 0 []) a4 <| asCons r4 fun a5 r5 => asP (.vec 6) a5 <| asCons r5 fun a6 r6 => asP (.vec 7) a6 <| asCons r6 fun a7 r7 => asP (.vec 8) a7 <| asCons r7 fun a8 r8 => asD (.sl wLF) a8 fun s3 => asCons r8 fun a9 r9 => asD (.int .i64) a9 fun s4 => asCons r9 fun a10 r10 => asD (.int .i64) a10 fun s5 => asNil r10 <| asCons σ fun a11 r11 => asRw (.int .i64) false a11 fun s6 => asCons r11 fun a12 r12 => asOne (.pair (.sl (.int .i64)) (.pair (.int .i64) (.pair (.sl (.int .i64)) (.pair (.sl (.pair (.int .i64) (.pair (.int .i64) (.pair (.sl (.int .i64)) (.pair (.int .i64) .unit))))) (.pair (.sl (.pair (.int .i64) (.pair (.int .i64) (.pair (.int .i64) (.pair (.sl (.pair .str wCL)) .unit))))) .unit))))) a12 fun a13 => asAgL a13 fun l14 => asCons l14 fun a15 r15 => asP (.vec 2) a15 <| asCons r15 fun a16 r16 => asD (.int .i64) a16 fun s7 => asCons r16 fun a17 r17 => asP (.vec 3) a17 <| asCons r17 fun a18 r18 => asP (.vec 4) a18 <| asCons r18 fun a19 r19 => asP (.vec 5) a19 <| asNil r19 <| asCons r12 fun a20 r20 => asRw (.int .i64) false a20 fun s8 => asCons r20 fun a21 r21 => asRw (.int .i64) false a21 fun s9 => asCons r21 fun a22 r22 => asRw (.pair (.int .i64) (.pair (.int .i64) (.pair (.sl (.int .i64)) (.pair (.int .i64) .unit)))) false a22 fun s10 => asCons r22 fun a23 r23 => asRw (.pair (.int .i64) (.pair (.int .i64) (.pair (.int .i64) (.pair (.sl (.pair .str wCL)) .unit)))) false a23 fun s11 => asCons r23 fun a24 r24 => asRw wIT false a24 fun s12 => asCons r24 fun a25 r25 => asRw (.int .i64) false a25 fun s13 => asCons r25 fun a26 r26 => asRw wCL false a26 fun s14 => asNil r26 <| l9r14 (fun z1 z2 z3 z4 z5 z6 z7 z8 z9 z10 z11 => K (.exit 2) [(0, .d (.sl wLF) z1), (1, .vec 0), (3, B z2), (8, .ptr 1 0 []), (11, .vec 6), (12, .vec 7), (16, .vec 8)] [.row (.int .i64) z3 false, .one (.pair (.sl (.int .i64)) (.pair (.int .i64) (.pair (.sl (.int .i64)) (.pair (.sl (.pair (.int .i64) (.pair (.int .i64) (.pair (.sl (.int .i64)) (.pair (.int .i64) .unit))))) (.pair (.sl (.pair (.int .i64) (.pair (.int .i64) (.pair (.int .i64) (.pair (.sl (.pair .str wCL)) .unit))))) .unit))))) (.agg [.vec 2, I z4, .vec 3, .vec 4, .vec 5]), .row (.int .i64) z5 false, .row (.int .i64) z6 false, .row (.pair (.int .i64) (.pair (.int .i64) (.pair (.sl (.int .i64)) (.pair (.int .i64) .unit)))) z7 false, .row (.pair (.int .i64) (.pair (.int .i64) (.pair (.int .i64) (.pair (.sl (.pair .str wCL)) .unit)))) z8 false, .row wIT z9 false, .row (.int .i64) z10 false, .row wCL z11 false]) s1 s2 s3 s4 s5 s6 s7 s8 s9 s10 s11 s12 s13 s14
theorem l9r14v : LoopV E (inlF (PA (ACall E)) E 8) (E.info 9).keep 1 Try.f9.ntmps 10000014 (body Try.f9 14) ([0, 1, 3, 8, 11, 12, 16, 77, 78, 79], lsl9r14) := by
  intro vs σ K (h0 : lsl9r14 vs σ K)
  unfold lsl9r14 at h0
  obtain ⟨a1, r1, rfl, h1⟩ := asCons_inv h0; clear h0
  obtain ⟨s1, rfl, h2⟩ := asD_inv h1; clear h1
  obtain ⟨a2, r2, rfl, h3⟩ := asCons_inv h2; clear h2
  obtain ⟨rfl, h4⟩ := asP_inv h3; clear h3
  obtain ⟨a3, r3, rfl, h5⟩ := asCons_inv h4; clear h4
  obtain ⟨s2, rfl, h6⟩ := asD_inv h5; clear h5
  obtain ⟨a4, r4, rfl, h7⟩ := asCons_inv h6; clear h6
  obtain ⟨rfl, h8⟩ := asP_inv h7; clear h7
  obtain ⟨a5, r5, rfl, h9⟩ := asCons_inv h8; clear h8
  obtain ⟨rfl, h10⟩ := asP_inv h9; clear h9
  obtain ⟨a6, r6, rfl, h11⟩ := asCons_inv h10; clear h10
  obtain ⟨rfl, h12⟩ := asP_inv h11; clear h11
  obtain ⟨a7, r7, rfl, h13⟩ := asCons_inv h12; clear h12
  obtain ⟨rfl, h14⟩ := asP_inv h13; clear h13
  obtain ⟨a8, r8, rfl, h15⟩ := asCons_inv h14; clear h14
  obtain ⟨s3, rfl, h16⟩ := asD_inv h15; clear h15
  obtain ⟨a9, r9, rfl, h17⟩ := asCons_inv h16; clear h16
  obtain ⟨s4, rfl, h18⟩ := asD_inv h17; clear h17
  obtain ⟨a10, r10, rfl, h19⟩ := asCons_inv h18; clear h18
  obtain ⟨s5, rfl, h20⟩ := asD_inv h19; clear h19
  obtain ⟨rfl, h21⟩ := asNil_inv h20; clear h20
  obtain ⟨a11, r11, rfl, h22⟩ := asCons_inv h21; clear h21
  obtain ⟨s6, rfl, h23⟩ := asRw_inv h22; clear h22
  obtain ⟨a12, r12, rfl, h24⟩ := asCons_inv h23; clear h23
  obtain ⟨a13, rfl, h25⟩ := asOne_inv h24; clear h24
  obtain ⟨l14, rfl, h26⟩ := asAgL_inv h25; clear h25
  obtain ⟨a15, r15, rfl, h27⟩ := asCons_inv h26; clear h26
  obtain ⟨rfl, h28⟩ := asP_inv h27; clear h27
  obtain ⟨a16, r16, rfl, h29⟩ := asCons_inv h28; clear h28
  obtain ⟨s7, rfl, h30⟩ := asD_inv h29; clear h29
  obtain ⟨a17, r17, rfl, h31⟩ := asCons_inv h30; clear h30
  obtain ⟨rfl, h32⟩ := asP_inv h31; clear h31
  obtain ⟨a18, r18, rfl, h33⟩ := asCons_inv h32; clear h32
  obtain ⟨rfl, h34⟩ := asP_inv h33; clear h33
  obtain ⟨a19, r19, rfl, h35⟩ := asCons_inv h34; clear h34
  obtain ⟨rfl, h36⟩ := asP_inv h35; clear h35
  obtain ⟨rfl, h37⟩ := asNil_inv h36; clear h36
  obtain ⟨a20, r20, rfl, h38⟩ := asCons_inv h37; clear h37
  obtain ⟨s8, rfl, h39⟩ := asRw_inv h38; clear h38
  obtain ⟨a21, r21, rfl, h40⟩ := asCons_inv h39; clear h39
  obtain ⟨s9, rfl, h41⟩ := asRw_inv h40; clear h40
  obtain ⟨a22, r22, rfl, h42⟩ := asCons_inv h41; clear h41
  obtain ⟨s10, rfl, h43⟩ := asRw_inv h42; clear h42
  obtain ⟨a23, r23, rfl, h44⟩ := asCons_inv h43; clear h43
  obtain ⟨s11, rfl, h45⟩ := asRw_inv h44; clear h44
  obtain ⟨a24, r24, rfl, h46⟩ := asCons_inv h45; clear h45
  obtain ⟨s12, rfl, h47⟩ := asRw_inv h46; clear h46
  obtain ⟨a25, r25, rfl, h48⟩ := asCons_inv h47; clear h47
  obtain ⟨s13, rfl, h49⟩ := asRw_inv h48; clear h48
  obtain ⟨a26, r26, rfl, h50⟩ := asCons_inv h49; clear h49
  obtain ⟨s14, rfl, h51⟩ := asRw_inv h50; clear h50
  obtain ⟨rfl, h52⟩ := asNil_inv h51; clear h51
  intro J hJ
  have hp : ∀ c' ∈ subsOf (E.info 9).keep (body Try.f9 14), SubOK E (inlF (PA (ACall E)) E 8) (E.info 9).keep 1 Try.f9.ntmps (lofL Ll9r14) c' := all_eq (by kernel_rfl : subsOf (E.info 9).keep (body Try.f9 14) = [.loop (body Try.f9 18)]) (all_cons (loopOK_of (mk := 10000018) (sl := [0, 1, 3, 8, 11, 12, 16, 17, 18, 77, 78, 79, 91, 92, 93]) (ss := [([0, 1, 3, 8, 11, 12, 16, 17, 18, 77, 78, 79, 91, 92, 93], lsl9r18)]) (by kernel_rfl) (by kernel_rfl) (all_cons l9r18v (all_nil))) (all_nil))
  exact h52.of (fun s1 s2 s3 s4 s5 s6 s7 s8 s9 s10 s11 s12 s13 s14 => J [(10000014, .undef), (0, .d (.sl wLF) s1), (1, .vec 0), (3, B s2), (8, .ptr 1 0 []), (11, .vec 6), (12, .vec 7), (16, .vec 8), (77, .d (.sl wLF) s3), (78, I s4), (79, I s5)] [.row (.int .i64) s6 false, .one (.pair (.sl (.int .i64)) (.pair (.int .i64) (.pair (.sl (.int .i64)) (.pair (.sl (.pair (.int .i64) (.pair (.int .i64) (.pair (.sl (.int .i64)) (.pair (.int .i64) .unit))))) (.pair (.sl (.pair (.int .i64) (.pair (.int .i64) (.pair (.int .i64) (.pair (.sl (.pair .str wCL)) .unit))))) .unit))))) (.agg [.vec 2, I s7, .vec 3, .vec 4, .vec 5]), .row (.int .i64) s8 false, .row (.int .i64) s9 false, .row (.pair (.int .i64) (.pair (.int .i64) (.pair (.sl (.int .i64)) (.pair (.int .i64) .unit)))) s10 false, .row (.pair (.int .i64) (.pair (.int .i64) (.pair (.int .i64) (.pair (.sl (.pair .str wCL)) .unit)))) s11 false, .row wIT s12 false, .row (.int .i64) s13 false, .row wCL s14 false]) (fun s1 s2 s3 s4 s5 s6 s7 s8 s9 s10 s11 s12 s13 s14 hb => loop_round2 (S := ofL Sl9r14) (L := lofL Ll9r14) hSl9r14 (inlOK _) hp hJ (by kernel_rfl) hb)

abbrev S30 : List (Nat × Pat × Sp) := []
theorem hS30 : SpecOK E (ofL S30) := specOK_nil
abbrev L30 : List (Nat × List Nat × Pat × LSp) := []
def sp30 : Sp := fun args τ K => asCons args fun a1 r1 => asD (.int .i64) a1 fun x1 => asNil r1 <| asNil τ <| c30 x1 (fun z1 => K (B z1) [])
theorem h30 : ∀ args τ K, sp30 args τ K → ACall E 30 args τ K := by
  intro args τ K h0
  unfold sp30 at h0
  obtain ⟨a1, r1, rfl, h1⟩ := asCons_inv h0; clear h0
  obtain ⟨x1, rfl, h2⟩ := asD_inv h1; clear h1
  obtain ⟨rfl, h3⟩ := asNil_inv h2; clear h2
  obtain ⟨rfl, h4⟩ := asNil_inv h3; clear h3
  exact ACall.spec2 (fn := Try.f30) (c := codeOf Try.f30) (S := ofL S30) (L := lofL L30) hS30 (by kernel_rfl) (by kernel_rfl) (inlOK _) (all_eq (by kernel_rfl : subsOf (E.info 30).keep (codeOf Try.f30) = []) (all_nil)) (by kernel_rfl) h4.of

abbrev Sl20r3 : List (Nat × Pat × Sp) := [(30, none, sp30)]
theorem hSl20r3 : SpecOK E (ofL Sl20r3) := specOK_cons h30 (specOK_nil)
abbrev Ll20r3 : List (Nat × List Nat × Pat × LSp) := []
def lsl20r3 : LSp := fun vs σ K => asCons vs fun a1 r1 => asD (.sl wIT) a1 fun s1 => asCons r1 fun a2 r2 => asP (.vec 0) a2 <| asCons r2 fun a3 r3 => asD (.sl wIT) a3 fun s2 => asCons r3 fun a4 r4 => asD (.int .i64) a4 fun s3 => asCons r4 fun a5 r5 => asD (.int .i64) a5 fun s4 => asNil r5 <| asCons σ fun a6 r6 => asRw .bool false a6 fun s5 => asNil r6 <| l20r3 (fun z1 z2 => K (.exit 0) [(0, .d (.sl wIT) z1), (3, .vec 0)] [.row .bool z2 false]) s1 s2 s3 s4 s5
theorem l20r3v : LoopV E (inlF (PA (ACall E)) E 8) (E.info 20).keep 0 Try.f20.ntmps 21000003 (body Try.f20 3) ([0, 3, 10, 11, 12], lsl20r3) := by
  intro vs σ K (h0 : lsl20r3 vs σ K)
  unfold lsl20r3 at h0
  obtain ⟨a1, r1, rfl, h1⟩ := asCons_inv h0; clear h0
  obtain ⟨s1, rfl, h2⟩ := asD_inv h1; clear h1
  obtain ⟨a2, r2, rfl, h3⟩ := asCons_inv h2; clear h2
  obtain ⟨rfl, h4⟩ := asP_inv h3; clear h3
  obtain ⟨a3, r3, rfl, h5⟩ := asCons_inv h4; clear h4
  obtain ⟨s2, rfl, h6⟩ := asD_inv h5; clear h5
  obtain ⟨a4, r4, rfl, h7⟩ := asCons_inv h6; clear h6
  obtain ⟨s3, rfl, h8⟩ := asD_inv h7; clear h7
  obtain ⟨a5, r5, rfl, h9⟩ := asCons_inv h8; clear h8
  obtain ⟨s4, rfl, h10⟩ := asD_inv h9; clear h9
  obtain ⟨rfl, h11⟩ := asNil_inv h10; clear h10
  obtain ⟨a6, r6, rfl, h12⟩ := asCons_inv h11; clear h11
  obtain ⟨s5, rfl, h13⟩ := asRw_inv h12; clear h12
  obtain ⟨rfl, h14⟩ := asNil_inv h13; clear h13
  intro J hJ
  have hp : ∀ c' ∈ subsOf (E.info 20).keep (body Try.f20 3), SubOK E (inlF (PA (ACall E)) E 8) (E.info 20).keep 0 Try.f20.ntmps (lofL Ll20r3) c' := all_eq (by kernel_rfl : subsOf (E.info 20).keep (body Try.f20 3) = []) (all_nil)
  exact h14.of (fun s1 s2 s3 s4 s5 => J [(21000003, .undef), (0, .d (.sl wIT) s1), (3, .vec 0), (10, .d (.sl wIT) s2), (11, I s3), (12, I s4)] [.row .bool s5 false]) (fun s1 s2 s3 s4 s5 hb => loop_round2 (S := ofL Sl20r3) (L := lofL Ll20r3) hSl20r3 (inlOK _) hp hJ (by kernel_rfl) hb)

abbrev Sl47r3 : List (Nat × Pat × Sp) := []
theorem hSl47r3 : SpecOK E (ofL Sl47r3) := specOK_nil
abbrev Ll47r3 : List (Nat × List Nat × Pat × LSp) := []
def lsl47r3 : LSp := fun vs σ K => asCons vs fun a1 r1 => asD (.int .i64) a1 fun s1 => asCons r1 fun a2 r2 => asP (.ptr 0 0 []) a2 <| asCons r2 fun a3 r3 => asD (.int .i64) a3 fun s2 => asCons r3 fun a4 r4 => asD (.int .i64) a4 fun s3 => asNil r4 <| asCons σ fun a5 r5 => asOne (.sl .bool) a5 fun a6 => asD (.sl .bool) a6 fun s4 => asNil r5 <| l47r3 (fun z1 z2 => K (.exit 0) [(6, I z1)] [.one (.sl .bool) (.d (.sl .bool) z2)]) s1 s2 s3 s4
theorem l47r3v : LoopV E (inlF (PA (ACall E)) E 8) (E.info 47).keep 1 Try.f47.ntmps 48000003 (body Try.f47 3) ([1, 2, 6, 7], lsl47r3) := by
  intro vs σ K (h0 : lsl47r3 vs σ K)
  unfold lsl47r3 at h0
  obtain ⟨a1, r1, rfl, h1⟩ := asCons_inv h0; clear h0
  obtain ⟨s1, rfl, h2⟩ := asD_inv h1; clear h1
  obtain ⟨a2, r2, rfl, h3⟩ := asCons_inv h2; clear h2
  obtain ⟨rfl, h4⟩ := asP_inv h3; clear h3
  obtain ⟨a3, r3, rfl, h5⟩ := asCons_inv h4; clear h4
  obtain ⟨s2, rfl, h6⟩ := asD_inv h5; clear h5
  obtain ⟨a4, r4, rfl, h7⟩ := asCons_inv h6; clear h6
  obtain ⟨s3, rfl, h8⟩ := asD_inv h7; clear h7
  obtain ⟨rfl, h9⟩ := asNil_inv h8; clear h8
  obtain ⟨a5, r5, rfl, h10⟩ := asCons_inv h9; clear h9
  obtain ⟨a6, rfl, h11⟩ := asOne_inv h10; clear h10
  obtain ⟨s4, rfl, h12⟩ := asD_inv h11; clear h11
  obtain ⟨rfl, h13⟩ := asNil_inv h12; clear h12
  intro J hJ
  have hp : ∀ c' ∈ subsOf (E.info 47).keep (body Try.f47 3), SubOK E (inlF (PA (ACall E)) E 8) (E.info 47).keep 1 Try.f47.ntmps (lofL Ll47r3) c' := all_eq (by kernel_rfl : subsOf (E.info 47).keep (body Try.f47 3) = []) (all_nil)
  exact h13.of (fun s1 s2 s3 s4 => J [(48000003, .undef), (1, I s1), (2, .ptr 0 0 []), (6, I s2), (7, I s3)] [.one (.sl .bool) (.d (.sl .bool) s4)]) (fun s1 s2 s3 s4 hb => loop_round2 (S := ofL Sl47r3) (L := lofL Ll47r3) hSl47r3 (inlOK _) hp hJ (by kernel_rfl) hb)

abbrev S47 : List (Nat × Pat × Sp) := []
theorem hS47 : SpecOK E (ofL S47) := specOK_nil
abbrev L47 : List (Nat × List Nat × Pat × LSp) := [(48000003, [1, 2, 6, 7], none, lsl47r3)]
def sp47 : Sp := fun args τ K => asCons args fun a1 r1 => asD (.int .i64) a1 fun x1 => asCons r1 fun a2 r2 => asD (.int .i64) a2 fun x2 => asCons r2 fun a3 r3 => asP (.ptr 0 0 []) a3 <| asNil r3 <| asCons τ fun a4 r4 => asOne (.sl .bool) a4 fun a5 => asD (.sl .bool) a5 fun x3 => asNil r4 <| c47 x1 x2 x3 (fun z1 z2 => K (I z1) [.one (.sl .bool) (.d (.sl .bool) z2)])
theorem h47 : ∀ args τ K, sp47 args τ K → ACall E 47 args τ K := by
  intro args τ K h0
  unfold sp47 at h0
  obtain ⟨a1, r1, rfl, h1⟩ := asCons_inv h0; clear h0
  obtain ⟨x1, rfl, h2⟩ := asD_inv h1; clear h1
  obtain ⟨a2, r2, rfl, h3⟩ := asCons_inv h2; clear h2
  obtain ⟨x2, rfl, h4⟩ := asD_inv h3; clear h3
  obtain ⟨a3, r3, rfl, h5⟩ := asCons_inv h4; clear h4
  obtain ⟨rfl, h6⟩ := asP_inv h5; clear h5
  obtain ⟨rfl, h7⟩ := asNil_inv h6; clear h6
  obtain ⟨a4, r4, rfl, h8⟩ := asCons_inv h7; clear h7
  obtain ⟨a5, rfl, h9⟩ := asOne_inv h8; clear h8
  obtain ⟨x3, rfl, h10⟩ := asD_inv h9; clear h9
  obtain ⟨rfl, h11⟩ := asNil_inv h10; clear h10
  exact ACall.spec2 (fn := Try.f47) (c := codeOf Try.f47) (S := ofL S47) (L := lofL L47) hS47 (by kernel_rfl) (by kernel_rfl) (inlOK _) (all_eq (by kernel_rfl : subsOf (E.info 47).keep (codeOf Try.f47) = [.loop (body Try.f47 3)]) (all_cons (loopOK_of (mk := 48000003) (sl := [1, 2, 6, 7]) (ss := [([1, 2, 6, 7], lsl47r3)]) (by kernel_rfl) (by kernel_rfl) (all_cons l47r3v (all_nil))) (all_nil))) (by kernel_rfl) h11.of

abbrev S31 : List (Nat × Pat × Sp) := [(47, none, sp47)]
theorem hS31 : SpecOK E (ofL S31) := specOK_cons h47 (specOK_nil)
abbrev L31 : List (Nat × List Nat × Pat × LSp) := []
def sp31 : Sp := fun args τ K => asCons args fun a1 r1 => asD (.sl wIT) a1 fun x1 => asCons r1 fun a2 r2 => asD (.sl .bool) a2 fun x2 => asCons r2 fun a3 r3 => asD (.int .i64) a3 fun x3 => asNil r3 <| asNil τ <| c31 x1 x2 x3 (fun z1 => K (I z1) [])
theorem h31 : ∀ args τ K, sp31 args τ K → ACall E 31 args τ K := by
  intro args τ K h0
  unfold sp31 at h0
  obtain ⟨a1, r1, rfl, h1⟩ := asCons_inv h0; clear h0
  obtain ⟨x1, rfl, h2⟩ := asD_inv h1; clear h1
  obtain ⟨a2, r2, rfl, h3⟩ := asCons_inv h2; clear h2
  obtain ⟨x2, rfl, h4⟩ := asD_inv h3; clear h3
  obtain ⟨a3, r3, rfl, h5⟩ := asCons_inv h4; clear h4
  obtain ⟨x3, rfl, h6⟩ := asD_inv h5; clear h5
  obtain ⟨rfl, h7⟩ := asNil_inv h6; clear h6
  obtain ⟨rfl, h8⟩ := asNil_inv h7; clear h7
  exact ACall.spec2 (fn := Try.f31) (c := codeOf Try.f31) (S := ofL S31) (L := lofL L31) hS31 (by kernel_rfl) (by kernel_rfl) (inlOK _) (all_eq (by kernel_rfl : subsOf (E.info 31).keep (codeOf Try.f31) = []) (all_nil)) (by kernel_rfl) h8.of

abbrev Sl20r8 : List (Nat × Pat × Sp) := [(31, none, sp31), (30, none, sp30)]
theorem hSl20r8 : SpecOK E (ofL Sl20r8) := specOK_cons h31 (specOK_cons h30 (specOK_nil))
abbrev Ll20r8 : List (Nat × List Nat × Pat × LSp) := []
def lsl20r8 : LSp := fun vs σ K => asCons vs fun a1 r1 => asD (.sl wIT) a1 fun s1 => asCons r1 fun a2 r2 => asP (.vec 0) a2 <| asCons r2 fun a3 r3 => asD (.int .i64) a3 fun s2 => asNil r3 <| asCons σ fun a4 r4 => asRw .bool false a4 fun s3 => asNil r4 <| l20r8 (fun z1 => K (.exit 2) [(3, .vec 0)] [.row .bool z1 false]) s1 s2 s3
theorem l20r8v : LoopV E (inlF (PA (ACall E)) E 8) (E.info 20).keep 0 Try.f20.ntmps 21000008 (body Try.f20 8) ([0, 3, 6], lsl20r8) := by
  intro vs σ K (h0 : lsl20r8 vs σ K)
  unfold lsl20r8 at h0
  obtain ⟨a1, r1, rfl, h1⟩ := asCons_inv h0; clear h0
  obtain ⟨s1, rfl, h2⟩ := asD_inv h1; clear h1
  obtain ⟨a2, r2, rfl, h3⟩ := asCons_inv h2; clear h2
  obtain ⟨rfl, h4⟩ := asP_inv h3; clear h3
  obtain ⟨a3, r3, rfl, h5⟩ := asCons_inv h4; clear h4
  obtain ⟨s2, rfl, h6⟩ := asD_inv h5; clear h5
  obtain ⟨rfl, h7⟩ := asNil_inv h6; clear h6
  obtain ⟨a4, r4, rfl, h8⟩ := asCons_inv h7; clear h7
  obtain ⟨s3, rfl, h9⟩ := asRw_inv h8; clear h8
  obtain ⟨rfl, h10⟩ := asNil_inv h9; clear h9
  intro J hJ
  have hp : ∀ c' ∈ subsOf (E.info 20).keep (body Try.f20 8), SubOK E (inlF (PA (ACall E)) E 8) (E.info 20).keep 0 Try.f20.ntmps (lofL Ll20r8) c' := all_eq (by kernel_rfl : subsOf (E.info 20).keep (body Try.f20 8) = []) (all_nil)
  exact h10.of (fun s1 s2 s3 => J [(21000008, .undef), (0, .d (.sl wIT) s1), (3, .vec 0), (6, I s2)] [.row .bool s3 false]) (fun s1 s2 s3 hb => loop_round2 (S := ofL Sl20r8) (L := lofL Ll20r8) hSl20r8 (inlOK _) hp hJ (by kernel_rfl) hb)

abbrev S20 : List (Nat × Pat × Sp) := []
theorem hS20 : SpecOK E (ofL S20) := specOK_nil
abbrev L20 : List (Nat × List Nat × Pat × LSp) := [(21000003, [0, 3, 10, 11, 12], none, lsl20r3), (21000008, [0, 3, 6], none, lsl20r8)]
def sp20 : Sp := fun args τ K => asCons args fun a1 r1 => asD (.sl wIT) a1 fun x1 => asNil r1 <| asNil τ <| c20 x1 (fun z1 => K (.vec 0) [.row .bool z1 false])
theorem h20 : ∀ args τ K, sp20 args τ K → ACall E 20 args τ K := by
  intro args τ K h0
  unfold sp20 at h0
  obtain ⟨a1, r1, rfl, h1⟩ := asCons_inv h0; clear h0
  obtain ⟨x1, rfl, h2⟩ := asD_inv h1; clear h1
  obtain ⟨rfl, h3⟩ := asNil_inv h2; clear h2
  obtain ⟨rfl, h4⟩ := asNil_inv h3; clear h3
  exact ACall.spec2 (fn := Try.f20) (c := codeOf Try.f20) (S := ofL S20) (L := lofL L20) hS20 (by kernel_rfl) (by kernel_rfl) (inlOK _) (all_eq (by kernel_rfl : subsOf (E.info 20).keep (codeOf Try.f20) = [.loop (body Try.f20 3), .loop (body Try.f20 8)]) (all_cons (loopOK_of (mk := 21000003) (sl := [0, 3, 10, 11, 12]) (ss := [([0, 3, 10, 11, 12], lsl20r3)]) (by kernel_rfl) (by kernel_rfl) (all_cons l20r3v (all_nil))) (all_cons (loopOK_of (mk := 21000008) (sl := [0, 3, 6]) (ss := [([0, 3, 6], lsl20r8)]) (by kernel_rfl) (by kernel_rfl) (all_cons l20r8v (all_nil))) (all_nil)))) (by kernel_rfl) h4.of

abbrev Sl9r39 : List (Nat × Pat × Sp) := []
theorem hSl9r39 : SpecOK E (ofL Sl9r39) := specOK_nil
abbrev Ll9r39 : List (Nat × List Nat × Pat × LSp) := []
def lsl9r39 : LSp := fun vs σ K => asCons vs fun a1 r1 => asD (.sl wLF) a1 fun s1 => asCons r1 fun a2 r2 => asP (.vec 0) a2 <| asCons r2 fun a3 r3 => asD .bool a3 fun s2 => asCons r3 fun a4 r4 => asP (.ptr 1 0 []) a4 <| asCons r4 fun a5 r5 => asP (.vec 6) a5 <| asCons r5 fun a6 r6 => asP (.vec 7) a6 <| asCons r6 fun a7 r7 => asP (.vec 8) a7 <| asCons r7 fun a8 r8 => asP (.vec 9) a8 <| asCons r8 fun a9 r9 => asP (.vec 10) a9 <| asCons r9 fun a10 r10 => asP (.vec 6) a10 <| asCons r10 fun a11 r11 => asD (.int .i64) a11 fun s3 => asCons r11 fun a12 r12 => asD (.int .i64) a12 fun s4 => asNil r12 <| asCons σ fun a13 r13 => asRw (.int .i64) false a13 fun s5 => asCons r13 fun a14 r14 => asOne (.pair (.sl (.int .i64)) (.pair (.int .i64) (.pair (.sl (.int .i64)) (.pair (.sl (.pair (.int .i64) (.pair (.int .i64) (.pair (.sl (.int .i64)) (.pair (.int .i64) .unit))))) (.pair (.sl (.pair (.int .i64) (.pair (.int .i64) (.pair (.int .i64) (.pair (.sl (.pair .str wCL)) .unit))))) .unit))))) a14 fun a15 => asAgL a15 fun l16 => asCons l16 fun a17 r17 => asP (.vec 2) a17 <| asCons r17 fun a18 r18 => asD (.int .i64) a18 fun s6 => asCons r18 fun a19 r19 => asP (.vec 3) a19 <| asCons r19 fun a20 r20 => asP (.vec 4) a20 <| asCons r20 fun a21 r21 => asP (.vec 5) a21 <| asNil r21 <| asCons r14 fun a22 r22 => asRw (.int .i64) false a22 fun s7 => asCons r22 fun a23 r23 => asRw (.int .i64) false a23 fun s8 => asCons r23 fun a24 r24 => asRw (.pair (.int .i64) (.pair (.int .i64) (.pair (.sl (.int .i64)) (.pair (.int .i64) .unit)))) false a24 fun s9 => asCons r24 fun a25 r25 => asRw (.pair (.int .i64) (.pair (.int .i64) (.pair (.int .i64) (.pair (.sl (.pair .str wCL)) .unit)))) false a25 fun s10 => asCons r25 fun a26 r26 => asRw wIT false a26 fun s11 => asCons r26 fun a27 r27 => asRw (.int .i64) false a27 fun s12 => asCons r27 fun a28 r28 => asRw wCL false a28 fun s13 => asCons r28 fun a29 r29 => asRw .bool false a29 fun s14 => asCons r29 fun a30 r30 => asRw (.int .i64) false a30 fun s15 => asNil r30 <| l9r39 (fun z1 z2 z3 z4 z5 z6 z7 z8 z9 z10 z11 z12 => K (.exit 8) [(0, .d (.sl wLF) z1), (1, .vec 0), (3, B z2), (8, .ptr 1 0 []), (11, .vec 6), (12, .vec 7), (16, .vec 8), (24, .vec 9)] [.row (.int .i64) z3 false, .one (.pair (.sl (.int .i64)) (.pair (.int .i64) (.pair (.sl (.int .i64)) (.pair (.sl (.pair (.int .i64) (.pair (.int .i64) (.pair (.sl (.int .i64)) (.pair (.int .i64) .unit))))) (.pair (.sl (.pair (.int .i64) (.pair (.int .i64) (.pair (.int .i64) (.pair (.sl (.pair .str wCL)) .unit))))) .unit))))) (.agg [.vec 2, I z4, .vec 3, .vec 4, .vec 5]), .row (.int .i64) z5 false, .row (.int .i64) z6 false, .row (.pair (.int .i64) (.pair (.int .i64) (.pair (.sl (.int .i64)) (.pair (.int .i64) .unit)))) z7 false, .row (.pair (.int .i64) (.pair (.int .i64) (.pair (.int .i64) (.pair (.sl (.pair .str wCL)) .unit)))) z8 false, .row wIT z9 false, .row (.int .i64) z10 false, .row wCL z11 false, .row (.int .i64) z12 false]) s1 s2 s3 s4 s5 s6 s7 s8 s9 s10 s11 s12 s13 s14 s15
theorem l9r39v : LoopV E (inlF (PA (ACall E)) E 8) (E.info 9).keep 1 Try.f9.ntmps 10000039 (body Try.f9 39) ([0, 1, 3, 8, 11, 12, 16, 23, 24, 163, 164, 165], lsl9r39) := by
  intro vs σ K (h0 : lsl9r39 vs σ K)
  unfold lsl9r39 at h0
  obtain ⟨a1, r1, rfl, h1⟩ := asCons_inv h0; clear h0
  obtain ⟨s1, rfl, h2⟩ := asD_inv h1; clear h1
  obtain ⟨a2, r2, rfl, h3⟩ := asCons_inv h2; clear h2
  obtain ⟨rfl, h4⟩ := asP_inv h3; clear h3
  obtain ⟨a3, r3, rfl, h5⟩ := asCons_inv h4; clear h4
  obtain ⟨s2, rfl, h6⟩ := asD_inv h5; clear h5
  obtain ⟨a4, r4, rfl, h7⟩ := asCons_inv h6; clear h6
  obtain ⟨rfl, h8⟩ := asP_inv h7; clear h7
  obtain ⟨a5, r5, rfl, h9⟩ := asCons_inv h8; clear h8
  obtain ⟨rfl, h10⟩ := asP_inv h9; clear h9
  obtain ⟨a6, r6, rfl, h11⟩ := asCons_inv h10; clear h10
  obtain ⟨rfl, h12⟩ := asP_inv h11; clear h11
  obtain ⟨a7, r7, rfl, h13⟩ := asCons_inv h12; clear h12
  obtain ⟨rfl, h14⟩ := asP_inv h13; clear h13
  obtain ⟨a8, r8, rfl, h15⟩ := asCons_inv h14; clear h14
  obtain ⟨rfl, h16⟩ := asP_inv h15; clear h15
  obtain ⟨a9, r9, rfl, h17⟩ := asCons_inv h16; clear h16
  obtain ⟨rfl, h18⟩ := asP_inv h17; clear h17
  obtain ⟨a10, r10, rfl, h19⟩ := asCons_inv h18; clear h18
  obtain ⟨rfl, h20⟩ := asP_inv h19; clear h19
  obtain ⟨a11, r11, rfl, h21⟩ := asCons_inv h20; clear h20
  obtain ⟨s3, rfl, h22⟩ := asD_inv h21; clear h21
  obtain ⟨a12, r12, rfl, h23⟩ := asCons_inv h22; clear h22
  obtain ⟨s4, rfl, h24⟩ := asD_inv h23; clear h23
  obtain ⟨rfl, h25⟩ := asNil_inv h24; clear h24
  obtain ⟨a13, r13, rfl, h26⟩ := asCons_inv h25; clear h25
  obtain ⟨s5, rfl, h27⟩ := asRw_inv h26; clear h26
  obtain ⟨a14, r14, rfl, h28⟩ := asCons_inv h27; clear h27
  obtain ⟨a15, rfl, h29⟩ := asOne_inv h28; clear h28
  obtain ⟨l16, rfl, h30⟩ := asAgL_inv h29; clear h29
  obtain ⟨a17, r17, rfl, h31⟩ := asCons_inv h30; clear h30
  obtain ⟨rfl, h32⟩ := asP_inv h31; clear h31
  obtain ⟨a18, r18, rfl, h33⟩ := asCons_inv h32; clear h32
  obtain ⟨s6, rfl, h34⟩ := asD_inv h33; clear h33
  obtain ⟨a19, r19, rfl, h35⟩ := asCons_inv h34; clear h34
  obtain ⟨rfl, h36⟩ := asP_inv h35; clear h35
  obtain ⟨a20, r20, rfl, h37⟩ := asCons_inv h36; clear h36
  obtain ⟨rfl, h38⟩ := asP_inv h37; clear h37
  obtain ⟨a21, r21, rfl, h39⟩ := asCons_inv h38; clear h38
  obtain ⟨rfl, h40⟩ := asP_inv h39; clear h39
  obtain ⟨rfl, h41⟩ := asNil_inv h40; clear h40
  obtain ⟨a22, r22, rfl, h42⟩ := asCons_inv h41; clear h41
  obtain ⟨s7, rfl, h43⟩ := asRw_inv h42; clear h42
  obtain ⟨a23, r23, rfl, h44⟩ := asCons_inv h43; clear h43
  obtain ⟨s8, rfl, h45⟩ := asRw_inv h44; clear h44
  obtain ⟨a24, r24, rfl, h46⟩ := asCons_inv h45; clear h45
  obtain ⟨s9, rfl, h47⟩ := asRw_inv h46; clear h46
  obtain ⟨a25, r25, rfl, h48⟩ := asCons_inv h47; clear h47
  obtain ⟨s10, rfl, h49⟩ := asRw_inv h48; clear h48
  obtain ⟨a26, r26, rfl, h50⟩ := asCons_inv h49; clear h49
  obtain ⟨s11, rfl, h51⟩ := asRw_inv h50; clear h50
  obtain ⟨a27, r27, rfl, h52⟩ := asCons_inv h51; clear h51
  obtain ⟨s12, rfl, h53⟩ := asRw_inv h52; clear h52
  obtain ⟨a28, r28, rfl, h54⟩ := asCons_inv h53; clear h53
  obtain ⟨s13, rfl, h55⟩ := asRw_inv h54; clear h54
  obtain ⟨a29, r29, rfl, h56⟩ := asCons_inv h55; clear h55
  obtain ⟨s14, rfl, h57⟩ := asRw_inv h56; clear h56
  obtain ⟨a30, r30, rfl, h58⟩ := asCons_inv h57; clear h57
  obtain ⟨s15, rfl, h59⟩ := asRw_inv h58; clear h58
  obtain ⟨rfl, h60⟩ := asNil_inv h59; clear h59
  intro J hJ
  have hp : ∀ c' ∈ subsOf (E.info 9).keep (body Try.f9 39), SubOK E (inlF (PA (ACall E)) E 8) (E.info 9).keep 1 Try.f9.ntmps (lofL Ll9r39) c' := all_eq (by kernel_rfl : subsOf (E.info 9).keep (body Try.f9 39) = []) (all_nil)
  exact h60.of (fun s1 s2 s3 s4 s5 s6 s7 s8 s9 s10 s11 s12 s13 s14 s15 => J [(10000039, .undef), (0, .d (.sl wLF) s1), (1, .vec 0), (3, B s2), (8, .ptr 1 0 []), (11, .vec 6), (12, .vec 7), (16, .vec 8), (23, .vec 9), (24, .vec 10), (163, .vec 6), (164, I s3), (165, I s4)] [.row (.int .i64) s5 false, .one (.pair (.sl (.int .i64)) (.pair (.int .i64) (.pair (.sl (.int .i64)) (.pair (.sl (.pair (.int .i64) (.pair (.int .i64) (.pair (.sl (.int .i64)) (.pair (.int .i64) .unit))))) (.pair (.sl (.pair (.int .i64) (.pair (.int .i64) (.pair (.int .i64) (.pair (.sl (.pair .str wCL)) .unit))))) .unit))))) (.agg [.vec 2, I s6, .vec 3, .vec 4, .vec 5]), .row (.int .i64) s7 false, .row (.int .i64) s8 false, .row (.pair (.int .i64) (.pair (.int .i64) (.pair (.sl (.int .i64)) (.pair (.int .i64) .unit)))) s9 false, .row (.pair (.int .i64) (.pair (.int .i64) (.pair (.int .i64) (.pair (.sl (.pair .str wCL)) .unit)))) s10 false, .row wIT s11 false, .row (.int .i64) s12 false, .row wCL s13 false, .row .bool s14 false, .row (.int .i64) s15 false]) (fun s1 s2 s3 s4 s5 s6 s7 s8 s9 s10 s11 s12 s13 s14 s15 hb => loop_round2 (S := ofL Sl9r39) (L := lofL Ll9r39) hSl9r39 (inlOK _) hp hJ (by kernel_rfl) hb)

abbrev Sl21r3 : List (Nat × Pat × Sp) := []
theorem hSl21r3 : SpecOK E (ofL Sl21r3) := specOK_nil
abbrev Ll21r3 : List (Nat × List Nat × Pat × LSp) := []
def lsl21r3 : LSp := fun vs σ K => asCons vs fun a1 r1 => asD (.sl wIT) a1 fun s1 => asCons r1 fun a2 r2 => asD .bool a2 fun s2 => asCons r2 fun a3 r3 => asP (.vec 0) a3 <| asCons r3 fun a4 r4 => asD (.sl wIT) a4 fun s3 => asCons r4 fun a5 r5 => asD (.int .i64) a5 fun s4 => asCons r5 fun a6 r6 => asD (.int .i64) a6 fun s5 => asNil r6 <| asCons σ fun a7 r7 => asRw .bool false a7 fun s6 => asNil r7 <| l21r3 (fun z1 z2 => K (.exit 0) [(0, .d (.sl wIT) z1), (5, .vec 0)] [.row .bool z2 false]) s1 s2 s3 s4 s5 s6
theorem l21r3v : LoopV E (inlF (PA (ACall E)) E 8) (E.info 21).keep 0 Try.f21.ntmps 22000003 (body Try.f21 3) ([0, 1, 5, 14, 15, 16], lsl21r3) := by
  intro vs σ K (h0 : lsl21r3 vs σ K)
  unfold lsl21r3 at h0
  obtain ⟨a1, r1, rfl, h1⟩ := asCons_inv h0; clear h0
  obtain ⟨s1, rfl, h2⟩ := asD_inv h1; clear h1
  obtain ⟨a2, r2, rfl, h3⟩ := asCons_inv h2; clear h2
  obtain ⟨s2, rfl, h4⟩ := asD_inv h3; clear h3
  obtain ⟨a3, r3, rfl, h5⟩ := asCons_inv h4; clear h4
  obtain ⟨rfl, h6⟩ := asP_inv h5; clear h5
  obtain ⟨a4, r4, rfl, h7⟩ := asCons_inv h6; clear h6
  obtain ⟨s3, rfl, h8⟩ := asD_inv h7; clear h7
  obtain ⟨a5, r5, rfl, h9⟩ := asCons_inv h8; clear h8
  obtain ⟨s4, rfl, h10⟩ := asD_inv h9; clear h9
  obtain ⟨a6, r6, rfl, h11⟩ := asCons_inv h10; clear h10
  obtain ⟨s5, rfl, h12⟩ := asD_inv h11; clear h11
  obtain ⟨rfl, h13⟩ := asNil_inv h12; clear h12
  obtain ⟨a7, r7, rfl, h14⟩ := asCons_inv h13; clear h13
  obtain ⟨s6, rfl, h15⟩ := asRw_inv h14; clear h14
  obtain ⟨rfl, h16⟩ := asNil_inv h15; clear h15
  intro J hJ
  have hp : ∀ c' ∈ subsOf (E.info 21).keep (body Try.f21 3), SubOK E (inlF (PA (ACall E)) E 8) (E.info 21).keep 0 Try.f21.ntmps (lofL Ll21r3) c' := all_eq (by kernel_rfl : subsOf (E.info 21).keep (body Try.f21 3) = []) (all_nil)
  exact h16.of (fun s1 s2 s3 s4 s5 s6 => J [(22000003, .undef), (0, .d (.sl wIT) s1), (1, B s2), (5, .vec 0), (14, .d (.sl wIT) s3), (15, I s4), (16, I s5)] [.row .bool s6 false]) (fun s1 s2 s3 s4 s5 s6 hb => loop_round2 (S := ofL Sl21r3) (L := lofL Ll21r3) hSl21r3 (inlOK _) hp hJ (by kernel_rfl) hb)

abbrev S48 : List (Nat × Pat × Sp) := []
theorem hS48 : SpecOK E (ofL S48) := specOK_nil
abbrev L48 : List (Nat × List Nat × Pat × LSp) := []
def sp48 : Sp := fun args τ K => asCons args fun a1 r1 => asD (.int .i64) a1 fun x1 => asCons r1 fun a2 r2 => asD (.int .i64) a2 fun x2 => asNil r2 <| asNil τ <| c48 x1 x2 (fun z1 => K (I z1) [])
theorem h48 : ∀ args τ K, sp48 args τ K → ACall E 48 args τ K := by
  intro args τ K h0
  unfold sp48 at h0
  obtain ⟨a1, r1, rfl, h1⟩ := asCons_inv h0; clear h0
  obtain ⟨x1, rfl, h2⟩ := asD_inv h1; clear h1
  obtain ⟨a2, r2, rfl, h3⟩ := asCons_inv h2; clear h2
  obtain ⟨x2, rfl, h4⟩ := asD_inv h3; clear h3
  obtain ⟨rfl, h5⟩ := asNil_inv h4; clear h4
  obtain ⟨rfl, h6⟩ := asNil_inv h5; clear h5
  exact ACall.spec2 (fn := Try.f48) (c := codeOf Try.f48) (S := ofL S48) (L := lofL L48) hS48 (by kernel_rfl) (by kernel_rfl) (inlOK _) (all_eq (by kernel_rfl : subsOf (E.info 48).keep (codeOf Try.f48) = []) (all_nil)) (by kernel_rfl) h6.of

abbrev S32 : List (Nat × Pat × Sp) := [(48, none, sp48)]
theorem hS32 : SpecOK E (ofL S32) := specOK_cons h48 (specOK_nil)
abbrev L32 : List (Nat × List Nat × Pat × LSp) := []
def sp32 : Sp := fun args τ K => asCons args fun a1 r1 => asD opT a1 fun x1 => asCons r1 fun a2 r2 => asD .bool a2 fun x2 => asNil r2 <| asNil τ <| c32 x1 x2 (fun z1 => K (.vec 0) [.row (.int .i64) z1 false])
theorem h32 : ∀ args τ K, sp32 args τ K → ACall E 32 args τ K := by
  intro args τ K h0
  unfold sp32 at h0
  obtain ⟨a1, r1, rfl, h1⟩ := asCons_inv h0; clear h0
  obtain ⟨x1, rfl, h2⟩ := asD_inv h1; clear h1
  obtain ⟨a2, r2, rfl, h3⟩ := asCons_inv h2; clear h2
  obtain ⟨x2, rfl, h4⟩ := asD_inv h3; clear h3
  obtain ⟨rfl, h5⟩ := asNil_inv h4; clear h4
  obtain ⟨rfl, h6⟩ := asNil_inv h5; clear h5
  exact ACall.spec2 (fn := Try.f32) (c := codeOf Try.f32) (S := ofL S32) (L := lofL L32) hS32 (by kernel_rfl) (by kernel_rfl) (inlOK _) (all_eq (by kernel_rfl : subsOf (E.info 32).keep (codeOf Try.f32) = []) (all_nil)) (by kernel_rfl) h6.of

abbrev Sl21r10 : List (Nat × Pat × Sp) := [(31, none, sp31), (32, none, sp32)]
theorem hSl21r10 : SpecOK E (ofL Sl21r10) := specOK_cons h31 (specOK_cons h32 (specOK_nil))
abbrev Ll21r10 : List (Nat × List Nat × Pat × LSp) := []
def lsl21r10 : LSp := fun vs σ K => asCons vs fun a1 r1 => asD (.sl wIT) a1 fun s1 => asCons r1 fun a2 r2 => asP (.vec 0) a2 <| asCons r2 fun a3 r3 => asP (.vec 1) a3 <| asCons r3 fun a4 r4 => asD (.sl wIT) a4 fun s2 => asCons r4 fun a5 r5 => asD (.int .i64) a5 fun s3 => asCons r5 fun a6 r6 => asD (.int .i64) a6 fun s4 => asNil r6 <| asCons σ fun a7 r7 => asRw .bool false a7 fun s5 => asCons r7 fun a8 r8 => asRw (.int .i64) false a8 fun s6 => asNil r8 <| l21r10 (fun z1 => K (.exit 2) [(8, .vec 0)] [.row (.int .i64) z1 false]) s1 s2 s3 s4 s5 s6
theorem l21r10v : LoopV E (inlF (PA (ACall E)) E 8) (E.info 21).keep 0 Try.f21.ntmps 22000010 (body Try.f21 10) ([0, 5, 8, 31, 32, 33], lsl21r10) := by
  intro vs σ K (h0 : lsl21r10 vs σ K)
  unfold lsl21r10 at h0
  obtain ⟨a1, r1, rfl, h1⟩ := asCons_inv h0; clear h0
  obtain ⟨s1, rfl, h2⟩ := asD_inv h1; clear h1
  obtain ⟨a2, r2, rfl, h3⟩ := asCons_inv h2; clear h2
  obtain ⟨rfl, h4⟩ := asP_inv h3; clear h3
  obtain ⟨a3, r3, rfl, h5⟩ := asCons_inv h4; clear h4
  obtain ⟨rfl, h6⟩ := asP_inv h5; clear h5
  obtain ⟨a4, r4, rfl, h7⟩ := asCons_inv h6; clear h6
  obtain ⟨s2, rfl, h8⟩ := asD_inv h7; clear h7
  obtain ⟨a5, r5, rfl, h9⟩ := asCons_inv h8; clear h8
  obtain ⟨s3, rfl, h10⟩ := asD_inv h9; clear h9
  obtain ⟨a6, r6, rfl, h11⟩ := asCons_inv h10; clear h10
  obtain ⟨s4, rfl, h12⟩ := asD_inv h11; clear h11
  obtain ⟨rfl, h13⟩ := asNil_inv h12; clear h12
  obtain ⟨a7, r7, rfl, h14⟩ := asCons_inv h13; clear h13
  obtain ⟨s5, rfl, h15⟩ := asRw_inv h14; clear h14
  obtain ⟨a8, r8, rfl, h16⟩ := asCons_inv h15; clear h15
  obtain ⟨s6, rfl, h17⟩ := asRw_inv h16; clear h16
  obtain ⟨rfl, h18⟩ := asNil_inv h17; clear h17
  intro J hJ
  have hp : ∀ c' ∈ subsOf (E.info 21).keep (body Try.f21 10), SubOK E (inlF (PA (ACall E)) E 8) (E.info 21).keep 0 Try.f21.ntmps (lofL Ll21r10) c' := all_eq (by kernel_rfl : subsOf (E.info 21).keep (body Try.f21 10) = []) (all_nil)
  exact h18.of (fun s1 s2 s3 s4 s5 s6 => J [(22000010, .undef), (0, .d (.sl wIT) s1), (5, .vec 0), (8, .vec 1), (31, .d (.sl wIT) s2), (32, I s3), (33, I s4)] [.row .bool s5 false, .row (.int .i64) s6 false]) (fun s1 s2 s3 s4 s5 s6 hb => loop_round2 (S := ofL Sl21r10) (L := lofL Ll21r10) hSl21r10 (inlOK _) hp hJ (by kernel_rfl) hb)

abbrev S21 : List (Nat × Pat × Sp) := [(20, none, sp20)]
theorem hS21 : SpecOK E (ofL S21) := specOK_cons h20 (specOK_nil)
abbrev L21 : List (Nat × List Nat × Pat × LSp) := [(22000003, [0, 1, 5, 14, 15, 16], none, lsl21r3), (22000010, [0, 5, 8, 31, 32, 33], none, lsl21r10)]
def sp21 : Sp := fun args τ K => asCons args fun a1 r1 => asD (.sl wIT) a1 fun x1 => asCons r1 fun a2 r2 => asD .bool a2 fun x2 => asNil r2 <| asNil τ <| c21 x1 x2 (fun z1 => K (.vec 0) [.row (.int .i64) z1 false])
theorem h21 : ∀ args τ K, sp21 args τ K → ACall E 21 args τ K := by
  intro args τ K h0
  unfold sp21 at h0
  obtain ⟨a1, r1, rfl, h1⟩ := asCons_inv h0; clear h0
  obtain ⟨x1, rfl, h2⟩ := asD_inv h1; clear h1
  obtain ⟨a2, r2, rfl, h3⟩ := asCons_inv h2; clear h2
  obtain ⟨x2, rfl, h4⟩ := asD_inv h3; clear h3
  obtain ⟨rfl, h5⟩ := asNil_inv h4; clear h4
  obtain ⟨rfl, h6⟩ := asNil_inv h5; clear h5
  exact ACall.spec2 (fn := Try.f21) (c := codeOf Try.f21) (S := ofL S21) (L := lofL L21) hS21 (by kernel_rfl) (by kernel_rfl) (inlOK _) (all_eq (by kernel_rfl : subsOf (E.info 21).keep (codeOf Try.f21) = [.loop (body Try.f21 3), .loop (body Try.f21 10)]) (all_cons (loopOK_of (mk := 22000003) (sl := [0, 1, 5, 14, 15, 16]) (ss := [([0, 1, 5, 14, 15, 16], lsl21r3)]) (by kernel_rfl) (by kernel_rfl) (all_cons l21r3v (all_nil))) (all_cons (loopOK_of (mk := 22000010) (sl := [0, 5, 8, 31, 32, 33]) (ss := [([0, 5, 8, 31, 32, 33], lsl21r10)]) (by kernel_rfl) (by kernel_rfl) (all_cons l21r10v (all_nil))) (all_nil)))) (by kernel_rfl) h6.of

abbrev Sl9r49 : List (Nat × Pat × Sp) := []
theorem hSl9r49 : SpecOK E (ofL Sl9r49) := specOK_nil
abbrev Ll9r49 : List (Nat × List Nat × Pat × LSp) := []
def lsl9r49 : LSp := fun vs σ K => asCons vs fun a1 r1 => asD (.sl wLF) a1 fun s1 => asCons r1 fun a2 r2 => asP (.vec 0) a2 <| asCons r2 fun a3 r3 => asP (.ptr 1 0 []) a3 <| asCons r3 fun a4 r4 => asP (.vec 6) a4 <| asCons r4 fun a5 r5 => asP (.vec 7) a5 <| asCons r5 fun a6 r6 => asP (.ptr 8 0 []) a6 <| asCons r6 fun a7 r7 => asP (.vec 13) a7 <| asCons r7 fun a8 r8 => asD (.int .i64) a8 fun s2 => asCons r8 fun a9 r9 => asD (.int .i64) a9 fun s3 => asNil r9 <| asCons σ fun a10 r10 => asRw (.int .i64) false a10 fun s4 => asCons r10 fun a11 r11 => asOne (.pair (.sl (.int .i64)) (.pair (.int .i64) (.pair (.sl (.int .i64)) (.pair (.sl (.pair (.int .i64) (.pair (.int .i64) (.pair (.sl (.int .i64)) (.pair (.int .i64) .unit))))) (.pair (.sl (.pair (.int .i64) (.pair (.int .i64) (.pair (.int .i64) (.pair (.sl (.pair .str wCL)) .unit))))) .unit))))) a11 fun a12 => asAgL a12 fun l13 => asCons l13 fun a14 r14 => asP (.vec 2) a14 <| asCons r14 fun a15 r15 => asD (.int .i64) a15 fun s5 => asCons r15 fun a16 r16 => asP (.vec 3) a16 <| asCons r16 fun a17 r17 => asP (.vec 4) a17 <| asCons r17 fun a18 r18 => asP (.vec 5) a18 <| asNil r18 <| asCons r11 fun a19 r19 => asRw (.int .i64) false a19 fun s6 => asCons r19 fun a20 r20 => asRw (.int .i64) false a20 fun s7 => asCons r20 fun a21 r21 => asRw (.pair (.int .i64) (.pair (.int .i64) (.pair (.sl (.int .i64)) (.pair (.int .i64) .unit)))) false a21 fun s8 => asCons r21 fun a22 r22 => asRw (.pair (.int .i64) (.pair (.int .i64) (.pair (.int .i64) (.pair (.sl (.pair .str wCL)) .unit)))) false a22 fun s9 => asCons r22 fun a23 r23 => asRw (.int .i64) false a23 fun s10 => asCons r23 fun a24 r24 => asRw (.int .i64) false a24 fun s11 => asCons r24 fun a25 r25 => asOne (.pair (.sl (.int .i64)) (.pair (.int .i64) (.pair (.sl (.int .i64)) (.pair (.sl (.pair (.int .i64) (.pair (.int .i64) (.pair (.sl (.int .i64)) (.pair (.int .i64) .unit))))) (.pair (.sl (.pair (.int .i64) (.pair (.int .i64) (.pair (.int .i64) (.pair (.sl (.pair .str wCL)) .unit))))) .unit))))) a25 fun a26 => asAgL a26 fun l27 => asCons l27 fun a28 r28 => asP (.vec 9) a28 <| asCons r28 fun a29 r29 => asD (.int .i64) a29 fun s12 => asCons r29 fun a30 r30 => asP (.vec 10) a30 <| asCons r30 fun a31 r31 => asP (.vec 11) a31 <| asCons r31 fun a32 r32 => asP (.vec 12) a32 <| asNil r32 <| asCons r25 fun a33 r33 => asRw (.int .i64) false a33 fun s13 => asCons r33 fun a34 r34 => asRw (.int .i64) false a34 fun s14 => asCons r34 fun a35 r35 => asRw (.pair (.int .i64) (.pair (.int .i64) (.pair (.sl (.int .i64)) (.pair (.int .i64) .unit)))) false a35 fun s15 => asCons r35 fun a36 r36 => asRw (.pair (.int .i64) (.pair (.int .i64) (.pair (.int .i64) (.pair (.sl (.pair .str wCL)) .unit)))) false a36 fun s16 => asCons r36 fun a37 r37 => asRw wCL false a37 fun s17 => asNil r37 <| l9r49 (fun z1 z2 z3 z4 z5 z6 z7 z8 z9 z10 z11 z12 z13 z14 => K (.exit 10) [(0, .d (.sl wLF) z1), (1, .vec 0), (8, .ptr 1 0 []), (12, .vec 6), (24, .vec 7), (27, .ptr 8 0 [])] [.row (.int .i64) z2 false, .one (.pair (.sl (.int .i64)) (.pair (.int .i64) (.pair (.sl (.int .i64)) (.pair (.sl (.pair (.int .i64) (.pair (.int .i64) (.pair (.sl (.int .i64)) (.pair (.int .i64) .unit))))) (.pair (.sl (.pair (.int .i64) (.pair (.int .i64) (.pair (.int .i64) (.pair (.sl (.pair .str wCL)) .unit))))) .unit))))) (.agg [.vec 2, I z3, .vec 3, .vec 4, .vec 5]), .row (.int .i64) z4 false, .row (.int .i64) z5 false, .row (.pair (.int .i64) (.pair (.int .i64) (.pair (.sl (.int .i64)) (.pair (.int .i64) .unit)))) z6 false, .row (.pair (.int .i64) (.pair (.int .i64) (.pair (.int .i64) (.pair (.sl (.pair .str wCL)) .unit)))) z7 false, .row (.int .i64) z8 false, .row (.int .i64) z9 false, .one (.pair (.sl (.int .i64)) (.pair (.int .i64) (.pair (.sl (.int .i64)) (.pair (.sl (.pair (.int .i64) (.pair (.int .i64) (.pair (.sl (.int .i64)) (.pair (.int .i64) .unit))))) (.pair (.sl (.pair (.int .i64) (.pair (.int .i64) (.pair (.int .i64) (.pair (.sl (.pair .str wCL)) .unit))))) .unit))))) (.agg [.vec 9, I z10, .vec 10, .vec 11, .vec 12]), .row (.int .i64) z11 false, .row (.int .i64) z12 false, .row (.pair (.int .i64) (.pair (.int .i64) (.pair (.sl (.int .i64)) (.pair (.int .i64) .unit)))) z13 false, .row (.pair (.int .i64) (.pair (.int .i64) (.pair (.int .i64) (.pair (.sl (.pair .str wCL)) .unit)))) z14 false]) s1 s2 s3 s4 s5 s6 s7 s8 s9 s10 s11 s12 s13 s14 s15 s16 s17
theorem l9r49v : LoopV E (inlF (PA (ACall E)) E 8) (E.info 9).keep 1 Try.f9.ntmps 10000049 (body Try.f9 49) ([0, 1, 8, 12, 24, 27, 210, 211, 212], lsl9r49) := by
  intro vs σ K (h0 : lsl9r49 vs σ K)
  unfold lsl9r49 at h0
  obtain ⟨a1, r1, rfl, h1⟩ := asCons_inv h0; clear h0
  obtain ⟨s1, rfl, h2⟩ := asD_inv h1; clear h1
  obtain ⟨a2, r2, rfl, h3⟩ := asCons_inv h2; clear h2
  obtain ⟨rfl, h4⟩ := asP_inv h3; clear h3
  obtain ⟨a3, r3, rfl, h5⟩ := asCons_inv h4; clear h4
  obtain ⟨rfl, h6⟩ := asP_inv h5; clear h5
  obtain ⟨a4, r4, rfl, h7⟩ := asCons_inv h6; clear h6
  obtain ⟨rfl, h8⟩ := asP_inv h7; clear h7
  obtain ⟨a5, r5, rfl, h9⟩ := asCons_inv h8; clear h8
  obtain ⟨rfl, h10⟩ := asP_inv h9; clear h9
  obtain ⟨a6, r6, rfl, h11⟩ := asCons_inv h10; clear h10
  obtain ⟨rfl, h12⟩ := asP_inv h11; clear h11
  obtain ⟨a7, r7, rfl, h13⟩ := asCons_inv h12; clear h12
  obtain ⟨rfl, h14⟩ := asP_inv h13; clear h13
  obtain ⟨a8, r8, rfl, h15⟩ := asCons_inv h14; clear h14
  obtain ⟨s2, rfl, h16⟩ := asD_inv h15; clear h15
  obtain ⟨a9, r9, rfl, h17⟩ := asCons_inv h16; clear h16
  obtain ⟨s3, rfl, h18⟩ := asD_inv h17; clear h17
  obtain ⟨rfl, h19⟩ := asNil_inv h18; clear h18
  obtain ⟨a10, r10, rfl, h20⟩ := asCons_inv h19; clear h19
  obtain ⟨s4, rfl, h21⟩ := asRw_inv h20; clear h20
  obtain ⟨a11, r11, rfl, h22⟩ := asCons_inv h21; clear h21
  obtain ⟨a12, rfl, h23⟩ := asOne_inv h22; clear h22
  obtain ⟨l13, rfl, h24⟩ := asAgL_inv h23; clear h23
  obtain ⟨a14, r14, rfl, h25⟩ := asCons_inv h24; clear h24
  obtain ⟨rfl, h26⟩ := asP_inv h25; clear h25
  obtain ⟨a15, r15, rfl, h27⟩ := asCons_inv h26; clear h26
  obtain ⟨s5, rfl, h28⟩ := asD_inv h27; clear h27
  obtain ⟨a16, r16, rfl, h29⟩ := asCons_inv h28; clear h28
  obtain ⟨rfl, h30⟩ := asP_inv h29; clear h29
  obtain ⟨a17, r17, rfl, h31⟩ := asCons_inv h30; clear h30
  obtain ⟨rfl, h32⟩ := asP_inv h31; clear h31
  obtain ⟨a18, r18, rfl, h33⟩ := asCons_inv h32; clear h32
  obtain ⟨rfl, h34⟩ := asP_inv h33; clear h33
  obtain ⟨rfl, h35⟩ := asNil_inv h34; clear h34
  obtain ⟨a19, r19, rfl, h36⟩ := asCons_inv h35; clear h35
  obtain ⟨s6, rfl, h37⟩ := asRw_inv h36; clear h36
  obtain ⟨a20, r20, rfl, h38⟩ := asCons_inv h37; clear h37
  obtain ⟨s7, rfl, h39⟩ := asRw_inv h38; clear h38
  obtain ⟨a21, r21, rfl, h40⟩ := asCons_inv h39; clear h39
  obtain ⟨s8, rfl, h41⟩ := asRw_inv h40; clear h40
  obtain ⟨a22, r22, rfl, h42⟩ := asCons_inv h41; clear h41
  obtain ⟨s9, rfl, h43⟩ := asRw_inv h42; clear h42
  obtain ⟨a23, r23, rfl, h44⟩ := asCons_inv h43; clear h43
  obtain ⟨s10, rfl, h45⟩ := asRw_inv h44; clear h44
  obtain ⟨a24, r24, rfl, h46⟩ := asCons_inv h45; clear h45
  obtain ⟨s11, rfl, h47⟩ := asRw_inv h46; clear h46
  obtain ⟨a25, r25, rfl, h48⟩ := asCons_inv h47; clear h47
  obtain ⟨a26, rfl, h49⟩ := asOne_inv h48; clear h48
  obtain ⟨l27, rfl, h50⟩ := asAgL_inv h49; clear h49
  obtain ⟨a28, r28, rfl, h51⟩ := asCons_inv h50; clear h50
  obtain ⟨rfl, h52⟩ := asP_inv h51; clear h51
  obtain ⟨a29, r29, rfl, h53⟩ := asCons_inv h52; clear h52
  obtain ⟨s12, rfl, h54⟩ := asD_inv h53; clear h53
  obtain ⟨a30, r30, rfl, h55⟩ := asCons_inv h54; clear h54
  obtain ⟨rfl, h56⟩ := asP_inv h55; clear h55
  obtain ⟨a31, r31, rfl, h57⟩ := asCons_inv h56; clear h56
  obtain ⟨rfl, h58⟩ := asP_inv h57; clear h57
  obtain ⟨a32, r32, rfl, h59⟩ := asCons_inv h58; clear h58
  obtain ⟨rfl, h60⟩ := asP_inv h59; clear h59
  obtain ⟨rfl, h61⟩ := asNil_inv h60; clear h60
  obtain ⟨a33, r33, rfl, h62⟩ := asCons_inv h61; clear h61
  obtain ⟨s13, rfl, h63⟩ := asRw_inv h62; clear h62
  obtain ⟨a34, r34, rfl, h64⟩ := asCons_inv h63; clear h63
  obtain ⟨s14, rfl, h65⟩ := asRw_inv h64; clear h64
  obtain ⟨a35, r35, rfl, h66⟩ := asCons_inv h65; clear h65
  obtain ⟨s15, rfl, h67⟩ := asRw_inv h66; clear h66
  obtain ⟨a36, r36, rfl, h68⟩ := asCons_inv h67; clear h67
  obtain ⟨s16, rfl, h69⟩ := asRw_inv h68; clear h68
  obtain ⟨a37, r37, rfl, h70⟩ := asCons_inv h69; clear h69
  obtain ⟨s17, rfl, h71⟩ := asRw_inv h70; clear h70
  obtain ⟨rfl, h72⟩ := asNil_inv h71; clear h71
  intro J hJ
  have hp : ∀ c' ∈ subsOf (E.info 9).keep (body Try.f9 49), SubOK E (inlF (PA (ACall E)) E 8) (E.info 9).keep 1 Try.f9.ntmps (lofL Ll9r49) c' := all_eq (by kernel_rfl : subsOf (E.info 9).keep (body Try.f9 49) = []) (all_nil)
  exact h72.of (fun s1 s2 s3 s4 s5 s6 s7 s8 s9 s10 s11 s12 s13 s14 s15 s16 s17 => J [(10000049, .undef), (0, .d (.sl wLF) s1), (1, .vec 0), (8, .ptr 1 0 []), (12, .vec 6), (24, .vec 7), (27, .ptr 8 0 []), (210, .vec 13), (211, I s2), (212, I s3)] [.row (.int .i64) s4 false, .one (.pair (.sl (.int .i64)) (.pair (.int .i64) (.pair (.sl (.int .i64)) (.pair (.sl (.pair (.int .i64) (.pair (.int .i64) (.pair (.sl (.int .i64)) (.pair (.int .i64) .unit))))) (.pair (.sl (.pair (.int .i64) (.pair (.int .i64) (.pair (.int .i64) (.pair (.sl (.pair .str wCL)) .unit))))) .unit))))) (.agg [.vec 2, I s5, .vec 3, .vec 4, .vec 5]), .row (.int .i64) s6 false, .row (.int .i64) s7 false, .row (.pair (.int .i64) (.pair (.int .i64) (.pair (.sl (.int .i64)) (.pair (.int .i64) .unit)))) s8 false, .row (.pair (.int .i64) (.pair (.int .i64) (.pair (.int .i64) (.pair (.sl (.pair .str wCL)) .unit)))) s9 false, .row (.int .i64) s10 false, .row (.int .i64) s11 false, .one (.pair (.sl (.int .i64)) (.pair (.int .i64) (.pair (.sl (.int .i64)) (.pair (.sl (.pair (.int .i64) (.pair (.int .i64) (.pair (.sl (.int .i64)) (.pair (.int .i64) .unit))))) (.pair (.sl (.pair (.int .i64) (.pair (.int .i64) (.pair (.int .i64) (.pair (.sl (.pair .str wCL)) .unit))))) .unit))))) (.agg [.vec 9, I s12, .vec 10, .vec 11, .vec 12]), .row (.int .i64) s13 false, .row (.int .i64) s14 false, .row (.pair (.int .i64) (.pair (.int .i64) (.pair (.sl (.int .i64)) (.pair (.int .i64) .unit)))) s15 false, .row (.pair (.int .i64) (.pair (.int .i64) (.pair (.int .i64) (.pair (.sl (.pair .str wCL)) .unit)))) s16 false, .row wCL s17 false]) (fun s1 s2 s3 s4 s5 s6 s7 s8 s9 s10 s11 s12 s13 s14 s15 s16 s17 hb => loop_round2 (S := ofL Sl9r49) (L := lofL Ll9r49) hSl9r49 (inlOK _) hp hJ (by kernel_rfl) hb)

abbrev Sl9r61 : List (Nat × Pat × Sp) := []
theorem hSl9r61 : SpecOK E (ofL Sl9r61) := specOK_nil
abbrev Ll9r61 : List (Nat × List Nat × Pat × LSp) := []
def lsl9r61 : LSp := fun vs σ K => asCons vs fun a1 r1 => asP (.vec 0) a1 <| asCons r1 fun a2 r2 => asP (.ptr 1 0 []) a2 <| asCons r2 fun a3 r3 => asP (.vec 6) a3 <| asCons r3 fun a4 r4 => asP (.vec 7) a4 <| asCons r4 fun a5 r5 => asP (.ptr 8 0 []) a5 <| asCons r5 fun a6 r6 => asP (.vec 13) a6 <| asCons r6 fun a7 r7 => asD (.int .i64) a7 fun s1 => asCons r7 fun a8 r8 => asP (.ptr 14 0 []) a8 <| asCons r8 fun a9 r9 => asD (.sl wLF) a9 fun s2 => asCons r9 fun a10 r10 => asD (.int .i64) a10 fun s3 => asCons r10 fun a11 r11 => asD (.int .i64) a11 fun s4 => asCons r11 fun a12 r12 => asD (.sl wMP) a12 fun s5 => asCons r12 fun a13 r13 => asD (.int .i64) a13 fun s6 => asCons r13 fun a14 r14 => asD (.int .i64) a14 fun s7 => asNil r14 <| asCons σ fun a15 r15 => asRw (.int .i64) false a15 fun s8 => asCons r15 fun a16 r16 => asOne (.pair (.sl (.int .i64)) (.pair (.int .i64) (.pair (.sl (.int .i64)) (.pair (.sl (.pair (.int .i64) (.pair (.int .i64) (.pair (.sl (.int .i64)) (.pair (.int .i64) .unit))))) (.pair (.sl (.pair (.int .i64) (.pair (.int .i64) (.pair (.int .i64) (.pair (.sl (.pair .str wCL)) .unit))))) .unit))))) a16 fun a17 => asAgL a17 fun l18 => asCons l18 fun a19 r19 => asP (.vec 2) a19 <| asCons r19 fun a20 r20 => asD (.int .i64) a20 fun s9 => asCons r20 fun a21 r21 => asP (.vec 3) a21 <| asCons r21 fun a22 r22 => asP (.vec 4) a22 <| asCons r22 fun a23 r23 => asP (.vec 5) a23 <| asNil r23 <| asCons r16 fun a24 r24 => asRw (.int .i64) false a24 fun s10 => asCons r24 fun a25 r25 => asRw (.int .i64) false a25 fun s11 => asCons r25 fun a26 r26 => asRw (.pair (.int .i64) (.pair (.int .i64) (.pair (.sl (.int .i64)) (.pair (.int .i64) .unit)))) false a26 fun s12 => asCons r26 fun a27 r27 => asRw (.pair (.int .i64) (.pair (.int .i64) (.pair (.int .i64) (.pair (.sl (.pair .str wCL)) .unit)))) false a27 fun s13 => asCons r27 fun a28 r28 => asRw (.int .i64) false a28 fun s14 => asCons r28 fun a29 r29 => asRw (.int .i64) false a29 fun s15 => asCons r29 fun a30 r30 => asOne (.pair (.sl (.int .i64)) (.pair (.int .i64) (.pair (.sl (.int .i64)) (.pair (.sl (.pair (.int .i64) (.pair (.int .i64) (.pair (.sl (.int .i64)) (.pair (.int .i64) .unit))))) (.pair (.sl (.pair (.int .i64) (.pair (.int .i64) (.pair (.int .i64) (.pair (.sl (.pair .str wCL)) .unit))))) .unit))))) a30 fun a31 => asAgL a31 fun l32 => asCons l32 fun a33 r33 => asP (.vec 9) a33 <| asCons r33 fun a34 r34 => asD (.int .i64) a34 fun s16 => asCons r34 fun a35 r35 => asP (.vec 10) a35 <| asCons r35 fun a36 r36 => asP (.vec 11) a36 <| asCons r36 fun a37 r37 => asP (.vec 12) a37 <| asNil r37 <| asCons r30 fun a38 r38 => asRw (.int .i64) false a38 fun s17 => asCons r38 fun a39 r39 => asRw (.int .i64) false a39 fun s18 => asCons r39 fun a40 r40 => asRw (.pair (.int .i64) (.pair (.int .i64) (.pair (.sl (.int .i64)) (.pair (.int .i64) .unit)))) false a40 fun s19 => asCons r40 fun a41 r41 => asRw (.pair (.int .i64) (.pair (.int .i64) (.pair (.int .i64) (.pair (.sl (.pair .str wCL)) .unit)))) false a41 fun s20 => asCons r41 fun a42 r42 => asRw (.int .i64) false a42 fun s21 => asCons r42 fun a43 r43 => asOne wLF a43 fun a44 => asD wLF a44 fun s22 => asNil r43 <| l9r61 (fun z1 z2 z3 z4 z5 z6 z7 z8 z9 z10 z11 z12 z13 z14 z15 z16 z17 => K (.exit 14) [(1, .vec 0), (8, .ptr 1 0 []), (12, .vec 6), (24, .vec 7), (27, .ptr 8 0 []), (30, .vec 13), (236, .d (.sl wLF) z1), (237, I z2), (238, I z3)] [.row (.int .i64) z4 false, .one (.pair (.sl (.int .i64)) (.pair (.int .i64) (.pair (.sl (.int .i64)) (.pair (.sl (.pair (.int .i64) (.pair (.int .i64) (.pair (.sl (.int .i64)) (.pair (.int .i64) .unit))))) (.pair (.sl (.pair (.int .i64) (.pair (.int .i64) (.pair (.int .i64) (.pair (.sl (.pair .str wCL)) .unit))))) .unit))))) (.agg [.vec 2, I z5, .vec 3, .vec 4, .vec 5]), .row (.int .i64) z6 false, .row (.int .i64) z7 false, .row (.pair (.int .i64) (.pair (.int .i64) (.pair (.sl (.int .i64)) (.pair (.int .i64) .unit)))) z8 false, .row (.pair (.int .i64) (.pair (.int .i64) (.pair (.int .i64) (.pair (.sl (.pair .str wCL)) .unit)))) z9 false, .row (.int .i64) z10 false, .row (.int .i64) z11 false, .one (.pair (.sl (.int .i64)) (.pair (.int .i64) (.pair (.sl (.int .i64)) (.pair (.sl (.pair (.int .i64) (.pair (.int .i64) (.pair (.sl (.int .i64)) (.pair (.int .i64) .unit))))) (.pair (.sl (.pair (.int .i64) (.pair (.int .i64) (.pair (.int .i64) (.pair (.sl (.pair .str wCL)) .unit))))) .unit))))) (.agg [.vec 9, I z12, .vec 10, .vec 11, .vec 12]), .row (.int .i64) z13 false, .row (.int .i64) z14 false, .row (.pair (.int .i64) (.pair (.int .i64) (.pair (.sl (.int .i64)) (.pair (.int .i64) .unit)))) z15 false, .row (.pair (.int .i64) (.pair (.int .i64) (.pair (.int .i64) (.pair (.sl (.pair .str wCL)) .unit)))) z16 false, .row (.int .i64) z17 false]) s1 s2 s3 s4 s5 s6 s7 s8 s9 s10 s11 s12 s13 s14 s15 s16 s17 s18 s19 s20 s21 s22
theorem l9r61v : LoopV E (inlF (PA (ACall E)) E 8) (E.info 9).keep 1 Try.f9.ntmps 10000061 (body Try.f9 61) ([1, 8, 12, 24, 27, 30, 31, 32, 236, 237, 238, 275, 276, 277], lsl9r61) := by
  intro vs σ K (h0 : lsl9r61 vs σ K)
  unfold lsl9r61 at h0
  obtain ⟨a1, r1, rfl, h1⟩ := asCons_inv h0; clear h0
  obtain ⟨rfl, h2⟩ := asP_inv h1; clear h1
  obtain ⟨a2, r2, rfl, h3⟩ := asCons_inv h2; clear h2
  obtain ⟨rfl, h4⟩ := asP_inv h3; clear h3
  obtain ⟨a3, r3, rfl, h5⟩ := asCons_inv h4; clear h4
  obtain ⟨rfl, h6⟩ := asP_inv h5; clear h5
  obtain ⟨a4, r4, rfl, h7⟩ := asCons_inv h6; clear h6
  obtain ⟨rfl, h8⟩ := asP_inv h7; clear h7
  obtain ⟨a5, r5, rfl, h9⟩ := asCons_inv h8; clear h8
  obtain ⟨rfl, h10⟩ := asP_inv h9; clear h9
  obtain ⟨a6, r6, rfl, h11⟩ := asCons_inv h10; clear h10
  obtain ⟨rfl, h12⟩ := asP_inv h11; clear h11
  obtain ⟨a7, r7, rfl, h13⟩ := asCons_inv h12; clear h12
  obtain ⟨s1, rfl, h14⟩ := asD_inv h13; clear h13
  obtain ⟨a8, r8, rfl, h15⟩ := asCons_inv h14; clear h14
  obtain ⟨rfl, h16⟩ := asP_inv h15; clear h15
  obtain ⟨a9, r9, rfl, h17⟩ := asCons_inv h16; clear h16
  obtain ⟨s2, rfl, h18⟩ := asD_inv h17; clear h17
  obtain ⟨a10, r10, rfl, h19⟩ := asCons_inv h18; clear h18
  obtain ⟨s3, rfl, h20⟩ := asD_inv h19; clear h19
  obtain ⟨a11, r11, rfl, h21⟩ := asCons_inv h20; clear h20
  obtain ⟨s4, rfl, h22⟩ := asD_inv h21; clear h21
  obtain ⟨a12, r12, rfl, h23⟩ := asCons_inv h22; clear h22
  obtain ⟨s5, rfl, h24⟩ := asD_inv h23; clear h23
  obtain ⟨a13, r13, rfl, h25⟩ := asCons_inv h24; clear h24
  obtain ⟨s6, rfl, h26⟩ := asD_inv h25; clear h25
  obtain ⟨a14, r14, rfl, h27⟩ := asCons_inv h26; clear h26
  obtain ⟨s7, rfl, h28⟩ := asD_inv h27; clear h27
  obtain ⟨rfl, h29⟩ := asNil_inv h28; clear h28
  obtain ⟨a15, r15, rfl, h30⟩ := asCons_inv h29; clear h29
  obtain ⟨s8, rfl, h31⟩ := asRw_inv h30; clear h30
  obtain ⟨a16, r16, rfl, h32⟩ := asCons_inv h31; clear h31
  obtain ⟨a17, rfl, h33⟩ := asOne_inv h32; clear h32
  obtain ⟨l18, rfl, h34⟩ := asAgL_inv h33; clear h33
  obtain ⟨a19, r19, rfl, h35⟩ := asCons_inv h34; clear h34
  obtain ⟨rfl, h36⟩ := asP_inv h35; clear h35
  obtain ⟨a20, r20, rfl, h37⟩ := asCons_inv h36; clear h36
  obtain ⟨s9, rfl, h38⟩ := asD_inv h37; clear h37
  obtain ⟨a21, r21, rfl, h39⟩ := asCons_inv h38; clear h38
  obtain ⟨rfl, h40⟩ := asP_inv h39; clear h39
  obtain ⟨a22, r22, rfl, h41⟩ := asCons_inv h40; clear h40
  obtain ⟨rfl, h42⟩ := asP_inv h41; clear h41
  obtain ⟨a23, r23, rfl, h43⟩ := asCons_inv h42; clear h42
  obtain ⟨rfl, h44⟩ := asP_inv h43; clear h43
  obtain ⟨rfl, h45⟩ := asNil_inv h44; clear h44
  obtain ⟨a24, r24, rfl, h46⟩ := asCons_inv h45; clear h45
  obtain ⟨s10, rfl, h47⟩ := asRw_inv h46; clear h46
  obtain ⟨a25, r25, rfl, h48⟩ := asCons_inv h47; clear h47
  obtain ⟨s11, rfl, h49⟩ := asRw_inv h48; clear h48
  obtain ⟨a26, r26, rfl, h50⟩ := asCons_inv h49; clear h49
  obtain ⟨s12, rfl, h51⟩ := asRw_inv h50; clear h50
  obtain ⟨a27, r27, rfl, h52⟩ := asCons_inv h51; clear h51
  obtain ⟨s13, rfl, h53⟩ := asRw_inv h52; clear h52
  obtain ⟨a28, r28, rfl, h54⟩ := asCons_inv h53; clear h53
  obtain ⟨s14, rfl, h55⟩ := asRw_inv h54; clear h54
  obtain ⟨a29, r29, rfl, h56⟩ := asCons_inv h55; clear h55
  obtain ⟨s15, rfl, h57⟩ := asRw_inv h56; clear h56
  obtain ⟨a30, r30, rfl, h58⟩ := asCons_inv h57; clear h57
  obtain ⟨a31, rfl, h59⟩ := asOne_inv h58; clear h58
  obtain ⟨l32, rfl, h60⟩ := asAgL_inv h59; clear h59
  obtain ⟨a33, r33, rfl, h61⟩ := asCons_inv h60; clear h60
  obtain ⟨rfl, h62⟩ := asP_inv h61; clear h61
  obtain ⟨a34, r34, rfl, h63⟩ := asCons_inv h62; clear h62
  obtain ⟨s16, rfl, h64⟩ := asD_inv h63; clear h63
  obtain ⟨a35, r35, rfl, h65⟩ := asCons_inv h64; clear h64
  obtain ⟨rfl, h66⟩ := asP_inv h65; clear h65
  obtain ⟨a36, r36, rfl, h67⟩ := asCons_inv h66; clear h66
  obtain ⟨rfl, h68⟩ := asP_inv h67; clear h67
  obtain ⟨a37, r37, rfl, h69⟩ := asCons_inv h68; clear h68
  obtain ⟨rfl, h70⟩ := asP_inv h69; clear h69
  obtain ⟨rfl, h71⟩ := asNil_inv h70; clear h70
  obtain ⟨a38, r38, rfl, h72⟩ := asCons_inv h71; clear h71
  obtain ⟨s17, rfl, h73⟩ := asRw_inv h72; clear h72
  obtain ⟨a39, r39, rfl, h74⟩ := asCons_inv h73; clear h73
  obtain ⟨s18, rfl, h75⟩ := asRw_inv h74; clear h74
  obtain ⟨a40, r40, rfl, h76⟩ := asCons_inv h75; clear h75
  obtain ⟨s19, rfl, h77⟩ := asRw_inv h76; clear h76
  obtain ⟨a41, r41, rfl, h78⟩ := asCons_inv h77; clear h77
  obtain ⟨s20, rfl, h79⟩ := asRw_inv h78; clear h78
  obtain ⟨a42, r42, rfl, h80⟩ := asCons_inv h79; clear h79
  obtain ⟨s21, rfl, h81⟩ := asRw_inv h80; clear h80
  obtain ⟨a43, r43, rfl, h82⟩ := asCons_inv h81; clear h81
  obtain ⟨a44, rfl, h83⟩ := asOne_inv h82; clear h82
  obtain ⟨s22, rfl, h84⟩ := asD_inv h83; clear h83
  obtain ⟨rfl, h85⟩ := asNil_inv h84; clear h84
  intro J hJ
  have hp : ∀ c' ∈ subsOf (E.info 9).keep (body Try.f9 61), SubOK E (inlF (PA (ACall E)) E 8) (E.info 9).keep 1 Try.f9.ntmps (lofL Ll9r61) c' := all_eq (by kernel_rfl : subsOf (E.info 9).keep (body Try.f9 61) = []) (all_nil)
  exact h85.of (fun s1 s2 s3 s4 s5 s6 s7 s8 s9 s10 s11 s12 s13 s14 s15 s16 s17 s18 s19 s20 s21 s22 => J [(10000061, .undef), (1, .vec 0), (8, .ptr 1 0 []), (12, .vec 6), (24, .vec 7), (27, .ptr 8 0 []), (30, .vec 13), (31, I s1), (32, .ptr 14 0 []), (236, .d (.sl wLF) s2), (237, I s3), (238, I s4), (275, .d (.sl wMP) s5), (276, I s6), (277, I s7)] [.row (.int .i64) s8 false, .one (.pair (.sl (.int .i64)) (.pair (.int .i64) (.pair (.sl (.int .i64)) (.pair (.sl (.pair (.int .i64) (.pair (.int .i64) (.pair (.sl (.int .i64)) (.pair (.int .i64) .unit))))) (.pair (.sl (.pair (.int .i64) (.pair (.int .i64) (.pair (.int .i64) (.pair (.sl (.pair .str wCL)) .unit))))) .unit))))) (.agg [.vec 2, I s9, .vec 3, .vec 4, .vec 5]), .row (.int .i64) s10 false, .row (.int .i64) s11 false, .row (.pair (.int .i64) (.pair (.int .i64) (.pair (.sl (.int .i64)) (.pair (.int .i64) .unit)))) s12 false, .row (.pair (.int .i64) (.pair (.int .i64) (.pair (.int .i64) (.pair (.sl (.pair .str wCL)) .unit)))) s13 false, .row (.int .i64) s14 false, .row (.int .i64) s15 false, .one (.pair (.sl (.int .i64)) (.pair (.int .i64) (.pair (.sl (.int .i64)) (.pair (.sl (.pair (.int .i64) (.pair (.int .i64) (.pair (.sl (.int .i64)) (.pair (.int .i64) .unit))))) (.pair (.sl (.pair (.int .i64) (.pair (.int .i64) (.pair (.int .i64) (.pair (.sl (.pair .str wCL)) .unit))))) .unit))))) (.agg [.vec 9, I s16, .vec 10, .vec 11, .vec 12]), .row (.int .i64) s17 false, .row (.int .i64) s18 false, .row (.pair (.int .i64) (.pair (.int .i64) (.pair (.sl (.int .i64)) (.pair (.int .i64) .unit)))) s19 false, .row (.pair (.int .i64) (.pair (.int .i64) (.pair (.int .i64) (.pair (.sl (.pair .str wCL)) .unit)))) s20 false, .row (.int .i64) s21 false, .one wLF (.d wLF s22)]) (fun s1 s2 s3 s4 s5 s6 s7 s8 s9 s10 s11 s12 s13 s14 s15 s16 s17 s18 s19 s20 s21 s22 hb => loop_round2 (S := ofL Sl9r61) (L := lofL Ll9r61) hSl9r61 (inlOK _) hp hJ (by kernel_rfl) hb)

abbrev Sl9r55 : List (Nat × Pat × Sp) := []
theorem hSl9r55 : SpecOK E (ofL Sl9r55) := specOK_nil
abbrev Ll9r55 : List (Nat × List Nat × Pat × LSp) := [(10000061, [1, 8, 12, 24, 27, 30, 31, 32, 236, 237, 238, 275, 276, 277], none, lsl9r61)]
def lsl9r55 : LSp := fun vs σ K => asCons vs fun a1 r1 => asP (.vec 0) a1 <| asCons r1 fun a2 r2 => asP (.ptr 1 0 []) a2 <| asCons r2 fun a3 r3 => asP (.vec 6) a3 <| asCons r3 fun a4 r4 => asP (.vec 7) a4 <| asCons r4 fun a5 r5 => asP (.ptr 8 0 []) a5 <| asCons r5 fun a6 r6 => asP (.vec 13) a6 <| asCons r6 fun a7 r7 => asD (.sl wLF) a7 fun s1 => asCons r7 fun a8 r8 => asD (.int .i64) a8 fun s2 => asCons r8 fun a9 r9 => asD (.int .i64) a9 fun s3 => asNil r9 <| asCons σ fun a10 r10 => asRw (.int .i64) false a10 fun s4 => asCons r10 fun a11 r11 => asOne (.pair (.sl (.int .i64)) (.pair (.int .i64) (.pair (.sl (.int .i64)) (.pair (.sl (.pair (.int .i64) (.pair (.int .i64) (.pair (.sl (.int .i64)) (.pair (.int .i64) .unit))))) (.pair (.sl (.pair (.int .i64) (.pair (.int .i64) (.pair (.int .i64) (.pair (.sl (.pair .str wCL)) .unit))))) .unit))))) a11 fun a12 => asAgL a12 fun l13 => asCons l13 fun a14 r14 => asP (.vec 2) a14 <| asCons r14 fun a15 r15 => asD (.int .i64) a15 fun s5 => asCons r15 fun a16 r16 => asP (.vec 3) a16 <| asCons r16 fun a17 r17 => asP (.vec 4) a17 <| asCons r17 fun a18 r18 => asP (.vec 5) a18 <| asNil r18 <| asCons r11 fun a19 r19 => asRw (.int .i64) false a19 fun s6 => asCons r19 fun a20 r20 => asRw (.int .i64) false a20 fun s7 => asCons r20 fun a21 r21 => asRw (.pair (.int .i64) (.pair (.int .i64) (.pair (.sl (.int .i64)) (.pair (.int .i64) .unit)))) false a21 fun s8 => asCons r21 fun a22 r22 => asRw (.pair (.int .i64) (.pair (.int .i64) (.pair (.int .i64) (.pair (.sl (.pair .str wCL)) .unit)))) false a22 fun s9 => asCons r22 fun a23 r23 => asRw (.int .i64) false a23 fun s10 => asCons r23 fun a24 r24 => asRw (.int .i64) false a24 fun s11 => asCons r24 fun a25 r25 => asOne (.pair (.sl (.int .i64)) (.pair (.int .i64) (.pair (.sl (.int .i64)) (.pair (.sl (.pair (.int .i64) (.pair (.int .i64) (.pair (.sl (.int .i64)) (.pair (.int .i64) .unit))))) (.pair (.sl (.pair (.int .i64) (.pair (.int .i64) (.pair (.int .i64) (.pair (.sl (.pair .str wCL)) .unit))))) .unit))))) a25 fun a26 => asAgL a26 fun l27 => asCons l27 fun a28 r28 => asP (.vec 9) a28 <| asCons r28 fun a29 r29 => asD (.int .i64) a29 fun s12 => asCons r29 fun a30 r30 => asP (.vec 10) a30 <| asCons r30 fun a31 r31 => asP (.vec 11) a31 <| asCons r31 fun a32 r32 => asP (.vec 12) a32 <| asNil r32 <| asCons r25 fun a33 r33 => asRw (.int .i64) false a33 fun s13 => asCons r33 fun a34 r34 => asRw (.int .i64) false a34 fun s14 => asCons r34 fun a35 r35 => asRw (.pair (.int .i64) (.pair (.int .i64) (.pair (.sl (.int .i64)) (.pair (.int .i64) .unit)))) false a35 fun s15 => asCons r35 fun a36 r36 => asRw (.pair (.int .i64) (.pair (.int .i64) (.pair (.int .i64) (.pair (.sl (.pair .str wCL)) .unit)))) false a36 fun s16 => asCons r36 fun a37 r37 => asRw (.int .i64) false a37 fun s17 => asNil r37 <| l9r55 (fun z1 z2 z3 z4 z5 z6 z7 z8 z9 z10 z11 z12 => K (.exit 12) [(8, .ptr 1 0 []), (27, .ptr 6 0 []), (30, .vec 11)] [.row (.int .i64) z1 false, .one (.pair (.sl (.int .i64)) (.pair (.int .i64) (.pair (.sl (.int .i64)) (.pair (.sl (.pair (.int .i64) (.pair (.int .i64) (.pair (.sl (.int .i64)) (.pair (.int .i64) .unit))))) (.pair (.sl (.pair (.int .i64) (.pair (.int .i64) (.pair (.int .i64) (.pair (.sl (.pair .str wCL)) .unit))))) .unit))))) (.agg [.vec 2, I z2, .vec 3, .vec 4, .vec 5]), .row (.int .i64) z3 false, .row (.int .i64) z4 false, .row (.pair (.int .i64) (.pair (.int .i64) (.pair (.sl (.int .i64)) (.pair (.int .i64) .unit)))) z5 false, .row (.pair (.int .i64) (.pair (.int .i64) (.pair (.int .i64) (.pair (.sl (.pair .str wCL)) .unit)))) z6 false, .one (.pair (.sl (.int .i64)) (.pair (.int .i64) (.pair (.sl (.int .i64)) (.pair (.sl (.pair (.int .i64) (.pair (.int .i64) (.pair (.sl (.int .i64)) (.pair (.int .i64) .unit))))) (.pair (.sl (.pair (.int .i64) (.pair (.int .i64) (.pair (.int .i64) (.pair (.sl (.pair .str wCL)) .unit))))) .unit))))) (.agg [.vec 7, I z7, .vec 8, .vec 9, .vec 10]), .row (.int .i64) z8 false, .row (.int .i64) z9 false, .row (.pair (.int .i64) (.pair (.int .i64) (.pair (.sl (.int .i64)) (.pair (.int .i64) .unit)))) z10 false, .row (.pair (.int .i64) (.pair (.int .i64) (.pair (.int .i64) (.pair (.sl (.pair .str wCL)) .unit)))) z11 false, .row (.int .i64) z12 false]) s1 s2 s3 s4 s5 s6 s7 s8 s9 s10 s11 s12 s13 s14 s15 s16 s17
theorem l9r55v : LoopV E (inlF (PA (ACall E)) E 8) (E.info 9).keep 1 Try.f9.ntmps 10000055 (body Try.f9 55) ([1, 8, 12, 24, 27, 30, 236, 237, 238], lsl9r55) := by
  intro vs σ K (h0 : lsl9r55 vs σ K)
  unfold lsl9r55 at h0
  obtain ⟨a1, r1, rfl, h1⟩ := asCons_inv h0; clear h0
  obtain ⟨rfl, h2⟩ := asP_inv h1; clear h1
  obtain ⟨a2, r2, rfl, h3⟩ := asCons_inv h2; clear h2
  obtain ⟨rfl, h4⟩ := asP_inv h3; clear h3
  obtain ⟨a3, r3, rfl, h5⟩ := asCons_inv h4; clear h4
  obtain ⟨rfl, h6⟩ := asP_inv h5; clear h5
  obtain ⟨a4, r4, rfl, h7⟩ := asCons_inv h6; clear h6
  obtain ⟨rfl, h8⟩ := asP_inv h7; clear h7
  obtain ⟨a5, r5, rfl, h9⟩ := asCons_inv h8; clear h8
  obtain ⟨rfl, h10⟩ := asP_inv h9; clear h9
  obtain ⟨a6, r6, rfl, h11⟩ := asCons_inv h10; clear h10
  obtain ⟨rfl, h12⟩ := asP_inv h11; clear h11
  obtain ⟨a7, r7, rfl, h13⟩ := asCons_inv h12; clear h12
  obtain ⟨s1, rfl, h14⟩ := asD_inv h13; clear h13
  obtain ⟨a8, r8, rfl, h15⟩ := asCons_inv h14; clear h14
  obtain ⟨s2, rfl, h16⟩ := asD_inv h15; clear h15
  obtain ⟨a9, r9, rfl, h17⟩ := asCons_inv h16; clear h16
  obtain ⟨s3, rfl, h18⟩ := asD_inv h17; clear h17
  obtain ⟨rfl, h19⟩ := asNil_inv h18; clear h18
  obtain ⟨a10, r10, rfl, h20⟩ := asCons_inv h19; clear h19
  obtain ⟨s4, rfl, h21⟩ := asRw_inv h20; clear h20
  obtain ⟨a11, r11, rfl, h22⟩ := asCons_inv h21; clear h21
  obtain ⟨a12, rfl, h23⟩ := asOne_inv h22; clear h22
  obtain ⟨l13, rfl, h24⟩ := asAgL_inv h23; clear h23
  obtain ⟨a14, r14, rfl, h25⟩ := asCons_inv h24; clear h24
  obtain ⟨rfl, h26⟩ := asP_inv h25; clear h25
  obtain ⟨a15, r15, rfl, h27⟩ := asCons_inv h26; clear h26
  obtain ⟨s5, rfl, h28⟩ := asD_inv h27; clear h27
  obtain ⟨a16, r16, rfl, h29⟩ := asCons_inv h28; clear h28
  obtain ⟨rfl, h30⟩ := asP_inv h29; clear h29
  obtain ⟨a17, r17, rfl, h31⟩ := asCons_inv h30; clear h30
  obtain ⟨rfl, h32⟩ := asP_inv h31; clear h31
  obtain ⟨a18, r18, rfl, h33⟩ := asCons_inv h32; clear h32
  obtain ⟨rfl, h34⟩ := asP_inv h33; clear h33
  obtain ⟨rfl, h35⟩ := asNil_inv h34; clear h34
  obtain ⟨a19, r19, rfl, h36⟩ := asCons_inv h35; clear h35
  obtain ⟨s6, rfl, h37⟩ := asRw_inv h36; clear h36
  obtain ⟨a20, r20, rfl, h38⟩ := asCons_inv h37; clear h37
  obtain ⟨s7, rfl, h39⟩ := asRw_inv h38; clear h38
  obtain ⟨a21, r21, rfl, h40⟩ := asCons_inv h39; clear h39
  obtain ⟨s8, rfl, h41⟩ := asRw_inv h40; clear h40
  obtain ⟨a22, r22, rfl, h42⟩ := asCons_inv h41; clear h41
  obtain ⟨s9, rfl, h43⟩ := asRw_inv h42; clear h42
  obtain ⟨a23, r23, rfl, h44⟩ := asCons_inv h43; clear h43
  obtain ⟨s10, rfl, h45⟩ := asRw_inv h44; clear h44
  obtain ⟨a24, r24, rfl, h46⟩ := asCons_inv h45; clear h45
  obtain ⟨s11, rfl, h47⟩ := asRw_inv h46; clear h46
  obtain ⟨a25, r25, rfl, h48⟩ := asCons_inv h47; clear h47
  obtain ⟨a26, rfl, h49⟩ := asOne_inv h48; clear h48
  obtain ⟨l27, rfl, h50⟩ := asAgL_inv h49; clear h49
  obtain ⟨a28, r28, rfl, h51⟩ := asCons_inv h50; clear h50
  obtain ⟨rfl, h52⟩ := asP_inv h51; clear h51
  obtain ⟨a29, r29, rfl, h53⟩ := asCons_inv h52; clear h52
  obtain ⟨s12, rfl, h54⟩ := asD_inv h53; clear h53
  obtain ⟨a30, r30, rfl, h55⟩ := asCons_inv h54; clear h54
  obtain ⟨rfl, h56⟩ := asP_inv h55; clear h55
  obtain ⟨a31, r31, rfl, h57⟩ := asCons_inv h56; clear h56
  obtain ⟨rfl, h58⟩ := asP_inv h57; clear h57
  obtain ⟨a32, r32, rfl, h59⟩ := asCons_inv h58; clear h58
  obtain ⟨rfl, h60⟩ := asP_inv h59; clear h59
  obtain ⟨rfl, h61⟩ := asNil_inv h60; clear h60
  obtain ⟨a33, r33, rfl, h62⟩ := asCons_inv h61; clear h61
  obtain ⟨s13, rfl, h63⟩ := asRw_inv h62; clear h62
  obtain ⟨a34, r34, rfl, h64⟩ := asCons_inv h63; clear h63
  obtain ⟨s14, rfl, h65⟩ := asRw_inv h64; clear h64
  obtain ⟨a35, r35, rfl, h66⟩ := asCons_inv h65; clear h65
  obtain ⟨s15, rfl, h67⟩ := asRw_inv h66; clear h66
  obtain ⟨a36, r36, rfl, h68⟩ := asCons_inv h67; clear h67
  obtain ⟨s16, rfl, h69⟩ := asRw_inv h68; clear h68
  obtain ⟨a37, r37, rfl, h70⟩ := asCons_inv h69; clear h69
  obtain ⟨s17, rfl, h71⟩ := asRw_inv h70; clear h70
  obtain ⟨rfl, h72⟩ := asNil_inv h71; clear h71
  intro J hJ
  have hp : ∀ c' ∈ subsOf (E.info 9).keep (body Try.f9 55), SubOK E (inlF (PA (ACall E)) E 8) (E.info 9).keep 1 Try.f9.ntmps (lofL Ll9r55) c' := all_eq (by kernel_rfl : subsOf (E.info 9).keep (body Try.f9 55) = [.loop (body Try.f9 61)]) (all_cons (loopOK_of (mk := 10000061) (sl := [1, 8, 12, 24, 27, 30, 31, 32, 236, 237, 238, 275, 276, 277]) (ss := [([1, 8, 12, 24, 27, 30, 31, 32, 236, 237, 238, 275, 276, 277], lsl9r61)]) (by kernel_rfl) (by kernel_rfl) (all_cons l9r61v (all_nil))) (all_nil))
  exact h72.of (fun s1 s2 s3 s4 s5 s6 s7 s8 s9 s10 s11 s12 s13 s14 s15 s16 s17 => J [(10000055, .undef), (1, .vec 0), (8, .ptr 1 0 []), (12, .vec 6), (24, .vec 7), (27, .ptr 8 0 []), (30, .vec 13), (236, .d (.sl wLF) s1), (237, I s2), (238, I s3)] [.row (.int .i64) s4 false, .one (.pair (.sl (.int .i64)) (.pair (.int .i64) (.pair (.sl (.int .i64)) (.pair (.sl (.pair (.int .i64) (.pair (.int .i64) (.pair (.sl (.int .i64)) (.pair (.int .i64) .unit))))) (.pair (.sl (.pair (.int .i64) (.pair (.int .i64) (.pair (.int .i64) (.pair (.sl (.pair .str wCL)) .unit))))) .unit))))) (.agg [.vec 2, I s5, .vec 3, .vec 4, .vec 5]), .row (.int .i64) s6 false, .row (.int .i64) s7 false, .row (.pair (.int .i64) (.pair (.int .i64) (.pair (.sl (.int .i64)) (.pair (.int .i64) .unit)))) s8 false, .row (.pair (.int .i64) (.pair (.int .i64) (.pair (.int .i64) (.pair (.sl (.pair .str wCL)) .unit)))) s9 false, .row (.int .i64) s10 false, .row (.int .i64) s11 false, .one (.pair (.sl (.int .i64)) (.pair (.int .i64) (.pair (.sl (.int .i64)) (.pair (.sl (.pair (.int .i64) (.pair (.int .i64) (.pair (.sl (.int .i64)) (.pair (.int .i64) .unit))))) (.pair (.sl (.pair (.int .i64) (.pair (.int .i64) (.pair (.int .i64) (.pair (.sl (.pair .str wCL)) .unit))))) .unit))))) (.agg [.vec 9, I s12, .vec 10, .vec 11, .vec 12]), .row (.int .i64) s13 false, .row (.int .i64) s14 false, .row (.pair (.int .i64) (.pair (.int .i64) (.pair (.sl (.int .i64)) (.pair (.int .i64) .unit)))) s15 false, .row (.pair (.int .i64) (.pair (.int .i64) (.pair (.int .i64) (.pair (.sl (.pair .str wCL)) .unit)))) s16 false, .row (.int .i64) s17 false]) (fun s1 s2 s3 s4 s5 s6 s7 s8 s9 s10 s11 s12 s13 s14 s15 s16 s17 hb => loop_round2 (S := ofL Sl9r55) (L := lofL Ll9r55) hSl9r55 (inlOK _) hp hJ (by kernel_rfl) hb)

abbrev S9 : List (Nat × Pat × Sp) := [(20, none, sp20), (21, none, sp21)]
theorem hS9 : SpecOK E (ofL S9) := specOK_cons h20 (specOK_cons h21 (specOK_nil))
abbrev L9 : List (Nat × List Nat × Pat × LSp) := [(10000005, [0, 1, 2, 3, 8, 11, 12, 13, 44, 45, 46], none, lsl9r5), (10000014, [0, 1, 3, 8, 11, 12, 16, 77, 78, 79], none, lsl9r14), (10000039, [0, 1, 3, 8, 11, 12, 16, 23, 24, 163, 164, 165], none, lsl9r39), (10000049, [0, 1, 8, 12, 24, 27, 210, 211, 212], none, lsl9r49), (10000055, [1, 8, 12, 24, 27, 30, 236, 237, 238], none, lsl9r55)]
def sp9 : Sp := fun args τ K => asCons args fun a1 r1 => asD (.sl wLF) a1 fun x1 => asCons r1 fun a2 r2 => asP (.vec 0) a2 <| asCons r2 fun a3 r3 => asD (.int .i64) a3 fun x2 => asCons r3 fun a4 r4 => asD .bool a4 fun x3 => asNil r4 <| asCons τ fun a5 r5 => asRw (.int .i64) false a5 fun x4 => asNil r5 <| c9 x1 x2 x3 x4 (fun z1 z2 z3 z4 z5 z6 z7 z8 => K (.tup [.agg [.vec 1, I z1, .vec 2, .vec 3, .vec 4], .vec 5, B z2]) [.row (.int .i64) z3 false, .row (.int .i64) z4 false, .row (.int .i64) z5 false, .row (.pair (.int .i64) (.pair (.int .i64) (.pair (.sl (.int .i64)) (.pair (.int .i64) .unit)))) z6 false, .row (.pair (.int .i64) (.pair (.int .i64) (.pair (.int .i64) (.pair (.sl (.pair .str wCL)) .unit)))) z7 false, .row (.int .i64) z8 false])
theorem h9 : ∀ args τ K, sp9 args τ K → ACall E 9 args τ K := by
  intro args τ K h0
  unfold sp9 at h0
  obtain ⟨a1, r1, rfl, h1⟩ := asCons_inv h0; clear h0
  obtain ⟨x1, rfl, h2⟩ := asD_inv h1; clear h1
  obtain ⟨a2, r2, rfl, h3⟩ := asCons_inv h2; clear h2
  obtain ⟨rfl, h4⟩ := asP_inv h3; clear h3
  obtain ⟨a3, r3, rfl, h5⟩ := asCons_inv h4; clear h4
  obtain ⟨x2, rfl, h6⟩ := asD_inv h5; clear h5
  obtain ⟨a4, r4, rfl, h7⟩ := asCons_inv h6; clear h6
  obtain ⟨x3, rfl, h8⟩ := asD_inv h7; clear h7
  obtain ⟨rfl, h9⟩ := asNil_inv h8; clear h8
  obtain ⟨a5, r5, rfl, h10⟩ := asCons_inv h9; clear h9
  obtain ⟨x4, rfl, h11⟩ := asRw_inv h10; clear h10
  obtain ⟨rfl, h12⟩ := asNil_inv h11; clear h11
  exact ACall.spec2 (fn := Try.f9) (c := codeOf Try.f9) (S := ofL S9) (L := lofL L9) hS9 (by kernel_rfl) (by kernel_rfl) (inlOK _) (all_eq (by kernel_rfl : subsOf (E.info 9).keep (codeOf Try.f9) = [.loop (body Try.f9 5), .loop (body Try.f9 14), .loop (body Try.f9 39), .loop (body Try.f9 49), .loop (body Try.f9 55)]) (all_cons (loopOK_of (mk := 10000005) (sl := [0, 1, 2, 3, 8, 11, 12, 13, 44, 45, 46]) (ss := [([0, 1, 2, 3, 8, 11, 12, 13, 44, 45, 46], lsl9r5)]) (by kernel_rfl) (by kernel_rfl) (all_cons l9r5v (all_nil))) (all_cons (loopOK_of (mk := 10000014) (sl := [0, 1, 3, 8, 11, 12, 16, 77, 78, 79]) (ss := [([0, 1, 3, 8, 11, 12, 16, 77, 78, 79], lsl9r14)]) (by kernel_rfl) (by kernel_rfl) (all_cons l9r14v (all_nil))) (all_cons (loopOK_of (mk := 10000039) (sl := [0, 1, 3, 8, 11, 12, 16, 23, 24, 163, 164, 165]) (ss := [([0, 1, 3, 8, 11, 12, 16, 23, 24, 163, 164, 165], lsl9r39)]) (by kernel_rfl) (by kernel_rfl) (all_cons l9r39v (all_nil))) (all_cons (loopOK_of (mk := 10000049) (sl := [0, 1, 8, 12, 24, 27, 210, 211, 212]) (ss := [([0, 1, 8, 12, 24, 27, 210, 211, 212], lsl9r49)]) (by kernel_rfl) (by kernel_rfl) (all_cons l9r49v (all_nil))) (all_cons (loopOK_of (mk := 10000055) (sl := [1, 8, 12, 24, 27, 30, 236, 237, 238]) (ss := [([1, 8, 12, 24, 27, 30, 236, 237, 238], lsl9r55)]) (by kernel_rfl) (by kernel_rfl) (all_cons l9r55v (all_nil))) (all_nil))))))) (by kernel_rfl) h12.of

abbrev Sl3r26 : List (Nat × Pat × Sp) := [(10, none, sp10)]
theorem hSl3r26 : SpecOK E (ofL Sl3r26) := specOK_cons h10 (specOK_nil)
abbrev Ll3r26 : List (Nat × List Nat × Pat × LSp) := []
def lsl3r26 : LSp := fun vs σ K => asCons vs fun a1 r1 => asP (.ptr 0 0 []) a1 <| asCons r1 fun a2 r2 => asP (.vec 5) a2 <| asCons r2 fun a3 r3 => asD (.int .i64) a3 fun s1 => asCons r3 fun a4 r4 => asD (.int .i64) a4 fun s2 => asNil r4 <| asCons σ fun a5 r5 => asOne (.pair (.sl (.int .i64)) (.pair (.int .i64) (.pair (.sl (.int .i64)) (.pair (.sl (.pair (.int .i64) (.pair (.int .i64) (.pair (.sl (.int .i64)) (.pair (.int .i64) .unit))))) (.pair (.sl (.pair (.int .i64) (.pair (.int .i64) (.pair (.int .i64) (.pair (.sl (.pair .str wCL)) .unit))))) .unit))))) a5 fun a6 => asAgL a6 fun l7 => asCons l7 fun a8 r8 => asP (.vec 1) a8 <| asCons r8 fun a9 r9 => asD (.int .i64) a9 fun s3 => asCons r9 fun a10 r10 => asP (.vec 2) a10 <| asCons r10 fun a11 r11 => asP (.vec 3) a11 <| asCons r11 fun a12 r12 => asP (.vec 4) a12 <| asNil r12 <| asCons r5 fun a13 r13 => asRw (.int .i64) false a13 fun s4 => asCons r13 fun a14 r14 => asRw (.int .i64) false a14 fun s5 => asCons r14 fun a15 r15 => asRw (.pair (.int .i64) (.pair (.int .i64) (.pair (.sl (.int .i64)) (.pair (.int .i64) .unit)))) false a15 fun s6 => asCons r15 fun a16 r16 => asRw (.pair (.int .i64) (.pair (.int .i64) (.pair (.int .i64) (.pair (.sl (.pair .str wCL)) .unit)))) false a16 fun s7 => asCons r16 fun a17 r17 => asRw (.pair (.int .i64) (.pair (.int .i64) (.pair (.sl (.int .i64)) (.pair (.int .i64) .unit)))) false a17 fun s8 => asNil r17 <| l3r26 (fun z1 => K .ret [(8, B z1)] []) (K (.exit 2) [(8, .undef)] []) s1 s2 s3 s4 s5 s6 s7 s8
theorem l3r26v : LoopV E (inlF (PA (ACall E)) E 8) (E.info 3).keep 0 Try.f3.ntmps 4000026 (body Try.f3 26) ([15, 153, 154, 155], lsl3r26) := by
  intro vs σ K (h0 : lsl3r26 vs σ K)
  unfold lsl3r26 at h0
  obtain ⟨a1, r1, rfl, h1⟩ := asCons_inv h0; clear h0
  obtain ⟨rfl, h2⟩ := asP_inv h1; clear h1
  obtain ⟨a2, r2, rfl, h3⟩ := asCons_inv h2; clear h2
  obtain ⟨rfl, h4⟩ := asP_inv h3; clear h3
  obtain ⟨a3, r3, rfl, h5⟩ := asCons_inv h4; clear h4
  obtain ⟨s1, rfl, h6⟩ := asD_inv h5; clear h5
  obtain ⟨a4, r4, rfl, h7⟩ := asCons_inv h6; clear h6
  obtain ⟨s2, rfl, h8⟩ := asD_inv h7; clear h7
  obtain ⟨rfl, h9⟩ := asNil_inv h8; clear h8
  obtain ⟨a5, r5, rfl, h10⟩ := asCons_inv h9; clear h9
  obtain ⟨a6, rfl, h11⟩ := asOne_inv h10; clear h10
  obtain ⟨l7, rfl, h12⟩ := asAgL_inv h11; clear h11
  obtain ⟨a8, r8, rfl, h13⟩ := asCons_inv h12; clear h12
  obtain ⟨rfl, h14⟩ := asP_inv h13; clear h13
  obtain ⟨a9, r9, rfl, h15⟩ := asCons_inv h14; clear h14
  obtain ⟨s3, rfl, h16⟩ := asD_inv h15; clear h15
  obtain ⟨a10, r10, rfl, h17⟩ := asCons_inv h16; clear h16
  obtain ⟨rfl, h18⟩ := asP_inv h17; clear h17
  obtain ⟨a11, r11, rfl, h19⟩ := asCons_inv h18; clear h18
  obtain ⟨rfl, h20⟩ := asP_inv h19; clear h19
  obtain ⟨a12, r12, rfl, h21⟩ := asCons_inv h20; clear h20
  obtain ⟨rfl, h22⟩ := asP_inv h21; clear h21
  obtain ⟨rfl, h23⟩ := asNil_inv h22; clear h22
  obtain ⟨a13, r13, rfl, h24⟩ := asCons_inv h23; clear h23
  obtain ⟨s4, rfl, h25⟩ := asRw_inv h24; clear h24
  obtain ⟨a14, r14, rfl, h26⟩ := asCons_inv h25; clear h25
  obtain ⟨s5, rfl, h27⟩ := asRw_inv h26; clear h26
  obtain ⟨a15, r15, rfl, h28⟩ := asCons_inv h27; clear h27
  obtain ⟨s6, rfl, h29⟩ := asRw_inv h28; clear h28
  obtain ⟨a16, r16, rfl, h30⟩ := asCons_inv h29; clear h29
  obtain ⟨s7, rfl, h31⟩ := asRw_inv h30; clear h30
  obtain ⟨a17, r17, rfl, h32⟩ := asCons_inv h31; clear h31
  obtain ⟨s8, rfl, h33⟩ := asRw_inv h32; clear h32
  obtain ⟨rfl, h34⟩ := asNil_inv h33; clear h33
  intro J hJ
  have hp : ∀ c' ∈ subsOf (E.info 3).keep (body Try.f3 26), SubOK E (inlF (PA (ACall E)) E 8) (E.info 3).keep 0 Try.f3.ntmps (lofL Ll3r26) c' := all_eq (by kernel_rfl : subsOf (E.info 3).keep (body Try.f3 26) = []) (all_nil)
  exact h34.of (fun s1 s2 s3 s4 s5 s6 s7 s8 => J [(4000026, .undef), (15, .ptr 0 0 []), (153, .vec 5), (154, I s1), (155, I s2)] [.one (.pair (.sl (.int .i64)) (.pair (.int .i64) (.pair (.sl (.int .i64)) (.pair (.sl (.pair (.int .i64) (.pair (.int .i64) (.pair (.sl (.int .i64)) (.pair (.int .i64) .unit))))) (.pair (.sl (.pair (.int .i64) (.pair (.int .i64) (.pair (.int .i64) (.pair (.sl (.pair .str wCL)) .unit))))) .unit))))) (.agg [.vec 1, I s3, .vec 2, .vec 3, .vec 4]), .row (.int .i64) s4 false, .row (.int .i64) s5 false, .row (.pair (.int .i64) (.pair (.int .i64) (.pair (.sl (.int .i64)) (.pair (.int .i64) .unit)))) s6 false, .row (.pair (.int .i64) (.pair (.int .i64) (.pair (.int .i64) (.pair (.sl (.pair .str wCL)) .unit)))) s7 false, .row (.pair (.int .i64) (.pair (.int .i64) (.pair (.sl (.int .i64)) (.pair (.int .i64) .unit)))) s8 false]) (fun s1 s2 s3 s4 s5 s6 s7 s8 hb => loop_round2 (S := ofL Sl3r26) (L := lofL Ll3r26) hSl3r26 (inlOK _) hp hJ (by kernel_rfl) hb)

abbrev Sj3r18 : List (Nat × Pat × Sp) := [(9, none, sp9), (10, none, sp10)]
theorem hSj3r18 : SpecOK E (ofL Sj3r18) := specOK_cons h9 (specOK_cons h10 (specOK_nil))
abbrev Lj3r18 : List (Nat × List Nat × Pat × LSp) := [(4000026, [15, 153, 154, 155], none, lsl3r26)]
def lsj3r18 : LSp := fun vs σ K => asCons vs fun a1 r1 => asD (.sl wLF) a1 fun s1 => asCons r1 fun a2 r2 => asD (.int .i64) a2 fun s2 => asCons r2 fun a3 r3 => asD .bool a3 fun s3 => asCons r3 fun a4 r4 => asD (.int .i64) a4 fun s4 => asCons r4 fun a5 r5 => asP (.vec 0) a5 <| asCons r5 fun a6 r6 => asP (.ptr 1 0 []) a6 <| asCons r6 fun a7 r7 => asP (.vec 6) a7 <| asCons r7 fun a8 r8 => asD (.int .i64) a8 fun s5 => asNil r8 <| asCons σ fun a9 r9 => asRw (.int .i64) false a9 fun s6 => asCons r9 fun a10 r10 => asOne (.pair (.sl (.int .i64)) (.pair (.int .i64) (.pair (.sl (.int .i64)) (.pair (.sl (.pair (.int .i64) (.pair (.int .i64) (.pair (.sl (.int .i64)) (.pair (.int .i64) .unit))))) (.pair (.sl (.pair (.int .i64) (.pair (.int .i64) (.pair (.int .i64) (.pair (.sl (.pair .str wCL)) .unit))))) .unit))))) a10 fun a11 => asAgL a11 fun l12 => asCons l12 fun a13 r13 => asP (.vec 2) a13 <| asCons r13 fun a14 r14 => asD (.int .i64) a14 fun s7 => asCons r14 fun a15 r15 => asP (.vec 3) a15 <| asCons r15 fun a16 r16 => asP (.vec 4) a16 <| asCons r16 fun a17 r17 => asP (.vec 5) a17 <| asNil r17 <| asCons r10 fun a18 r18 => asRw (.int .i64) false a18 fun s8 => asCons r18 fun a19 r19 => asRw (.int .i64) false a19 fun s9 => asCons r19 fun a20 r20 => asRw (.pair (.int .i64) (.pair (.int .i64) (.pair (.sl (.int .i64)) (.pair (.int .i64) .unit)))) false a20 fun s10 => asCons r20 fun a21 r21 => asRw (.pair (.int .i64) (.pair (.int .i64) (.pair (.int .i64) (.pair (.sl (.pair .str wCL)) .unit)))) false a21 fun s11 => asCons r21 fun a22 r22 => asRw (.int .i64) false a22 fun s12 => asNil r22 <| j3r18 (fun z1 => K .ret [(8, B z1)] []) s1 s2 s3 s4 s5 s6 s7 s8 s9 s10 s11 s12
theorem j3r18v : JoinV E (inlF (PA (ACall E)) E 8) (E.info 3).keep 0 Try.f3.ntmps 4400018 4000018 (jbody Try.f3 4000018) ([0, 2, 3, 9, 10, 12, 13, 14], lsj3r18) := by
  intro vs σ K (h0 : lsj3r18 vs σ K)
  unfold lsj3r18 at h0
  obtain ⟨a1, r1, rfl, h1⟩ := asCons_inv h0; clear h0
  obtain ⟨s1, rfl, h2⟩ := asD_inv h1; clear h1
  obtain ⟨a2, r2, rfl, h3⟩ := asCons_inv h2; clear h2
  obtain ⟨s2, rfl, h4⟩ := asD_inv h3; clear h3
  obtain ⟨a3, r3, rfl, h5⟩ := asCons_inv h4; clear h4
  obtain ⟨s3, rfl, h6⟩ := asD_inv h5; clear h5
  obtain ⟨a4, r4, rfl, h7⟩ := asCons_inv h6; clear h6
  obtain ⟨s4, rfl, h8⟩ := asD_inv h7; clear h7
  obtain ⟨a5, r5, rfl, h9⟩ := asCons_inv h8; clear h8
  obtain ⟨rfl, h10⟩ := asP_inv h9; clear h9
  obtain ⟨a6, r6, rfl, h11⟩ := asCons_inv h10; clear h10
  obtain ⟨rfl, h12⟩ := asP_inv h11; clear h11
  obtain ⟨a7, r7, rfl, h13⟩ := asCons_inv h12; clear h12
  obtain ⟨rfl, h14⟩ := asP_inv h13; clear h13
  obtain ⟨a8, r8, rfl, h15⟩ := asCons_inv h14; clear h14
  obtain ⟨s5, rfl, h16⟩ := asD_inv h15; clear h15
  obtain ⟨rfl, h17⟩ := asNil_inv h16; clear h16
  obtain ⟨a9, r9, rfl, h18⟩ := asCons_inv h17; clear h17
  obtain ⟨s6, rfl, h19⟩ := asRw_inv h18; clear h18
  obtain ⟨a10, r10, rfl, h20⟩ := asCons_inv h19; clear h19
  obtain ⟨a11, rfl, h21⟩ := asOne_inv h20; clear h20
  obtain ⟨l12, rfl, h22⟩ := asAgL_inv h21; clear h21
  obtain ⟨a13, r13, rfl, h23⟩ := asCons_inv h22; clear h22
  obtain ⟨rfl, h24⟩ := asP_inv h23; clear h23
  obtain ⟨a14, r14, rfl, h25⟩ := asCons_inv h24; clear h24
  obtain ⟨s7, rfl, h26⟩ := asD_inv h25; clear h25
  obtain ⟨a15, r15, rfl, h27⟩ := asCons_inv h26; clear h26
  obtain ⟨rfl, h28⟩ := asP_inv h27; clear h27
  obtain ⟨a16, r16, rfl, h29⟩ := asCons_inv h28; clear h28
  obtain ⟨rfl, h30⟩ := asP_inv h29; clear h29
  obtain ⟨a17, r17, rfl, h31⟩ := asCons_inv h30; clear h30
  obtain ⟨rfl, h32⟩ := asP_inv h31; clear h31
  obtain ⟨rfl, h33⟩ := asNil_inv h32; clear h32
  obtain ⟨a18, r18, rfl, h34⟩ := asCons_inv h33; clear h33
  obtain ⟨s8, rfl, h35⟩ := asRw_inv h34; clear h34
  obtain ⟨a19, r19, rfl, h36⟩ := asCons_inv h35; clear h35
  obtain ⟨s9, rfl, h37⟩ := asRw_inv h36; clear h36
  obtain ⟨a20, r20, rfl, h38⟩ := asCons_inv h37; clear h37
  obtain ⟨s10, rfl, h39⟩ := asRw_inv h38; clear h38
  obtain ⟨a21, r21, rfl, h40⟩ := asCons_inv h39; clear h39
  obtain ⟨s11, rfl, h41⟩ := asRw_inv h40; clear h40
  obtain ⟨a22, r22, rfl, h42⟩ := asCons_inv h41; clear h41
  obtain ⟨s12, rfl, h43⟩ := asRw_inv h42; clear h42
  obtain ⟨rfl, h44⟩ := asNil_inv h43; clear h43
  exact join_round2 (S := ofL Sj3r18) (L := lofL Lj3r18) hSj3r18 (inlOK _) (all_eq (by kernel_rfl : subsOf (E.info 3).keep (jbody Try.f3 4000018) = [.loop (body Try.f3 26)]) (all_cons (loopOK_of (mk := 4000026) (sl := [15, 153, 154, 155]) (ss := [([15, 153, 154, 155], lsl3r26)]) (by kernel_rfl) (by kernel_rfl) (all_cons l3r26v (all_nil))) (all_nil))) (by kernel_rfl) h44.of

abbrev Sj3r15 : List (Nat × Pat × Sp) := [(8, none, sp8)]
theorem hSj3r15 : SpecOK E (ofL Sj3r15) := specOK_cons h8 (specOK_nil)
abbrev Lj3r15 : List (Nat × List Nat × Pat × LSp) := [(4400018, [0, 2, 3, 9, 10, 12, 13, 14], none, lsj3r18)]
def lsj3r15 : LSp := fun vs σ K => asCons vs fun a1 r1 => asD (.sl wLF) a1 fun s1 => asCons r1 fun a2 r2 => asD (.int .i64) a2 fun s2 => asCons r2 fun a3 r3 => asD .bool a3 fun s3 => asCons r3 fun a4 r4 => asD (.int .i64) a4 fun s4 => asCons r4 fun a5 r5 => asP (.vec 0) a5 <| asNil r5 <| asCons σ fun a6 r6 => asRw (.int .i64) false a6 fun s5 => asNil r6 <| j3r15 (fun z1 => K .ret [(8, B z1)] []) s1 s2 s3 s4 s5
theorem j3r15v : JoinV E (inlF (PA (ACall E)) E 8) (E.info 3).keep 0 Try.f3.ntmps 4400015 4000015 (jbody Try.f3 4000015) ([0, 2, 3, 9, 10], lsj3r15) := by
  intro vs σ K (h0 : lsj3r15 vs σ K)
  unfold lsj3r15 at h0
  obtain ⟨a1, r1, rfl, h1⟩ := asCons_inv h0; clear h0
  obtain ⟨s1, rfl, h2⟩ := asD_inv h1; clear h1
  obtain ⟨a2, r2, rfl, h3⟩ := asCons_inv h2; clear h2
  obtain ⟨s2, rfl, h4⟩ := asD_inv h3; clear h3
  obtain ⟨a3, r3, rfl, h5⟩ := asCons_inv h4; clear h4
  obtain ⟨s3, rfl, h6⟩ := asD_inv h5; clear h5
  obtain ⟨a4, r4, rfl, h7⟩ := asCons_inv h6; clear h6
  obtain ⟨s4, rfl, h8⟩ := asD_inv h7; clear h7
  obtain ⟨a5, r5, rfl, h9⟩ := asCons_inv h8; clear h8
  obtain ⟨rfl, h10⟩ := asP_inv h9; clear h9
  obtain ⟨rfl, h11⟩ := asNil_inv h10; clear h10
  obtain ⟨a6, r6, rfl, h12⟩ := asCons_inv h11; clear h11
  obtain ⟨s5, rfl, h13⟩ := asRw_inv h12; clear h12
  obtain ⟨rfl, h14⟩ := asNil_inv h13; clear h13
  exact join_round2 (S := ofL Sj3r15) (L := lofL Lj3r15) hSj3r15 (inlOK _) (all_eq (by kernel_rfl : subsOf (E.info 3).keep (jbody Try.f3 4000015) = [.join 4000018 (jbody Try.f3 4000018)]) (all_cons (joinOK_of (mk := 4400018) (sl := [0, 2, 3, 9, 10, 12, 13, 14]) (ss := [([0, 2, 3, 9, 10, 12, 13, 14], lsj3r18)]) (by kernel_rfl) (by kernel_rfl) (all_cons j3r18v (all_nil))) (all_nil))) (by kernel_rfl) h14.of

abbrev S3 : List (Nat × Pat × Sp) := [(4, none, sp4), (5, none, sp5), (6, none, sp6), (7, none, sp7)]
theorem hS3 : SpecOK E (ofL S3) := specOK_cons h4 (specOK_cons h5 (specOK_cons h6 (specOK_cons h7 (specOK_nil))))
abbrev L3 : List (Nat × List Nat × Pat × LSp) := [(4000009, [0, 1, 2, 3, 9, 10, 35, 36], none, lsl3r9), (4400015, [0, 2, 3, 9, 10], none, lsj3r15)]
def sp3 : Sp := fun args τ K => asCons args fun a1 r1 => asD (.sl wLF) a1 fun x1 => asCons r1 fun a2 r2 => asD .bool a2 fun x2 => asCons r2 fun a3 r3 => asD (.int .i64) a3 fun x3 => asCons r3 fun a4 r4 => asD .bool a4 fun x4 => asNil r4 <| asNil τ <| c3 x1 x2 x3 x4 (fun z1 => K (B z1) [])
theorem h3 : ∀ args τ K, sp3 args τ K → ACall E 3 args τ K := by
  intro args τ K h0
  unfold sp3 at h0
  obtain ⟨a1, r1, rfl, h1⟩ := asCons_inv h0; clear h0
  obtain ⟨x1, rfl, h2⟩ := asD_inv h1; clear h1
  obtain ⟨a2, r2, rfl, h3⟩ := asCons_inv h2; clear h2
  obtain ⟨x2, rfl, h4⟩ := asD_inv h3; clear h3
  obtain ⟨a3, r3, rfl, h5⟩ := asCons_inv h4; clear h4
  obtain ⟨x3, rfl, h6⟩ := asD_inv h5; clear h5
  obtain ⟨a4, r4, rfl, h7⟩ := asCons_inv h6; clear h6
  obtain ⟨x4, rfl, h8⟩ := asD_inv h7; clear h7
  obtain ⟨rfl, h9⟩ := asNil_inv h8; clear h8
  obtain ⟨rfl, h10⟩ := asNil_inv h9; clear h9
  exact ACall.spec2 (fn := Try.f3) (c := codeOf Try.f3) (S := ofL S3) (L := lofL L3) hS3 (by kernel_rfl) (by kernel_rfl) (inlOK _) (all_eq (by kernel_rfl : subsOf (E.info 3).keep (codeOf Try.f3) = [.loop (body Try.f3 9), .join 4000015 (jbody Try.f3 4000015)]) (all_cons (loopOK_of (mk := 4000009) (sl := [0, 1, 2, 3, 9, 10, 35, 36]) (ss := [([0, 1, 2, 3, 9, 10, 35, 36], lsl3r9)]) (by kernel_rfl) (by kernel_rfl) (all_cons l3r9v (all_nil))) (all_cons (joinOK_of (mk := 4400015) (sl := [0, 2, 3, 9, 10]) (ss := [([0, 2, 3, 9, 10], lsj3r15)]) (by kernel_rfl) (by kernel_rfl) (all_cons j3r15v (all_nil))) (all_nil)))) (by kernel_rfl) h10.of

end Go.Proofs.Ytmafnkmdnajicaa
