/- The functions compute that (printed by a program). -/
import Derived.Test.YtfdoaacapkopmaaAD3
import Derived.Test.YtfdoaacapkopmaaAEnvC
import Derived.KernelRfl
namespace Go.Proofs.Ytfdoaacapkopmaa
open Go.Abs
set_option maxRecDepth 100000
set_option maxHeartbeats 4000000
set_option linter.unusedVariables false
abbrev Sl15r5 : List (Nat × Pat × Sp) := []
theorem hSl15r5 : SpecOK E (ofL Sl15r5) := specOK_nil
abbrev Ll15r5 : List (Nat × List Nat × Pat × LSp) := []
def lsl15r5 : LSp := fun vs σ K => asCons vs fun a1 r1 => asP (.ptr 0 0 []) a1 <| asCons r1 fun a2 r2 => asD (.int .i64) a2 fun s1 => asCons r2 fun a3 r3 => asD (.int .i64) a3 fun s2 => asNil r3 <| asCons σ fun a4 r4 => asOne (.pair (.sl (.int .i64)) (.pair (.int .i64) .unit)) a4 fun a5 => asAgL a5 fun l6 => asCons l6 fun a7 r7 => asP (.vec 1) a7 <| asCons r7 fun a8 r8 => asD (.int .i64) a8 fun s3 => asNil r8 <| asCons r4 fun a9 r9 => asRw (.int .i64) false a9 fun s4 => asNil r9 <| l15r5 (fun z1 z2 => K (.exit 0) [(4, .ptr 0 0 [])] [.one (.pair (.sl (.int .i64)) (.pair (.int .i64) .unit)) (.agg [.vec 1, I z1]), .row (.int .i64) z2 false]) s1 s2 s3 s4
theorem l15r5v : LoopV E (inlF (PA (ACall E)) E 8) (E.info 15).keep 0 Try.f15.ntmps 16000005 (body Try.f15 5) ([4, 20, 21], lsl15r5) := by
  intro vs σ K (h0 : lsl15r5 vs σ K)
  unfold lsl15r5 at h0
  obtain ⟨a1, r1, rfl, h1⟩ := asCons_inv h0
  obtain ⟨rfl, h2⟩ := asP_inv h1
  obtain ⟨a2, r2, rfl, h3⟩ := asCons_inv h2
  obtain ⟨s1, rfl, h4⟩ := asD_inv h3
  obtain ⟨a3, r3, rfl, h5⟩ := asCons_inv h4
  obtain ⟨s2, rfl, h6⟩ := asD_inv h5
  obtain ⟨rfl, h7⟩ := asNil_inv h6
  obtain ⟨a4, r4, rfl, h8⟩ := asCons_inv h7
  obtain ⟨a5, rfl, h9⟩ := asOne_inv h8
  obtain ⟨l6, rfl, h10⟩ := asAgL_inv h9
  obtain ⟨a7, r7, rfl, h11⟩ := asCons_inv h10
  obtain ⟨rfl, h12⟩ := asP_inv h11
  obtain ⟨a8, r8, rfl, h13⟩ := asCons_inv h12
  obtain ⟨s3, rfl, h14⟩ := asD_inv h13
  obtain ⟨rfl, h15⟩ := asNil_inv h14
  obtain ⟨a9, r9, rfl, h16⟩ := asCons_inv h15
  obtain ⟨s4, rfl, h17⟩ := asRw_inv h16
  obtain ⟨rfl, h18⟩ := asNil_inv h17
  intro J hJ
  have hp : ∀ c' ∈ subsOf (E.info 15).keep (body Try.f15 5), SubOK E (inlF (PA (ACall E)) E 8) (E.info 15).keep 0 Try.f15.ntmps (lofL Ll15r5) c' := all_eq (by kernel_rfl : subsOf (E.info 15).keep (body Try.f15 5) = []) (all_nil)
  exact h18.of (fun s1 s2 s3 s4 => J [(16000005, .undef), (4, .ptr 0 0 []), (20, I s1), (21, I s2)] [.one (.pair (.sl (.int .i64)) (.pair (.int .i64) .unit)) (.agg [.vec 1, I s3]), .row (.int .i64) s4 false]) (fun s1 s2 s3 s4 hb => loop_round (S := ofL Sl15r5) (L := lofL Ll15r5) hSl15r5 (inlOK _) hp hJ (to _ (by kernel_rfl) hb))

abbrev S15 : List (Nat × Pat × Sp) := []
theorem hS15 : SpecOK E (ofL S15) := specOK_nil
abbrev L15 : List (Nat × List Nat × Pat × LSp) := [(16000005, [4, 20, 21], none, lsl15r5)]
def sp15 : Sp := fun args τ K => asCons args fun a1 r1 => asD (.int .i64) a1 fun x1 => asNil r1 <| asNil τ <| c15 x1 (fun z1 z2 => K (.tup [.d (.opq .ptr) z1, I z2]) []) (fun z1 z2 z3 => K (.tup [.ptr 0 0 [], I z1]) [.one (.pair (.sl (.int .i64)) (.pair (.int .i64) .unit)) (.agg [.vec 1, I z2]), .row (.int .i64) z3 false])
theorem h15 : ∀ args τ K, sp15 args τ K → ACall E 15 args τ K := by
  intro args τ K h0
  unfold sp15 at h0
  obtain ⟨a1, r1, rfl, h1⟩ := asCons_inv h0
  obtain ⟨x1, rfl, h2⟩ := asD_inv h1
  obtain ⟨rfl, h3⟩ := asNil_inv h2
  obtain ⟨rfl, h4⟩ := asNil_inv h3
  exact ACall.spec (fn := Try.f15) (c := codeOf Try.f15) (S := ofL S15) (L := lofL L15) hS15 (by kernel_rfl) (by kernel_rfl) (inlOK _) (all_eq (by kernel_rfl : subsOf (E.info 15).keep (codeOf Try.f15) = [.loop (body Try.f15 5)]) (all_cons (loopOK_of (mk := 16000005) (sl := [4, 20, 21]) (ss := [([4, 20, 21], lsl15r5)]) (by kernel_rfl) (by kernel_rfl) (all_cons l15r5v (all_nil))) (all_nil))) (to _ (by kernel_rfl) h4.of)

abbrev Sj3r2 : List (Nat × Pat × Sp) := [(15, none, sp15)]
theorem hSj3r2 : SpecOK E (ofL Sj3r2) := specOK_cons h15 (specOK_nil)
abbrev Lj3r2 : List (Nat × List Nat × Pat × LSp) := []
def lsj3r2 : LSp := fun vs σ K => asCons vs fun a1 r1 => asD (.int .i64) a1 fun s1 => asCons r1 fun a2 r2 => asD (.sl (.int .i64)) a2 fun s2 => asCons r2 fun a3 r3 => asD (.sl .bool) a3 fun s3 => asCons r3 fun a4 r4 => asD (.opq .ptr) a4 fun s4 => asCons r4 fun a5 r5 => asD (.int .i64) a5 fun s5 => asNil r5 <| asNil σ <| j3r2 (fun z1 => K .ret [(6, B z1)] []) s1 s2 s3 s4 s5
theorem j3r2v : JoinV E (inlF (PA (ACall E)) E 8) (E.info 3).keep 0 Try.f3.ntmps 4400002 4000002 (jbody Try.f3 4000002) ([0, 1, 2, 7, 8], lsj3r2) := by
  intro vs σ K (h0 : lsj3r2 vs σ K)
  unfold lsj3r2 at h0
  obtain ⟨a1, r1, rfl, h1⟩ := asCons_inv h0
  obtain ⟨s1, rfl, h2⟩ := asD_inv h1
  obtain ⟨a2, r2, rfl, h3⟩ := asCons_inv h2
  obtain ⟨s2, rfl, h4⟩ := asD_inv h3
  obtain ⟨a3, r3, rfl, h5⟩ := asCons_inv h4
  obtain ⟨s3, rfl, h6⟩ := asD_inv h5
  obtain ⟨a4, r4, rfl, h7⟩ := asCons_inv h6
  obtain ⟨s4, rfl, h8⟩ := asD_inv h7
  obtain ⟨a5, r5, rfl, h9⟩ := asCons_inv h8
  obtain ⟨s5, rfl, h10⟩ := asD_inv h9
  obtain ⟨rfl, h11⟩ := asNil_inv h10
  obtain ⟨rfl, h12⟩ := asNil_inv h11
  exact join_round (S := ofL Sj3r2) (L := lofL Lj3r2) hSj3r2 (inlOK _) (all_eq (by kernel_rfl : subsOf (E.info 3).keep (jbody Try.f3 4000002) = [.loop (body Try.f3 11)]) (all_cons (loopOK_of (mk := 4000011) (sl := [0, 1, 2, 7, 11, 12]) (ss := []) (by kernel_rfl) (by kernel_rfl) (all_nil)) (all_nil))) (to _ (by kernel_rfl) h12.of)

abbrev S16 : List (Nat × Pat × Sp) := []
theorem hS16 : SpecOK E (ofL S16) := specOK_nil
abbrev L16 : List (Nat × List Nat × Pat × LSp) := []
def sp16 : Sp := fun args τ K => asCons args fun a1 r1 => asP (.ptr 0 0 []) a1 <| asCons r1 fun a2 r2 => asD (.int .i64) a2 fun x1 => asNil r2 <| asCons τ fun a3 r3 => asOne (.pair (.sl (.int .i64)) (.pair (.int .i64) .unit)) a3 fun a4 => asAgL a4 fun l5 => asCons l5 fun a6 r6 => asP (.vec 1) a6 <| asCons r6 fun a7 r7 => asD (.int .i64) a7 fun x2 => asNil r7 <| asCons r3 fun a8 r8 => asRw (.int .i64) false a8 fun x3 => asNil r8 <| c16 x1 x2 x3 (fun z1 z2 z3 z4 => K (.tup [B z1, I z2]) [.one (.pair (.sl (.int .i64)) (.pair (.int .i64) .unit)) (.agg [.vec 1, I z3]), .row (.int .i64) z4 false])
theorem h16 : ∀ args τ K, sp16 args τ K → ACall E 16 args τ K := by
  intro args τ K h0
  unfold sp16 at h0
  obtain ⟨a1, r1, rfl, h1⟩ := asCons_inv h0
  obtain ⟨rfl, h2⟩ := asP_inv h1
  obtain ⟨a2, r2, rfl, h3⟩ := asCons_inv h2
  obtain ⟨x1, rfl, h4⟩ := asD_inv h3
  obtain ⟨rfl, h5⟩ := asNil_inv h4
  obtain ⟨a3, r3, rfl, h6⟩ := asCons_inv h5
  obtain ⟨a4, rfl, h7⟩ := asOne_inv h6
  obtain ⟨l5, rfl, h8⟩ := asAgL_inv h7
  obtain ⟨a6, r6, rfl, h9⟩ := asCons_inv h8
  obtain ⟨rfl, h10⟩ := asP_inv h9
  obtain ⟨a7, r7, rfl, h11⟩ := asCons_inv h10
  obtain ⟨x2, rfl, h12⟩ := asD_inv h11
  obtain ⟨rfl, h13⟩ := asNil_inv h12
  obtain ⟨a8, r8, rfl, h14⟩ := asCons_inv h13
  obtain ⟨x3, rfl, h15⟩ := asRw_inv h14
  obtain ⟨rfl, h16⟩ := asNil_inv h15
  exact ACall.spec (fn := Try.f16) (c := codeOf Try.f16) (S := ofL S16) (L := lofL L16) hS16 (by kernel_rfl) (by kernel_rfl) (inlOK _) (all_eq (by kernel_rfl : subsOf (E.info 16).keep (codeOf Try.f16) = []) (all_nil)) (to _ (by kernel_rfl) h16.of)

abbrev S17 : List (Nat × Pat × Sp) := [(16, none, sp16)]
theorem hS17 : SpecOK E (ofL S17) := specOK_cons h16 (specOK_nil)
abbrev L17 : List (Nat × List Nat × Pat × LSp) := []
def sp17 : Sp := fun args τ K => asCons args fun a1 r1 => asP (.ptr 0 0 []) a1 <| asCons r1 fun a2 r2 => asD (.int .i64) a2 fun x1 => asCons r2 fun a3 r3 => asD .bool a3 fun x2 => asNil r3 <| asCons τ fun a4 r4 => asOne (.pair (.sl (.int .i64)) (.pair (.int .i64) .unit)) a4 fun a5 => asAgL a5 fun l6 => asCons l6 fun a7 r7 => asP (.vec 1) a7 <| asCons r7 fun a8 r8 => asD (.int .i64) a8 fun x3 => asNil r8 <| asCons r4 fun a9 r9 => asRw (.int .i64) false a9 fun x4 => asNil r9 <| c17 x1 x2 x3 x4 (fun z1 z2 z3 z4 => K (.tup [B z1, I z2]) [.one (.pair (.sl (.int .i64)) (.pair (.int .i64) .unit)) (.agg [.vec 1, I z3]), .row (.int .i64) z4 false])
theorem h17 : ∀ args τ K, sp17 args τ K → ACall E 17 args τ K := by
  intro args τ K h0
  unfold sp17 at h0
  obtain ⟨a1, r1, rfl, h1⟩ := asCons_inv h0
  obtain ⟨rfl, h2⟩ := asP_inv h1
  obtain ⟨a2, r2, rfl, h3⟩ := asCons_inv h2
  obtain ⟨x1, rfl, h4⟩ := asD_inv h3
  obtain ⟨a3, r3, rfl, h5⟩ := asCons_inv h4
  obtain ⟨x2, rfl, h6⟩ := asD_inv h5
  obtain ⟨rfl, h7⟩ := asNil_inv h6
  obtain ⟨a4, r4, rfl, h8⟩ := asCons_inv h7
  obtain ⟨a5, rfl, h9⟩ := asOne_inv h8
  obtain ⟨l6, rfl, h10⟩ := asAgL_inv h9
  obtain ⟨a7, r7, rfl, h11⟩ := asCons_inv h10
  obtain ⟨rfl, h12⟩ := asP_inv h11
  obtain ⟨a8, r8, rfl, h13⟩ := asCons_inv h12
  obtain ⟨x3, rfl, h14⟩ := asD_inv h13
  obtain ⟨rfl, h15⟩ := asNil_inv h14
  obtain ⟨a9, r9, rfl, h16⟩ := asCons_inv h15
  obtain ⟨x4, rfl, h17⟩ := asRw_inv h16
  obtain ⟨rfl, h18⟩ := asNil_inv h17
  exact ACall.spec (fn := Try.f17) (c := codeOf Try.f17) (S := ofL S17) (L := lofL L17) hS17 (by kernel_rfl) (by kernel_rfl) (inlOK _) (all_eq (by kernel_rfl : subsOf (E.info 17).keep (codeOf Try.f17) = []) (all_nil)) (to _ (by kernel_rfl) h18.of)

abbrev Sl3r20 : List (Nat × Pat × Sp) := []
theorem hSl3r20 : SpecOK E (ofL Sl3r20) := specOK_nil
abbrev Ll3r20 : List (Nat × List Nat × Pat × LSp) := []
def lsl3r20 : LSp := fun vs σ K => asCons vs fun a1 r1 => asD (.int .i64) a1 fun s1 => asCons r1 fun a2 r2 => asD (.sl (.int .i64)) a2 fun s2 => asCons r2 fun a3 r3 => asD (.sl .bool) a3 fun s3 => asCons r3 fun a4 r4 => asP (.ptr 0 0 []) a4 <| asCons r4 fun a5 r5 => asD (.int .i64) a5 fun s4 => asCons r5 fun a6 r6 => asD (.int .i64) a6 fun s5 => asCons r6 fun a7 r7 => asD .bool a7 fun s6 => asCons r7 fun a8 r8 => asD (.int .i64) a8 fun s7 => asCons r8 fun a9 r9 => asD .bool a9 fun s8 => asCons r9 fun a10 r10 => asD (.int .i64) a10 fun s9 => asCons r10 fun a11 r11 => asP (.vec 2) a11 <| asCons r11 fun a12 r12 => asD (.int .i64) a12 fun s10 => asCons r12 fun a13 r13 => asD (.int .i64) a13 fun s11 => asNil r13 <| asCons σ fun a14 r14 => asOne (.pair (.sl (.int .i64)) (.pair (.int .i64) .unit)) a14 fun a15 => asAgL a15 fun l16 => asCons l16 fun a17 r17 => asP (.vec 1) a17 <| asCons r17 fun a18 r18 => asD (.int .i64) a18 fun s12 => asNil r18 <| asCons r14 fun a19 r19 => asRw (.int .i64) false a19 fun s13 => asCons r19 fun a20 r20 => asRw .bool false a20 fun s14 => asNil r20 <| l3r20 (fun z1 z2 z3 z4 z5 z6 z7 z8 z9 z10 z11 z12 => K (.exit 2) [(0, I z1), (1, .d (.sl (.int .i64)) z2), (2, .d (.sl .bool) z3), (7, .ptr 0 0 []), (11, I z4), (12, I z5), (13, B z6), (14, I z7), (15, B z8), (16, I z9), (17, .vec 2)] [.one (.pair (.sl (.int .i64)) (.pair (.int .i64) .unit)) (.agg [.vec 1, I z10]), .row (.int .i64) z11 false, .row .bool z12 false]) s1 s2 s3 s4 s5 s6 s7 s8 s9 s10 s11 s12 s13 s14
theorem l3r20v : LoopV E (inlF (PA (ACall E)) E 8) (E.info 3).keep 0 Try.f3.ntmps 4000020 (body Try.f3 20) ([0, 1, 2, 7, 11, 12, 13, 14, 15, 16, 17, 115, 116], lsl3r20) := by
  intro vs σ K (h0 : lsl3r20 vs σ K)
  unfold lsl3r20 at h0
  obtain ⟨a1, r1, rfl, h1⟩ := asCons_inv h0
  obtain ⟨s1, rfl, h2⟩ := asD_inv h1
  obtain ⟨a2, r2, rfl, h3⟩ := asCons_inv h2
  obtain ⟨s2, rfl, h4⟩ := asD_inv h3
  obtain ⟨a3, r3, rfl, h5⟩ := asCons_inv h4
  obtain ⟨s3, rfl, h6⟩ := asD_inv h5
  obtain ⟨a4, r4, rfl, h7⟩ := asCons_inv h6
  obtain ⟨rfl, h8⟩ := asP_inv h7
  obtain ⟨a5, r5, rfl, h9⟩ := asCons_inv h8
  obtain ⟨s4, rfl, h10⟩ := asD_inv h9
  obtain ⟨a6, r6, rfl, h11⟩ := asCons_inv h10
  obtain ⟨s5, rfl, h12⟩ := asD_inv h11
  obtain ⟨a7, r7, rfl, h13⟩ := asCons_inv h12
  obtain ⟨s6, rfl, h14⟩ := asD_inv h13
  obtain ⟨a8, r8, rfl, h15⟩ := asCons_inv h14
  obtain ⟨s7, rfl, h16⟩ := asD_inv h15
  obtain ⟨a9, r9, rfl, h17⟩ := asCons_inv h16
  obtain ⟨s8, rfl, h18⟩ := asD_inv h17
  obtain ⟨a10, r10, rfl, h19⟩ := asCons_inv h18
  obtain ⟨s9, rfl, h20⟩ := asD_inv h19
  obtain ⟨a11, r11, rfl, h21⟩ := asCons_inv h20
  obtain ⟨rfl, h22⟩ := asP_inv h21
  obtain ⟨a12, r12, rfl, h23⟩ := asCons_inv h22
  obtain ⟨s10, rfl, h24⟩ := asD_inv h23
  obtain ⟨a13, r13, rfl, h25⟩ := asCons_inv h24
  obtain ⟨s11, rfl, h26⟩ := asD_inv h25
  obtain ⟨rfl, h27⟩ := asNil_inv h26
  obtain ⟨a14, r14, rfl, h28⟩ := asCons_inv h27
  obtain ⟨a15, rfl, h29⟩ := asOne_inv h28
  obtain ⟨l16, rfl, h30⟩ := asAgL_inv h29
  obtain ⟨a17, r17, rfl, h31⟩ := asCons_inv h30
  obtain ⟨rfl, h32⟩ := asP_inv h31
  obtain ⟨a18, r18, rfl, h33⟩ := asCons_inv h32
  obtain ⟨s12, rfl, h34⟩ := asD_inv h33
  obtain ⟨rfl, h35⟩ := asNil_inv h34
  obtain ⟨a19, r19, rfl, h36⟩ := asCons_inv h35
  obtain ⟨s13, rfl, h37⟩ := asRw_inv h36
  obtain ⟨a20, r20, rfl, h38⟩ := asCons_inv h37
  obtain ⟨s14, rfl, h39⟩ := asRw_inv h38
  obtain ⟨rfl, h40⟩ := asNil_inv h39
  intro J hJ
  have hp : ∀ c' ∈ subsOf (E.info 3).keep (body Try.f3 20), SubOK E (inlF (PA (ACall E)) E 8) (E.info 3).keep 0 Try.f3.ntmps (lofL Ll3r20) c' := all_eq (by kernel_rfl : subsOf (E.info 3).keep (body Try.f3 20) = []) (all_nil)
  exact h40.of (fun s1 s2 s3 s4 s5 s6 s7 s8 s9 s10 s11 s12 s13 s14 => J [(4000020, .undef), (0, I s1), (1, .d (.sl (.int .i64)) s2), (2, .d (.sl .bool) s3), (7, .ptr 0 0 []), (11, I s4), (12, I s5), (13, B s6), (14, I s7), (15, B s8), (16, I s9), (17, .vec 2), (115, I s10), (116, I s11)] [.one (.pair (.sl (.int .i64)) (.pair (.int .i64) .unit)) (.agg [.vec 1, I s12]), .row (.int .i64) s13 false, .row .bool s14 false]) (fun s1 s2 s3 s4 s5 s6 s7 s8 s9 s10 s11 s12 s13 s14 hb => loop_round (S := ofL Sl3r20) (L := lofL Ll3r20) hSl3r20 (inlOK _) hp hJ (to _ (by kernel_rfl) hb))

abbrev Sl18r3 : List (Nat × Pat × Sp) := []
theorem hSl18r3 : SpecOK E (ofL Sl18r3) := specOK_nil
abbrev Ll18r3 : List (Nat × List Nat × Pat × LSp) := []
def lsl18r3 : LSp := fun vs σ K => asCons vs fun a1 r1 => asD (.int .i64) a1 fun s1 => asCons r1 fun a2 r2 => asD (.sl .bool) a2 fun s2 => asCons r2 fun a3 r3 => asD (.int .i64) a3 fun s3 => asCons r3 fun a4 r4 => asD (.int .i64) a4 fun s4 => asNil r4 <| asNil σ <| l18r3 (fun z1 => K (.exit 0) [(3, I z1)] []) s1 s2 s3 s4
theorem l18r3v : LoopV E (inlF (PA (ACall E)) E 8) (E.info 18).keep 0 Try.f18.ntmps 19000003 (body Try.f18 3) ([3, 6, 7, 8], lsl18r3) := by
  intro vs σ K (h0 : lsl18r3 vs σ K)
  unfold lsl18r3 at h0
  obtain ⟨a1, r1, rfl, h1⟩ := asCons_inv h0
  obtain ⟨s1, rfl, h2⟩ := asD_inv h1
  obtain ⟨a2, r2, rfl, h3⟩ := asCons_inv h2
  obtain ⟨s2, rfl, h4⟩ := asD_inv h3
  obtain ⟨a3, r3, rfl, h5⟩ := asCons_inv h4
  obtain ⟨s3, rfl, h6⟩ := asD_inv h5
  obtain ⟨a4, r4, rfl, h7⟩ := asCons_inv h6
  obtain ⟨s4, rfl, h8⟩ := asD_inv h7
  obtain ⟨rfl, h9⟩ := asNil_inv h8
  obtain ⟨rfl, h10⟩ := asNil_inv h9
  intro J hJ
  have hp : ∀ c' ∈ subsOf (E.info 18).keep (body Try.f18 3), SubOK E (inlF (PA (ACall E)) E 8) (E.info 18).keep 0 Try.f18.ntmps (lofL Ll18r3) c' := all_eq (by kernel_rfl : subsOf (E.info 18).keep (body Try.f18 3) = []) (all_nil)
  exact h10.of (fun s1 s2 s3 s4 => J [(19000003, .undef), (3, I s1), (6, .d (.sl .bool) s2), (7, I s3), (8, I s4)] []) (fun s1 s2 s3 s4 hb => loop_round (S := ofL Sl18r3) (L := lofL Ll18r3) hSl18r3 (inlOK _) hp hJ (to _ (by kernel_rfl) hb))

abbrev S18 : List (Nat × Pat × Sp) := []
theorem hS18 : SpecOK E (ofL S18) := specOK_nil
abbrev L18 : List (Nat × List Nat × Pat × LSp) := [(19000003, [3, 6, 7, 8], none, lsl18r3)]
def sp18 : Sp := fun args τ K => asCons args fun a1 r1 => asD (.sl .bool) a1 fun x1 => asNil r1 <| asNil τ <| c18 x1 (fun z1 => K (I z1) [])
theorem h18 : ∀ args τ K, sp18 args τ K → ACall E 18 args τ K := by
  intro args τ K h0
  unfold sp18 at h0
  obtain ⟨a1, r1, rfl, h1⟩ := asCons_inv h0
  obtain ⟨x1, rfl, h2⟩ := asD_inv h1
  obtain ⟨rfl, h3⟩ := asNil_inv h2
  obtain ⟨rfl, h4⟩ := asNil_inv h3
  exact ACall.spec (fn := Try.f18) (c := codeOf Try.f18) (S := ofL S18) (L := lofL L18) hS18 (by kernel_rfl) (by kernel_rfl) (inlOK _) (all_eq (by kernel_rfl : subsOf (E.info 18).keep (codeOf Try.f18) = [.loop (body Try.f18 3)]) (all_cons (loopOK_of (mk := 19000003) (sl := [3, 6, 7, 8]) (ss := [([3, 6, 7, 8], lsl18r3)]) (by kernel_rfl) (by kernel_rfl) (all_cons l18r3v (all_nil))) (all_nil))) (to _ (by kernel_rfl) h4.of)

abbrev S19 : List (Nat × Pat × Sp) := []
theorem hS19 : SpecOK E (ofL S19) := specOK_nil
abbrev L19 : List (Nat × List Nat × Pat × LSp) := []
def sp19 : Sp := fun args τ K => asCons args fun a1 r1 => asP (.ptr 0 0 []) a1 <| asNil r1 <| asCons τ fun a2 r2 => asOne (.pair (.sl (.int .i64)) (.pair (.int .i64) .unit)) a2 fun a3 => asAgL a3 fun l4 => asCons l4 fun a5 r5 => asP (.vec 1) a5 <| asCons r5 fun a6 r6 => asD (.int .i64) a6 fun x1 => asNil r6 <| asCons r2 fun a7 r7 => asRw (.int .i64) false a7 fun x2 => asNil r7 <| c19 x1 x2 (fun z1 z2 z3 => K (I z1) [.one (.pair (.sl (.int .i64)) (.pair (.int .i64) .unit)) (.agg [.vec 1, I z2]), .row (.int .i64) z3 false])
theorem h19 : ∀ args τ K, sp19 args τ K → ACall E 19 args τ K := by
  intro args τ K h0
  unfold sp19 at h0
  obtain ⟨a1, r1, rfl, h1⟩ := asCons_inv h0
  obtain ⟨rfl, h2⟩ := asP_inv h1
  obtain ⟨rfl, h3⟩ := asNil_inv h2
  obtain ⟨a2, r2, rfl, h4⟩ := asCons_inv h3
  obtain ⟨a3, rfl, h5⟩ := asOne_inv h4
  obtain ⟨l4, rfl, h6⟩ := asAgL_inv h5
  obtain ⟨a5, r5, rfl, h7⟩ := asCons_inv h6
  obtain ⟨rfl, h8⟩ := asP_inv h7
  obtain ⟨a6, r6, rfl, h9⟩ := asCons_inv h8
  obtain ⟨x1, rfl, h10⟩ := asD_inv h9
  obtain ⟨rfl, h11⟩ := asNil_inv h10
  obtain ⟨a7, r7, rfl, h12⟩ := asCons_inv h11
  obtain ⟨x2, rfl, h13⟩ := asRw_inv h12
  obtain ⟨rfl, h14⟩ := asNil_inv h13
  exact ACall.spec (fn := Try.f19) (c := codeOf Try.f19) (S := ofL S19) (L := lofL L19) hS19 (by kernel_rfl) (by kernel_rfl) (inlOK _) (all_eq (by kernel_rfl : subsOf (E.info 19).keep (codeOf Try.f19) = []) (all_nil)) (to _ (by kernel_rfl) h14.of)

abbrev Sl3r11 : List (Nat × Pat × Sp) := [(16, none, sp16), (17, none, sp17), (18, none, sp18), (19, none, sp19)]
theorem hSl3r11 : SpecOK E (ofL Sl3r11) := specOK_cons h16 (specOK_cons h17 (specOK_cons h18 (specOK_cons h19 (specOK_nil))))
abbrev Ll3r11 : List (Nat × List Nat × Pat × LSp) := [(4000020, [0, 1, 2, 7, 11, 12, 13, 14, 15, 16, 17, 115, 116], none, lsl3r20)]
def lsl3r11 : LSp := fun vs σ K => asCons vs fun a1 r1 => asD (.int .i64) a1 fun s1 => asCons r1 fun a2 r2 => asD (.sl (.int .i64)) a2 fun s2 => asCons r2 fun a3 r3 => asD (.sl .bool) a3 fun s3 => asCons r3 fun a4 r4 => asP (.ptr 0 0 []) a4 <| asCons r4 fun a5 r5 => asD (.int .i64) a5 fun s4 => asCons r5 fun a6 r6 => asD (.int .i64) a6 fun s5 => asNil r6 <| asCons σ fun a7 r7 => asOne (.pair (.sl (.int .i64)) (.pair (.int .i64) .unit)) a7 fun a8 => asAgL a8 fun l9 => asCons l9 fun a10 r10 => asP (.vec 1) a10 <| asCons r10 fun a11 r11 => asD (.int .i64) a11 fun s6 => asNil r11 <| asCons r7 fun a12 r12 => asRw (.int .i64) false a12 fun s7 => asNil r12 <| l3r11 (fun z1 => K .ret [(6, B z1)] []) (K (.exit 0) [(6, .undef)] []) s1 s2 s3 s4 s5 s6 s7
theorem l3r11v : LoopV E (inlF (PA (ACall E)) E 8) (E.info 3).keep 0 Try.f3.ntmps 4000011 (body Try.f3 11) ([0, 1, 2, 7, 11, 12], lsl3r11) := by
  intro vs σ K (h0 : lsl3r11 vs σ K)
  unfold lsl3r11 at h0
  obtain ⟨a1, r1, rfl, h1⟩ := asCons_inv h0
  obtain ⟨s1, rfl, h2⟩ := asD_inv h1
  obtain ⟨a2, r2, rfl, h3⟩ := asCons_inv h2
  obtain ⟨s2, rfl, h4⟩ := asD_inv h3
  obtain ⟨a3, r3, rfl, h5⟩ := asCons_inv h4
  obtain ⟨s3, rfl, h6⟩ := asD_inv h5
  obtain ⟨a4, r4, rfl, h7⟩ := asCons_inv h6
  obtain ⟨rfl, h8⟩ := asP_inv h7
  obtain ⟨a5, r5, rfl, h9⟩ := asCons_inv h8
  obtain ⟨s4, rfl, h10⟩ := asD_inv h9
  obtain ⟨a6, r6, rfl, h11⟩ := asCons_inv h10
  obtain ⟨s5, rfl, h12⟩ := asD_inv h11
  obtain ⟨rfl, h13⟩ := asNil_inv h12
  obtain ⟨a7, r7, rfl, h14⟩ := asCons_inv h13
  obtain ⟨a8, rfl, h15⟩ := asOne_inv h14
  obtain ⟨l9, rfl, h16⟩ := asAgL_inv h15
  obtain ⟨a10, r10, rfl, h17⟩ := asCons_inv h16
  obtain ⟨rfl, h18⟩ := asP_inv h17
  obtain ⟨a11, r11, rfl, h19⟩ := asCons_inv h18
  obtain ⟨s6, rfl, h20⟩ := asD_inv h19
  obtain ⟨rfl, h21⟩ := asNil_inv h20
  obtain ⟨a12, r12, rfl, h22⟩ := asCons_inv h21
  obtain ⟨s7, rfl, h23⟩ := asRw_inv h22
  obtain ⟨rfl, h24⟩ := asNil_inv h23
  intro J hJ
  have hp : ∀ c' ∈ subsOf (E.info 3).keep (body Try.f3 11), SubOK E (inlF (PA (ACall E)) E 8) (E.info 3).keep 0 Try.f3.ntmps (lofL Ll3r11) c' := all_eq (by kernel_rfl : subsOf (E.info 3).keep (body Try.f3 11) = [.loop (body Try.f3 20)]) (all_cons (loopOK_of (mk := 4000020) (sl := [0, 1, 2, 7, 11, 12, 13, 14, 15, 16, 17, 115, 116]) (ss := [([0, 1, 2, 7, 11, 12, 13, 14, 15, 16, 17, 115, 116], lsl3r20)]) (by kernel_rfl) (by kernel_rfl) (all_cons l3r20v (all_nil))) (all_nil))
  exact h24.of (fun s1 s2 s3 s4 s5 s6 s7 => J [(4000011, .undef), (0, I s1), (1, .d (.sl (.int .i64)) s2), (2, .d (.sl .bool) s3), (7, .ptr 0 0 []), (11, I s4), (12, I s5)] [.one (.pair (.sl (.int .i64)) (.pair (.int .i64) .unit)) (.agg [.vec 1, I s6]), .row (.int .i64) s7 false]) (fun s1 s2 s3 s4 s5 s6 s7 hb => loop_round (S := ofL Sl3r11) (L := lofL Ll3r11) hSl3r11 (inlOK _) hp hJ (to _ (by kernel_rfl) hb))

abbrev Sj3r2v2 : List (Nat × Pat × Sp) := [(15, none, sp15)]
theorem hSj3r2v2 : SpecOK E (ofL Sj3r2v2) := specOK_cons h15 (specOK_nil)
abbrev Lj3r2v2 : List (Nat × List Nat × Pat × LSp) := [(4000011, [0, 1, 2, 7, 11, 12], none, lsl3r11)]
def lsj3r2v2 : LSp := fun vs σ K => asCons vs fun a1 r1 => asD (.int .i64) a1 fun s1 => asCons r1 fun a2 r2 => asD (.sl (.int .i64)) a2 fun s2 => asCons r2 fun a3 r3 => asD (.sl .bool) a3 fun s3 => asCons r3 fun a4 r4 => asP (.ptr 0 0 []) a4 <| asCons r4 fun a5 r5 => asD (.int .i64) a5 fun s4 => asNil r5 <| asCons σ fun a6 r6 => asOne (.pair (.sl (.int .i64)) (.pair (.int .i64) .unit)) a6 fun a7 => asAgL a7 fun l8 => asCons l8 fun a9 r9 => asP (.vec 1) a9 <| asCons r9 fun a10 r10 => asD (.int .i64) a10 fun s5 => asNil r10 <| asCons r6 fun a11 r11 => asRw (.int .i64) false a11 fun s6 => asNil r11 <| j3r2v2 (fun z1 => K .ret [(6, B z1)] []) s1 s2 s3 s4 s5 s6
theorem j3r2v2v : JoinV E (inlF (PA (ACall E)) E 8) (E.info 3).keep 0 Try.f3.ntmps 4400002 4000002 (jbody Try.f3 4000002) ([0, 1, 2, 7, 8], lsj3r2v2) := by
  intro vs σ K (h0 : lsj3r2v2 vs σ K)
  unfold lsj3r2v2 at h0
  obtain ⟨a1, r1, rfl, h1⟩ := asCons_inv h0
  obtain ⟨s1, rfl, h2⟩ := asD_inv h1
  obtain ⟨a2, r2, rfl, h3⟩ := asCons_inv h2
  obtain ⟨s2, rfl, h4⟩ := asD_inv h3
  obtain ⟨a3, r3, rfl, h5⟩ := asCons_inv h4
  obtain ⟨s3, rfl, h6⟩ := asD_inv h5
  obtain ⟨a4, r4, rfl, h7⟩ := asCons_inv h6
  obtain ⟨rfl, h8⟩ := asP_inv h7
  obtain ⟨a5, r5, rfl, h9⟩ := asCons_inv h8
  obtain ⟨s4, rfl, h10⟩ := asD_inv h9
  obtain ⟨rfl, h11⟩ := asNil_inv h10
  obtain ⟨a6, r6, rfl, h12⟩ := asCons_inv h11
  obtain ⟨a7, rfl, h13⟩ := asOne_inv h12
  obtain ⟨l8, rfl, h14⟩ := asAgL_inv h13
  obtain ⟨a9, r9, rfl, h15⟩ := asCons_inv h14
  obtain ⟨rfl, h16⟩ := asP_inv h15
  obtain ⟨a10, r10, rfl, h17⟩ := asCons_inv h16
  obtain ⟨s5, rfl, h18⟩ := asD_inv h17
  obtain ⟨rfl, h19⟩ := asNil_inv h18
  obtain ⟨a11, r11, rfl, h20⟩ := asCons_inv h19
  obtain ⟨s6, rfl, h21⟩ := asRw_inv h20
  obtain ⟨rfl, h22⟩ := asNil_inv h21
  exact join_round (S := ofL Sj3r2v2) (L := lofL Lj3r2v2) hSj3r2v2 (inlOK _) (all_eq (by kernel_rfl : subsOf (E.info 3).keep (jbody Try.f3 4000002) = [.loop (body Try.f3 11)]) (all_cons (loopOK_of (mk := 4000011) (sl := [0, 1, 2, 7, 11, 12]) (ss := [([0, 1, 2, 7, 11, 12], lsl3r11)]) (by kernel_rfl) (by kernel_rfl) (all_cons l3r11v (all_nil))) (all_nil))) (to _ (by kernel_rfl) h22.of)

abbrev S3 : List (Nat × Pat × Sp) := [(15, none, sp15)]
theorem hS3 : SpecOK E (ofL S3) := specOK_cons h15 (specOK_nil)
abbrev L3 : List (Nat × List Nat × Pat × LSp) := [(4400002, [0, 1, 2, 7, 8], some ([.d (.int .i64), .d (.sl (.int .i64)), .d (.sl .bool), .d (.opq .ptr), .d (.int .i64)], []), lsj3r2), (4400002, [0, 1, 2, 7, 8], some ([.d (.int .i64), .d (.sl (.int .i64)), .d (.sl .bool), .fix (.ptr 0 0 []), .d (.int .i64)], [.one (.pair (.sl (.int .i64)) (.pair (.int .i64) .unit)) (.agg [.fix (.vec 1), .d (.int .i64)]), .row (.int .i64) false]), lsj3r2v2)]
def sp3 : Sp := fun args τ K => asCons args fun a1 r1 => asD (.int .i64) a1 fun x1 => asCons r1 fun a2 r2 => asD (.sl (.int .i64)) a2 fun x2 => asCons r2 fun a3 r3 => asD (.sl .bool) a3 fun x3 => asNil r3 <| asNil τ <| c3 x1 x2 x3 (fun z1 => K (B z1) [])
theorem h3 : ∀ args τ K, sp3 args τ K → ACall E 3 args τ K := by
  intro args τ K h0
  unfold sp3 at h0
  obtain ⟨a1, r1, rfl, h1⟩ := asCons_inv h0
  obtain ⟨x1, rfl, h2⟩ := asD_inv h1
  obtain ⟨a2, r2, rfl, h3⟩ := asCons_inv h2
  obtain ⟨x2, rfl, h4⟩ := asD_inv h3
  obtain ⟨a3, r3, rfl, h5⟩ := asCons_inv h4
  obtain ⟨x3, rfl, h6⟩ := asD_inv h5
  obtain ⟨rfl, h7⟩ := asNil_inv h6
  obtain ⟨rfl, h8⟩ := asNil_inv h7
  exact ACall.spec (fn := Try.f3) (c := codeOf Try.f3) (S := ofL S3) (L := lofL L3) hS3 (by kernel_rfl) (by kernel_rfl) (inlOK _) (all_eq (by kernel_rfl : subsOf (E.info 3).keep (codeOf Try.f3) = [.join 4000002 (jbody Try.f3 4000002)]) (all_cons (joinOK_of (mk := 4400002) (sl := [0, 1, 2, 7, 8]) (ss := [([0, 1, 2, 7, 8], lsj3r2), ([0, 1, 2, 7, 8], lsj3r2v2)]) (by kernel_rfl) (by kernel_rfl) (all_cons j3r2v (all_cons j3r2v2v (all_nil)))) (all_nil))) (to _ (by kernel_rfl) h8.of)

end Go.Proofs.Ytfdoaacapkopmaa
