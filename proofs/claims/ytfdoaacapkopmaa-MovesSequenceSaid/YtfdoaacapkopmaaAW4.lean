/- The functions compute that (printed by a program). -/
import Derived.Test.YtfdoaacapkopmaaAD4
import Derived.Test.YtfdoaacapkopmaaAEnvC
import Derived.KernelRfl
namespace Go.Proofs.Ytfdoaacapkopmaa
open Go.Abs
set_option maxRecDepth 100000
set_option maxHeartbeats 4000000
set_option linter.unusedVariables false
abbrev S93 : List (Nat × Pat × Sp) := []
theorem hS93 : SpecOK E (ofL S93) := specOK_nil
abbrev L93 : List (Nat × List Nat × Pat × LSp) := []
def sp93 : Sp := fun args τ K => asCons args fun a1 r1 => asD (.arr 2 (.int .i64)) a1 fun x1 => asCons r1 fun a2 r2 => asP (.ptr 0 0 []) a2 <| asNil r2 <| asCons τ fun a3 r3 => asOne (.arr 2 (.int .i64)) a3 fun a4 => asD (.arr 2 (.int .i64)) a4 fun x2 => asNil r3 <| c93 x1 x2 (fun z1 z2 => K (B z1) [.one (.arr 2 (.int .i64)) (.d (.arr 2 (.int .i64)) z2)])
theorem h93 : ∀ args τ K, sp93 args τ K → ACall E 93 args τ K := by
  intro args τ K h0
  unfold sp93 at h0
  obtain ⟨a1, r1, rfl, h1⟩ := asCons_inv h0; clear h0
  obtain ⟨x1, rfl, h2⟩ := asD_inv h1; clear h1
  obtain ⟨a2, r2, rfl, h3⟩ := asCons_inv h2; clear h2
  obtain ⟨rfl, h4⟩ := asP_inv h3; clear h3
  obtain ⟨rfl, h5⟩ := asNil_inv h4; clear h4
  obtain ⟨a3, r3, rfl, h6⟩ := asCons_inv h5; clear h5
  obtain ⟨a4, rfl, h7⟩ := asOne_inv h6; clear h6
  obtain ⟨x2, rfl, h8⟩ := asD_inv h7; clear h7
  obtain ⟨rfl, h9⟩ := asNil_inv h8; clear h8
  exact ACall.spec2 (fn := Try.f93) (c := codeOf Try.f93) (S := ofL S93) (L := lofL L93) hS93 (by kernel_rfl) (by kernel_rfl) (inlOK _) (all_eq (by kernel_rfl : subsOf (E.info 93).keep (codeOf Try.f93) = []) (all_nil)) (by kernel_rfl) h9.of

abbrev Sl97r2 : List (Nat × Pat × Sp) := [(93, none, sp93)]
theorem hSl97r2 : SpecOK E (ofL Sl97r2) := specOK_cons h93 (specOK_nil)
abbrev Ll97r2 : List (Nat × List Nat × Pat × LSp) := []
def lsl97r2 : LSp := fun vs σ K => asCons vs fun a1 r1 => asD (.sl (.arr 2 (.int .i64))) a1 fun s1 => asCons r1 fun a2 r2 => asFn 93 a2 fun l3 l4 => asNil l3 <| asCons l4 fun a5 r5 => asP (.ptr 0 0 []) a5 <| asNil r5 <| asCons r2 fun a6 r6 => asD (.int .i64) a6 fun s2 => asCons r6 fun a7 r7 => asD (.int .i64) a7 fun s3 => asNil r7 <| asCons σ fun a8 r8 => asOne (.arr 2 (.int .i64)) a8 fun a9 => asD (.arr 2 (.int .i64)) a9 fun s4 => asNil r8 <| l97r2 (fun z1 z2 => K .ret [(4, I z1)] [.one (.arr 2 (.int .i64)) (.d (.arr 2 (.int .i64)) z2)]) (fun z1 => K (.exit 0) [(4, .undef)] [.one (.arr 2 (.int .i64)) (.d (.arr 2 (.int .i64)) z1)]) s1 s2 s3 s4
theorem l97r2v : LoopV E (inlF (PA (ACall E)) E 8) (E.info 97).keep 1 Try.f97.ntmps 98000002 (body Try.f97 2) ([0, 1, 7, 8], lsl97r2) := by
  intro vs σ K (h0 : lsl97r2 vs σ K)
  unfold lsl97r2 at h0
  obtain ⟨a1, r1, rfl, h1⟩ := asCons_inv h0; clear h0
  obtain ⟨s1, rfl, h2⟩ := asD_inv h1; clear h1
  obtain ⟨a2, r2, rfl, h3⟩ := asCons_inv h2; clear h2
  obtain ⟨l3, l4, rfl, h4⟩ := asFn_inv h3; clear h3
  obtain ⟨rfl, h5⟩ := asNil_inv h4; clear h4
  obtain ⟨a5, r5, rfl, h6⟩ := asCons_inv h5; clear h5
  obtain ⟨rfl, h7⟩ := asP_inv h6; clear h6
  obtain ⟨rfl, h8⟩ := asNil_inv h7; clear h7
  obtain ⟨a6, r6, rfl, h9⟩ := asCons_inv h8; clear h8
  obtain ⟨s2, rfl, h10⟩ := asD_inv h9; clear h9
  obtain ⟨a7, r7, rfl, h11⟩ := asCons_inv h10; clear h10
  obtain ⟨s3, rfl, h12⟩ := asD_inv h11; clear h11
  obtain ⟨rfl, h13⟩ := asNil_inv h12; clear h12
  obtain ⟨a8, r8, rfl, h14⟩ := asCons_inv h13; clear h13
  obtain ⟨a9, rfl, h15⟩ := asOne_inv h14; clear h14
  obtain ⟨s4, rfl, h16⟩ := asD_inv h15; clear h15
  obtain ⟨rfl, h17⟩ := asNil_inv h16; clear h16
  intro J hJ
  have hp : ∀ c' ∈ subsOf (E.info 97).keep (body Try.f97 2), SubOK E (inlF (PA (ACall E)) E 8) (E.info 97).keep 1 Try.f97.ntmps (lofL Ll97r2) c' := all_eq (by kernel_rfl : subsOf (E.info 97).keep (body Try.f97 2) = []) (all_nil)
  exact h17.of (fun s1 s2 s3 s4 => J [(98000002, .undef), (0, .d (.sl (.arr 2 (.int .i64))) s1), (1, .fn 93 [] [.ptr 0 0 []]), (7, I s2), (8, I s3)] [.one (.arr 2 (.int .i64)) (.d (.arr 2 (.int .i64)) s4)]) (fun s1 s2 s3 s4 hb => loop_round2 (S := ofL Sl97r2) (L := lofL Ll97r2) hSl97r2 (inlOK _) hp hJ (by kernel_rfl) hb)

abbrev S97 : List (Nat × Pat × Sp) := []
theorem hS97 : SpecOK E (ofL S97) := specOK_nil
abbrev L97 : List (Nat × List Nat × Pat × LSp) := [(98000002, [0, 1, 7, 8], none, lsl97r2)]
def sp97 : Sp := fun args τ K => asCons args fun a1 r1 => asD (.sl (.arr 2 (.int .i64))) a1 fun x1 => asCons r1 fun a2 r2 => asFn 93 a2 fun l3 l4 => asNil l3 <| asCons l4 fun a5 r5 => asP (.ptr 0 0 []) a5 <| asNil r5 <| asNil r2 <| asCons τ fun a6 r6 => asOne (.arr 2 (.int .i64)) a6 fun a7 => asD (.arr 2 (.int .i64)) a7 fun x2 => asNil r6 <| c97 x1 x2 (fun z1 z2 => K (I z1) [.one (.arr 2 (.int .i64)) (.d (.arr 2 (.int .i64)) z2)])
theorem h97 : ∀ args τ K, sp97 args τ K → ACall E 97 args τ K := by
  intro args τ K h0
  unfold sp97 at h0
  obtain ⟨a1, r1, rfl, h1⟩ := asCons_inv h0; clear h0
  obtain ⟨x1, rfl, h2⟩ := asD_inv h1; clear h1
  obtain ⟨a2, r2, rfl, h3⟩ := asCons_inv h2; clear h2
  obtain ⟨l3, l4, rfl, h4⟩ := asFn_inv h3; clear h3
  obtain ⟨rfl, h5⟩ := asNil_inv h4; clear h4
  obtain ⟨a5, r5, rfl, h6⟩ := asCons_inv h5; clear h5
  obtain ⟨rfl, h7⟩ := asP_inv h6; clear h6
  obtain ⟨rfl, h8⟩ := asNil_inv h7; clear h7
  obtain ⟨rfl, h9⟩ := asNil_inv h8; clear h8
  obtain ⟨a6, r6, rfl, h10⟩ := asCons_inv h9; clear h9
  obtain ⟨a7, rfl, h11⟩ := asOne_inv h10; clear h10
  obtain ⟨x2, rfl, h12⟩ := asD_inv h11; clear h11
  obtain ⟨rfl, h13⟩ := asNil_inv h12; clear h12
  exact ACall.spec2 (fn := Try.f97) (c := codeOf Try.f97) (S := ofL S97) (L := lofL L97) hS97 (by kernel_rfl) (by kernel_rfl) (inlOK _) (all_eq (by kernel_rfl : subsOf (E.info 97).keep (codeOf Try.f97) = [.loop (body Try.f97 2)]) (all_cons (loopOK_of (mk := 98000002) (sl := [0, 1, 7, 8]) (ss := [([0, 1, 7, 8], lsl97r2)]) (by kernel_rfl) (by kernel_rfl) (all_cons l97r2v (all_nil))) (all_nil))) (by kernel_rfl) h13.of

abbrev S92 : List (Nat × Pat × Sp) := [(97, none, sp97)]
theorem hS92 : SpecOK E (ofL S92) := specOK_cons h97 (specOK_nil)
abbrev L92 : List (Nat × List Nat × Pat × LSp) := []
def sp92 : Sp := fun args τ K => asCons args fun a1 r1 => asD (.sl (.arr 2 (.int .i64))) a1 fun x1 => asCons r1 fun a2 r2 => asFn 93 a2 fun l3 l4 => asNil l3 <| asCons l4 fun a5 r5 => asP (.ptr 0 0 []) a5 <| asNil r5 <| asNil r2 <| asCons τ fun a6 r6 => asOne (.arr 2 (.int .i64)) a6 fun a7 => asD (.arr 2 (.int .i64)) a7 fun x2 => asNil r6 <| c92 x1 x2 (fun z1 z2 => K (B z1) [.one (.arr 2 (.int .i64)) (.d (.arr 2 (.int .i64)) z2)])
theorem h92 : ∀ args τ K, sp92 args τ K → ACall E 92 args τ K := by
  intro args τ K h0
  unfold sp92 at h0
  obtain ⟨a1, r1, rfl, h1⟩ := asCons_inv h0; clear h0
  obtain ⟨x1, rfl, h2⟩ := asD_inv h1; clear h1
  obtain ⟨a2, r2, rfl, h3⟩ := asCons_inv h2; clear h2
  obtain ⟨l3, l4, rfl, h4⟩ := asFn_inv h3; clear h3
  obtain ⟨rfl, h5⟩ := asNil_inv h4; clear h4
  obtain ⟨a5, r5, rfl, h6⟩ := asCons_inv h5; clear h5
  obtain ⟨rfl, h7⟩ := asP_inv h6; clear h6
  obtain ⟨rfl, h8⟩ := asNil_inv h7; clear h7
  obtain ⟨rfl, h9⟩ := asNil_inv h8; clear h8
  obtain ⟨a6, r6, rfl, h10⟩ := asCons_inv h9; clear h9
  obtain ⟨a7, rfl, h11⟩ := asOne_inv h10; clear h10
  obtain ⟨x2, rfl, h12⟩ := asD_inv h11; clear h11
  obtain ⟨rfl, h13⟩ := asNil_inv h12; clear h12
  exact ACall.spec2 (fn := Try.f92) (c := codeOf Try.f92) (S := ofL S92) (L := lofL L92) hS92 (by kernel_rfl) (by kernel_rfl) (inlOK _) (all_eq (by kernel_rfl : subsOf (E.info 92).keep (codeOf Try.f92) = []) (all_nil)) (by kernel_rfl) h13.of

abbrev Sl20r2 : List (Nat × Pat × Sp) := [(92, none, sp92)]
theorem hSl20r2 : SpecOK E (ofL Sl20r2) := specOK_cons h92 (specOK_nil)
abbrev Ll20r2 : List (Nat × List Nat × Pat × LSp) := []
def lsl20r2 : LSp := fun vs σ K => asCons vs fun a1 r1 => asD (.sl (.arr 2 (.int .i64))) a1 fun s1 => asCons r1 fun a2 r2 => asD (.int .i64) a2 fun s2 => asCons r2 fun a3 r3 => asD (.sl (.arr 2 (.int .i64))) a3 fun s3 => asCons r3 fun a4 r4 => asD (.int .i64) a4 fun s4 => asCons r4 fun a5 r5 => asD (.int .i64) a5 fun s5 => asNil r5 <| asNil σ <| l20r2 (fun z1 z2 => K .ret [(0, .undef), (1, .undef), (4, .vec 0), (5, I z1)] [.row (.arr 2 (.int .i64)) z2 false]) (fun z1 z2 => K (.exit 0) [(0, .d (.sl (.arr 2 (.int .i64))) z1), (1, I z2), (4, .undef), (5, .undef)] []) s1 s2 s3 s4 s5
theorem l20r2v : LoopV E (inlF (PA (ACall E)) E 8) (E.info 20).keep 0 Try.f20.ntmps 21000002 (body Try.f20 2) ([0, 1, 13, 14, 15], lsl20r2) := by
  intro vs σ K (h0 : lsl20r2 vs σ K)
  unfold lsl20r2 at h0
  obtain ⟨a1, r1, rfl, h1⟩ := asCons_inv h0; clear h0
  obtain ⟨s1, rfl, h2⟩ := asD_inv h1; clear h1
  obtain ⟨a2, r2, rfl, h3⟩ := asCons_inv h2; clear h2
  obtain ⟨s2, rfl, h4⟩ := asD_inv h3; clear h3
  obtain ⟨a3, r3, rfl, h5⟩ := asCons_inv h4; clear h4
  obtain ⟨s3, rfl, h6⟩ := asD_inv h5; clear h5
  obtain ⟨a4, r4, rfl, h7⟩ := asCons_inv h6; clear h6
  obtain ⟨s4, rfl, h8⟩ := asD_inv h7; clear h7
  obtain ⟨a5, r5, rfl, h9⟩ := asCons_inv h8; clear h8
  obtain ⟨s5, rfl, h10⟩ := asD_inv h9; clear h9
  obtain ⟨rfl, h11⟩ := asNil_inv h10; clear h10
  obtain ⟨rfl, h12⟩ := asNil_inv h11; clear h11
  intro J hJ
  have hp : ∀ c' ∈ subsOf (E.info 20).keep (body Try.f20 2), SubOK E (inlF (PA (ACall E)) E 8) (E.info 20).keep 0 Try.f20.ntmps (lofL Ll20r2) c' := all_eq (by kernel_rfl : subsOf (E.info 20).keep (body Try.f20 2) = []) (all_nil)
  exact h12.of (fun s1 s2 s3 s4 s5 => J [(21000002, .undef), (0, .d (.sl (.arr 2 (.int .i64))) s1), (1, I s2), (13, .d (.sl (.arr 2 (.int .i64))) s3), (14, I s4), (15, I s5)] []) (fun s1 s2 s3 s4 s5 hb => loop_round2 (S := ofL Sl20r2) (L := lofL Ll20r2) hSl20r2 (inlOK _) hp hJ (by kernel_rfl) hb)

abbrev S95 : List (Nat × Pat × Sp) := []
theorem hS95 : SpecOK E (ofL S95) := specOK_nil
abbrev L95 : List (Nat × List Nat × Pat × LSp) := []
def sp95 : Sp := fun args τ K => asCons args fun a1 r1 => asD (.sl (.arr 2 (.int .i64))) a1 fun x1 => asNil r1 <| asNil τ <| c95 x1 (fun z1 => K (.vec 0) [.row (.arr 2 (.int .i64)) z1 false])
theorem h95 : ∀ args τ K, sp95 args τ K → ACall E 95 args τ K := by
  intro args τ K h0
  unfold sp95 at h0
  obtain ⟨a1, r1, rfl, h1⟩ := asCons_inv h0; clear h0
  obtain ⟨x1, rfl, h2⟩ := asD_inv h1; clear h1
  obtain ⟨rfl, h3⟩ := asNil_inv h2; clear h2
  obtain ⟨rfl, h4⟩ := asNil_inv h3; clear h3
  exact ACall.spec2 (fn := Try.f95) (c := codeOf Try.f95) (S := ofL S95) (L := lofL L95) hS95 (by kernel_rfl) (by kernel_rfl) (inlOK _) (all_eq (by kernel_rfl : subsOf (E.info 95).keep (codeOf Try.f95) = []) (all_nil)) (by kernel_rfl) h4.of

abbrev S96 : List (Nat × Pat × Sp) := []
theorem hS96 : SpecOK E (ofL S96) := specOK_nil
abbrev L96 : List (Nat × List Nat × Pat × LSp) := []
def sp96 : Sp := fun args τ K => asCons args fun a1 r1 => asD (.arr 2 (.int .i64)) a1 fun x1 => asNil r1 <| asNil τ <| c96 x1 (fun z1 => K (B z1) [])
theorem h96 : ∀ args τ K, sp96 args τ K → ACall E 96 args τ K := by
  intro args τ K h0
  unfold sp96 at h0
  obtain ⟨a1, r1, rfl, h1⟩ := asCons_inv h0; clear h0
  obtain ⟨x1, rfl, h2⟩ := asD_inv h1; clear h1
  obtain ⟨rfl, h3⟩ := asNil_inv h2; clear h2
  obtain ⟨rfl, h4⟩ := asNil_inv h3; clear h3
  exact ACall.spec2 (fn := Try.f96) (c := codeOf Try.f96) (S := ofL S96) (L := lofL L96) hS96 (by kernel_rfl) (by kernel_rfl) (inlOK _) (all_eq (by kernel_rfl : subsOf (E.info 96).keep (codeOf Try.f96) = []) (all_nil)) (by kernel_rfl) h4.of

abbrev Sl97r2v2 : List (Nat × Pat × Sp) := [(96, none, sp96)]
theorem hSl97r2v2 : SpecOK E (ofL Sl97r2v2) := specOK_cons h96 (specOK_nil)
abbrev Ll97r2v2 : List (Nat × List Nat × Pat × LSp) := []
def lsl97r2v2 : LSp := fun vs σ K => asCons vs fun a1 r1 => asD (.sl (.arr 2 (.int .i64))) a1 fun s1 => asCons r1 fun a2 r2 => asFn 96 a2 fun l3 l4 => asNil l3 <| asNil l4 <| asCons r2 fun a5 r5 => asD (.int .i64) a5 fun s2 => asCons r5 fun a6 r6 => asD (.int .i64) a6 fun s3 => asNil r6 <| asNil σ <| l97r2v2 (fun z1 => K .ret [(4, I z1)] []) (K (.exit 0) [(4, .undef)] []) s1 s2 s3
theorem l97r2v2v : LoopV E (inlF (PA (ACall E)) E 8) (E.info 97).keep 0 Try.f97.ntmps 98000002 (body Try.f97 2) ([0, 1, 7, 8], lsl97r2v2) := by
  intro vs σ K (h0 : lsl97r2v2 vs σ K)
  unfold lsl97r2v2 at h0
  obtain ⟨a1, r1, rfl, h1⟩ := asCons_inv h0; clear h0
  obtain ⟨s1, rfl, h2⟩ := asD_inv h1; clear h1
  obtain ⟨a2, r2, rfl, h3⟩ := asCons_inv h2; clear h2
  obtain ⟨l3, l4, rfl, h4⟩ := asFn_inv h3; clear h3
  obtain ⟨rfl, h5⟩ := asNil_inv h4; clear h4
  obtain ⟨rfl, h6⟩ := asNil_inv h5; clear h5
  obtain ⟨a5, r5, rfl, h7⟩ := asCons_inv h6; clear h6
  obtain ⟨s2, rfl, h8⟩ := asD_inv h7; clear h7
  obtain ⟨a6, r6, rfl, h9⟩ := asCons_inv h8; clear h8
  obtain ⟨s3, rfl, h10⟩ := asD_inv h9; clear h9
  obtain ⟨rfl, h11⟩ := asNil_inv h10; clear h10
  obtain ⟨rfl, h12⟩ := asNil_inv h11; clear h11
  intro J hJ
  have hp : ∀ c' ∈ subsOf (E.info 97).keep (body Try.f97 2), SubOK E (inlF (PA (ACall E)) E 8) (E.info 97).keep 0 Try.f97.ntmps (lofL Ll97r2v2) c' := all_eq (by kernel_rfl : subsOf (E.info 97).keep (body Try.f97 2) = []) (all_nil)
  exact h12.of (fun s1 s2 s3 => J [(98000002, .undef), (0, .d (.sl (.arr 2 (.int .i64))) s1), (1, .fn 96 [] []), (7, I s2), (8, I s3)] []) (fun s1 s2 s3 hb => loop_round2 (S := ofL Sl97r2v2) (L := lofL Ll97r2v2) hSl97r2v2 (inlOK _) hp hJ (by kernel_rfl) hb)

abbrev S97v2 : List (Nat × Pat × Sp) := []
theorem hS97v2 : SpecOK E (ofL S97v2) := specOK_nil
abbrev L97v2 : List (Nat × List Nat × Pat × LSp) := [(98000002, [0, 1, 7, 8], none, lsl97r2v2)]
def sp97v2 : Sp := fun args τ K => asCons args fun a1 r1 => asD (.sl (.arr 2 (.int .i64))) a1 fun x1 => asCons r1 fun a2 r2 => asFn 96 a2 fun l3 l4 => asNil l3 <| asNil l4 <| asNil r2 <| asNil τ <| c97v2 x1 (fun z1 => K (I z1) [])
theorem h97v2 : ∀ args τ K, sp97v2 args τ K → ACall E 97 args τ K := by
  intro args τ K h0
  unfold sp97v2 at h0
  obtain ⟨a1, r1, rfl, h1⟩ := asCons_inv h0; clear h0
  obtain ⟨x1, rfl, h2⟩ := asD_inv h1; clear h1
  obtain ⟨a2, r2, rfl, h3⟩ := asCons_inv h2; clear h2
  obtain ⟨l3, l4, rfl, h4⟩ := asFn_inv h3; clear h3
  obtain ⟨rfl, h5⟩ := asNil_inv h4; clear h4
  obtain ⟨rfl, h6⟩ := asNil_inv h5; clear h5
  obtain ⟨rfl, h7⟩ := asNil_inv h6; clear h6
  obtain ⟨rfl, h8⟩ := asNil_inv h7; clear h7
  exact ACall.spec2 (fn := Try.f97) (c := codeOf Try.f97) (S := ofL S97v2) (L := lofL L97v2) hS97v2 (by kernel_rfl) (by kernel_rfl) (inlOK _) (all_eq (by kernel_rfl : subsOf (E.info 97).keep (codeOf Try.f97) = [.loop (body Try.f97 2)]) (all_cons (loopOK_of (mk := 98000002) (sl := [0, 1, 7, 8]) (ss := [([0, 1, 7, 8], lsl97r2v2)]) (by kernel_rfl) (by kernel_rfl) (all_cons l97r2v2v (all_nil))) (all_nil))) (by kernel_rfl) h8.of

abbrev Sl94r5 : List (Nat × Pat × Sp) := [(96, none, sp96)]
theorem hSl94r5 : SpecOK E (ofL Sl94r5) := specOK_cons h96 (specOK_nil)
abbrev Ll94r5 : List (Nat × List Nat × Pat × LSp) := []
def lsl94r5 : LSp := fun vs σ K => asCons vs fun a1 r1 => asP (.vec 0) a1 <| asCons r1 fun a2 r2 => asFn 96 a2 fun l3 l4 => asNil l3 <| asNil l4 <| asCons r2 fun a5 r5 => asD (.int .i64) a5 fun s1 => asCons r5 fun a6 r6 => asD (.int .i64) a6 fun s2 => asNil r6 <| asCons σ fun a7 r7 => asRw (.arr 2 (.int .i64)) false a7 fun s3 => asNil r7 <| l94r5 (fun z1 z2 => K (.exit 0) [(0, .vec 0), (5, I z1)] [.row (.arr 2 (.int .i64)) z2 false]) s1 s2 s3
theorem l94r5v : LoopV E (inlF (PA (ACall E)) E 8) (E.info 94).keep 1 Try.f94.ntmps 95000005 (body Try.f94 5) ([0, 1, 5, 6], lsl94r5) := by
  intro vs σ K (h0 : lsl94r5 vs σ K)
  unfold lsl94r5 at h0
  obtain ⟨a1, r1, rfl, h1⟩ := asCons_inv h0; clear h0
  obtain ⟨rfl, h2⟩ := asP_inv h1; clear h1
  obtain ⟨a2, r2, rfl, h3⟩ := asCons_inv h2; clear h2
  obtain ⟨l3, l4, rfl, h4⟩ := asFn_inv h3; clear h3
  obtain ⟨rfl, h5⟩ := asNil_inv h4; clear h4
  obtain ⟨rfl, h6⟩ := asNil_inv h5; clear h5
  obtain ⟨a5, r5, rfl, h7⟩ := asCons_inv h6; clear h6
  obtain ⟨s1, rfl, h8⟩ := asD_inv h7; clear h7
  obtain ⟨a6, r6, rfl, h9⟩ := asCons_inv h8; clear h8
  obtain ⟨s2, rfl, h10⟩ := asD_inv h9; clear h9
  obtain ⟨rfl, h11⟩ := asNil_inv h10; clear h10
  obtain ⟨a7, r7, rfl, h12⟩ := asCons_inv h11; clear h11
  obtain ⟨s3, rfl, h13⟩ := asRw_inv h12; clear h12
  obtain ⟨rfl, h14⟩ := asNil_inv h13; clear h13
  intro J hJ
  have hp : ∀ c' ∈ subsOf (E.info 94).keep (body Try.f94 5), SubOK E (inlF (PA (ACall E)) E 8) (E.info 94).keep 1 Try.f94.ntmps (lofL Ll94r5) c' := all_eq (by kernel_rfl : subsOf (E.info 94).keep (body Try.f94 5) = []) (all_nil)
  exact h14.of (fun s1 s2 s3 => J [(95000005, .undef), (0, .vec 0), (1, .fn 96 [] []), (5, I s1), (6, I s2)] [.row (.arr 2 (.int .i64)) s3 false]) (fun s1 s2 s3 hb => loop_round2 (S := ofL Sl94r5) (L := lofL Ll94r5) hSl94r5 (inlOK _) hp hJ (by kernel_rfl) hb)

abbrev S94 : List (Nat × Pat × Sp) := [(97, none, sp97v2)]
theorem hS94 : SpecOK E (ofL S94) := specOK_cons h97v2 (specOK_nil)
abbrev L94 : List (Nat × List Nat × Pat × LSp) := [(95000005, [0, 1, 5, 6], none, lsl94r5)]
def sp94 : Sp := fun args τ K => asCons args fun a1 r1 => asP (.vec 0) a1 <| asCons r1 fun a2 r2 => asFn 96 a2 fun l3 l4 => asNil l3 <| asNil l4 <| asNil r2 <| asCons τ fun a5 r5 => asRw (.arr 2 (.int .i64)) false a5 fun x1 => asNil r5 <| c94 x1 (fun z1 => K (.vec 0) [.row (.arr 2 (.int .i64)) z1 false]) (fun z1 z2 z3 z4 => K (.sl 0 z1 z2 z3 false) [.row (.arr 2 (.int .i64)) z4 false])
theorem h94 : ∀ args τ K, sp94 args τ K → ACall E 94 args τ K := by
  intro args τ K h0
  unfold sp94 at h0
  obtain ⟨a1, r1, rfl, h1⟩ := asCons_inv h0; clear h0
  obtain ⟨rfl, h2⟩ := asP_inv h1; clear h1
  obtain ⟨a2, r2, rfl, h3⟩ := asCons_inv h2; clear h2
  obtain ⟨l3, l4, rfl, h4⟩ := asFn_inv h3; clear h3
  obtain ⟨rfl, h5⟩ := asNil_inv h4; clear h4
  obtain ⟨rfl, h6⟩ := asNil_inv h5; clear h5
  obtain ⟨rfl, h7⟩ := asNil_inv h6; clear h6
  obtain ⟨a5, r5, rfl, h8⟩ := asCons_inv h7; clear h7
  obtain ⟨x1, rfl, h9⟩ := asRw_inv h8; clear h8
  obtain ⟨rfl, h10⟩ := asNil_inv h9; clear h9
  exact ACall.spec2 (fn := Try.f94) (c := codeOf Try.f94) (S := ofL S94) (L := lofL L94) hS94 (by kernel_rfl) (by kernel_rfl) (inlOK _) (all_eq (by kernel_rfl : subsOf (E.info 94).keep (codeOf Try.f94) = [.loop (body Try.f94 5)]) (all_cons (loopOK_of (mk := 95000005) (sl := [0, 1, 5, 6]) (ss := [([0, 1, 5, 6], lsl94r5)]) (by kernel_rfl) (by kernel_rfl) (all_cons l94r5v (all_nil))) (all_nil))) (by kernel_rfl) h10.of

abbrev S99 : List (Nat × Pat × Sp) := []
theorem hS99 : SpecOK E (ofL S99) := specOK_nil
abbrev L99 : List (Nat × List Nat × Pat × LSp) := []
def sp99 : Sp := fun args τ K => asCons args fun a1 r1 => asD (.arr 2 (.int .i64)) a1 fun x1 => asCons r1 fun a2 r2 => asP (.ptr 0 0 []) a2 <| asNil r2 <| asCons τ fun a3 r3 => asOne (.arr 2 (.int .i64)) a3 fun a4 => asD (.arr 2 (.int .i64)) a4 fun x2 => asNil r3 <| c99 x1 x2 (fun z1 z2 => K (B z1) [.one (.arr 2 (.int .i64)) (.d (.arr 2 (.int .i64)) z2)])
theorem h99 : ∀ args τ K, sp99 args τ K → ACall E 99 args τ K := by
  intro args τ K h0
  unfold sp99 at h0
  obtain ⟨a1, r1, rfl, h1⟩ := asCons_inv h0; clear h0
  obtain ⟨x1, rfl, h2⟩ := asD_inv h1; clear h1
  obtain ⟨a2, r2, rfl, h3⟩ := asCons_inv h2; clear h2
  obtain ⟨rfl, h4⟩ := asP_inv h3; clear h3
  obtain ⟨rfl, h5⟩ := asNil_inv h4; clear h4
  obtain ⟨a3, r3, rfl, h6⟩ := asCons_inv h5; clear h5
  obtain ⟨a4, rfl, h7⟩ := asOne_inv h6; clear h6
  obtain ⟨x2, rfl, h8⟩ := asD_inv h7; clear h7
  obtain ⟨rfl, h9⟩ := asNil_inv h8; clear h8
  exact ACall.spec2 (fn := Try.f99) (c := codeOf Try.f99) (S := ofL S99) (L := lofL L99) hS99 (by kernel_rfl) (by kernel_rfl) (inlOK _) (all_eq (by kernel_rfl : subsOf (E.info 99).keep (codeOf Try.f99) = []) (all_nil)) (by kernel_rfl) h9.of

abbrev Sl97r2v4 : List (Nat × Pat × Sp) := [(99, none, sp99)]
theorem hSl97r2v4 : SpecOK E (ofL Sl97r2v4) := specOK_cons h99 (specOK_nil)
abbrev Ll97r2v4 : List (Nat × List Nat × Pat × LSp) := []
def lsl97r2v4 : LSp := fun vs σ K => asCons vs fun a1 r1 => asD (.sl (.arr 2 (.int .i64))) a1 fun s1 => asCons r1 fun a2 r2 => asFn 99 a2 fun l3 l4 => asNil l3 <| asCons l4 fun a5 r5 => asP (.ptr 0 0 []) a5 <| asNil r5 <| asCons r2 fun a6 r6 => asD (.int .i64) a6 fun s2 => asCons r6 fun a7 r7 => asD (.int .i64) a7 fun s3 => asNil r7 <| asCons σ fun a8 r8 => asOne (.arr 2 (.int .i64)) a8 fun a9 => asD (.arr 2 (.int .i64)) a9 fun s4 => asNil r8 <| l97r2v4 (fun z1 z2 => K .ret [(4, I z1)] [.one (.arr 2 (.int .i64)) (.d (.arr 2 (.int .i64)) z2)]) (fun z1 => K (.exit 0) [(4, .undef)] [.one (.arr 2 (.int .i64)) (.d (.arr 2 (.int .i64)) z1)]) s1 s2 s3 s4
theorem l97r2v4v : LoopV E (inlF (PA (ACall E)) E 8) (E.info 97).keep 1 Try.f97.ntmps 98000002 (body Try.f97 2) ([0, 1, 7, 8], lsl97r2v4) := by
  intro vs σ K (h0 : lsl97r2v4 vs σ K)
  unfold lsl97r2v4 at h0
  obtain ⟨a1, r1, rfl, h1⟩ := asCons_inv h0; clear h0
  obtain ⟨s1, rfl, h2⟩ := asD_inv h1; clear h1
  obtain ⟨a2, r2, rfl, h3⟩ := asCons_inv h2; clear h2
  obtain ⟨l3, l4, rfl, h4⟩ := asFn_inv h3; clear h3
  obtain ⟨rfl, h5⟩ := asNil_inv h4; clear h4
  obtain ⟨a5, r5, rfl, h6⟩ := asCons_inv h5; clear h5
  obtain ⟨rfl, h7⟩ := asP_inv h6; clear h6
  obtain ⟨rfl, h8⟩ := asNil_inv h7; clear h7
  obtain ⟨a6, r6, rfl, h9⟩ := asCons_inv h8; clear h8
  obtain ⟨s2, rfl, h10⟩ := asD_inv h9; clear h9
  obtain ⟨a7, r7, rfl, h11⟩ := asCons_inv h10; clear h10
  obtain ⟨s3, rfl, h12⟩ := asD_inv h11; clear h11
  obtain ⟨rfl, h13⟩ := asNil_inv h12; clear h12
  obtain ⟨a8, r8, rfl, h14⟩ := asCons_inv h13; clear h13
  obtain ⟨a9, rfl, h15⟩ := asOne_inv h14; clear h14
  obtain ⟨s4, rfl, h16⟩ := asD_inv h15; clear h15
  obtain ⟨rfl, h17⟩ := asNil_inv h16; clear h16
  intro J hJ
  have hp : ∀ c' ∈ subsOf (E.info 97).keep (body Try.f97 2), SubOK E (inlF (PA (ACall E)) E 8) (E.info 97).keep 1 Try.f97.ntmps (lofL Ll97r2v4) c' := all_eq (by kernel_rfl : subsOf (E.info 97).keep (body Try.f97 2) = []) (all_nil)
  exact h17.of (fun s1 s2 s3 s4 => J [(98000002, .undef), (0, .d (.sl (.arr 2 (.int .i64))) s1), (1, .fn 99 [] [.ptr 0 0 []]), (7, I s2), (8, I s3)] [.one (.arr 2 (.int .i64)) (.d (.arr 2 (.int .i64)) s4)]) (fun s1 s2 s3 s4 hb => loop_round2 (S := ofL Sl97r2v4) (L := lofL Ll97r2v4) hSl97r2v4 (inlOK _) hp hJ (by kernel_rfl) hb)

abbrev S97v4 : List (Nat × Pat × Sp) := []
theorem hS97v4 : SpecOK E (ofL S97v4) := specOK_nil
abbrev L97v4 : List (Nat × List Nat × Pat × LSp) := [(98000002, [0, 1, 7, 8], none, lsl97r2v4)]
def sp97v4 : Sp := fun args τ K => asCons args fun a1 r1 => asD (.sl (.arr 2 (.int .i64))) a1 fun x1 => asCons r1 fun a2 r2 => asFn 99 a2 fun l3 l4 => asNil l3 <| asCons l4 fun a5 r5 => asP (.ptr 0 0 []) a5 <| asNil r5 <| asNil r2 <| asCons τ fun a6 r6 => asOne (.arr 2 (.int .i64)) a6 fun a7 => asD (.arr 2 (.int .i64)) a7 fun x2 => asNil r6 <| c97v4 x1 x2 (fun z1 z2 => K (I z1) [.one (.arr 2 (.int .i64)) (.d (.arr 2 (.int .i64)) z2)])
theorem h97v4 : ∀ args τ K, sp97v4 args τ K → ACall E 97 args τ K := by
  intro args τ K h0
  unfold sp97v4 at h0
  obtain ⟨a1, r1, rfl, h1⟩ := asCons_inv h0; clear h0
  obtain ⟨x1, rfl, h2⟩ := asD_inv h1; clear h1
  obtain ⟨a2, r2, rfl, h3⟩ := asCons_inv h2; clear h2
  obtain ⟨l3, l4, rfl, h4⟩ := asFn_inv h3; clear h3
  obtain ⟨rfl, h5⟩ := asNil_inv h4; clear h4
  obtain ⟨a5, r5, rfl, h6⟩ := asCons_inv h5; clear h5
  obtain ⟨rfl, h7⟩ := asP_inv h6; clear h6
  obtain ⟨rfl, h8⟩ := asNil_inv h7; clear h7
  obtain ⟨rfl, h9⟩ := asNil_inv h8; clear h8
  obtain ⟨a6, r6, rfl, h10⟩ := asCons_inv h9; clear h9
  obtain ⟨a7, rfl, h11⟩ := asOne_inv h10; clear h10
  obtain ⟨x2, rfl, h12⟩ := asD_inv h11; clear h11
  obtain ⟨rfl, h13⟩ := asNil_inv h12; clear h12
  exact ACall.spec2 (fn := Try.f97) (c := codeOf Try.f97) (S := ofL S97v4) (L := lofL L97v4) hS97v4 (by kernel_rfl) (by kernel_rfl) (inlOK _) (all_eq (by kernel_rfl : subsOf (E.info 97).keep (codeOf Try.f97) = [.loop (body Try.f97 2)]) (all_cons (loopOK_of (mk := 98000002) (sl := [0, 1, 7, 8]) (ss := [([0, 1, 7, 8], lsl97r2v4)]) (by kernel_rfl) (by kernel_rfl) (all_cons l97r2v4v (all_nil))) (all_nil))) (by kernel_rfl) h13.of

abbrev S92v2 : List (Nat × Pat × Sp) := [(97, none, sp97v4)]
theorem hS92v2 : SpecOK E (ofL S92v2) := specOK_cons h97v4 (specOK_nil)
abbrev L92v2 : List (Nat × List Nat × Pat × LSp) := []
def sp92v2 : Sp := fun args τ K => asCons args fun a1 r1 => asD (.sl (.arr 2 (.int .i64))) a1 fun x1 => asCons r1 fun a2 r2 => asFn 99 a2 fun l3 l4 => asNil l3 <| asCons l4 fun a5 r5 => asP (.ptr 0 0 []) a5 <| asNil r5 <| asNil r2 <| asCons τ fun a6 r6 => asOne (.arr 2 (.int .i64)) a6 fun a7 => asD (.arr 2 (.int .i64)) a7 fun x2 => asNil r6 <| c92v2 x1 x2 (fun z1 z2 => K (B z1) [.one (.arr 2 (.int .i64)) (.d (.arr 2 (.int .i64)) z2)])
theorem h92v2 : ∀ args τ K, sp92v2 args τ K → ACall E 92 args τ K := by
  intro args τ K h0
  unfold sp92v2 at h0
  obtain ⟨a1, r1, rfl, h1⟩ := asCons_inv h0; clear h0
  obtain ⟨x1, rfl, h2⟩ := asD_inv h1; clear h1
  obtain ⟨a2, r2, rfl, h3⟩ := asCons_inv h2; clear h2
  obtain ⟨l3, l4, rfl, h4⟩ := asFn_inv h3; clear h3
  obtain ⟨rfl, h5⟩ := asNil_inv h4; clear h4
  obtain ⟨a5, r5, rfl, h6⟩ := asCons_inv h5; clear h5
  obtain ⟨rfl, h7⟩ := asP_inv h6; clear h6
  obtain ⟨rfl, h8⟩ := asNil_inv h7; clear h7
  obtain ⟨rfl, h9⟩ := asNil_inv h8; clear h8
  obtain ⟨a6, r6, rfl, h10⟩ := asCons_inv h9; clear h9
  obtain ⟨a7, rfl, h11⟩ := asOne_inv h10; clear h10
  obtain ⟨x2, rfl, h12⟩ := asD_inv h11; clear h11
  obtain ⟨rfl, h13⟩ := asNil_inv h12; clear h12
  exact ACall.spec2 (fn := Try.f92) (c := codeOf Try.f92) (S := ofL S92v2) (L := lofL L92v2) hS92v2 (by kernel_rfl) (by kernel_rfl) (inlOK _) (all_eq (by kernel_rfl : subsOf (E.info 92).keep (codeOf Try.f92) = []) (all_nil)) (by kernel_rfl) h13.of

abbrev S98 : List (Nat × Pat × Sp) := [(92, none, sp92v2)]
theorem hS98 : SpecOK E (ofL S98) := specOK_cons h92v2 (specOK_nil)
abbrev L98 : List (Nat × List Nat × Pat × LSp) := []
def sp98 : Sp := fun args τ K => asCons args fun a1 r1 => asD (.arr 2 (.int .i64)) a1 fun x1 => asCons r1 fun a2 r2 => asP (.ptr 0 0 []) a2 <| asNil r2 <| asCons τ fun a3 r3 => asOne (.sl (.arr 2 (.int .i64))) a3 fun a4 => asP (.vec 1) a4 <| asCons r3 fun a5 r5 => asRw (.arr 2 (.int .i64)) false a5 fun x2 => asNil r5 <| c98 x1 x2 (fun z1 z2 => K (B z1) [.one (.sl (.arr 2 (.int .i64))) (.vec 1), .row (.arr 2 (.int .i64)) z2 false])
theorem h98 : ∀ args τ K, sp98 args τ K → ACall E 98 args τ K := by
  intro args τ K h0
  unfold sp98 at h0
  obtain ⟨a1, r1, rfl, h1⟩ := asCons_inv h0; clear h0
  obtain ⟨x1, rfl, h2⟩ := asD_inv h1; clear h1
  obtain ⟨a2, r2, rfl, h3⟩ := asCons_inv h2; clear h2
  obtain ⟨rfl, h4⟩ := asP_inv h3; clear h3
  obtain ⟨rfl, h5⟩ := asNil_inv h4; clear h4
  obtain ⟨a3, r3, rfl, h6⟩ := asCons_inv h5; clear h5
  obtain ⟨a4, rfl, h7⟩ := asOne_inv h6; clear h6
  obtain ⟨rfl, h8⟩ := asP_inv h7; clear h7
  obtain ⟨a5, r5, rfl, h9⟩ := asCons_inv h8; clear h8
  obtain ⟨x2, rfl, h10⟩ := asRw_inv h9; clear h9
  obtain ⟨rfl, h11⟩ := asNil_inv h10; clear h10
  exact ACall.spec2 (fn := Try.f98) (c := codeOf Try.f98) (S := ofL S98) (L := lofL L98) hS98 (by kernel_rfl) (by kernel_rfl) (inlOK _) (all_eq (by kernel_rfl : subsOf (E.info 98).keep (codeOf Try.f98) = []) (all_nil)) (by kernel_rfl) h11.of

abbrev Sl97r2v3 : List (Nat × Pat × Sp) := [(98, none, sp98)]
theorem hSl97r2v3 : SpecOK E (ofL Sl97r2v3) := specOK_cons h98 (specOK_nil)
abbrev Ll97r2v3 : List (Nat × List Nat × Pat × LSp) := []
def lsl97r2v3 : LSp := fun vs σ K => asCons vs fun a1 r1 => asP (.vec 0) a1 <| asCons r1 fun a2 r2 => asFn 98 a2 fun l3 l4 => asNil l3 <| asCons l4 fun a5 r5 => asP (.ptr 1 0 []) a5 <| asNil r5 <| asCons r2 fun a6 r6 => asD (.int .i64) a6 fun s1 => asCons r6 fun a7 r7 => asD (.int .i64) a7 fun s2 => asNil r7 <| asCons σ fun a8 r8 => asRw (.arr 2 (.int .i64)) false a8 fun s3 => asCons r8 fun a9 r9 => asOne (.sl (.arr 2 (.int .i64))) a9 fun a10 => asP (.vec 0) a10 <| asNil r9 <| l97r2v3 (fun z1 z2 => K .ret [(4, I z1)] [.row (.arr 2 (.int .i64)) z2 false, .one (.sl (.arr 2 (.int .i64))) (.vec 0)]) (fun z1 => K (.exit 0) [(4, .undef)] [.row (.arr 2 (.int .i64)) z1 false, .one (.sl (.arr 2 (.int .i64))) (.vec 0)]) s1 s2 s3
theorem l97r2v3v : LoopV E (inlF (PA (ACall E)) E 8) (E.info 97).keep 2 Try.f97.ntmps 98000002 (body Try.f97 2) ([0, 1, 7, 8], lsl97r2v3) := by
  intro vs σ K (h0 : lsl97r2v3 vs σ K)
  unfold lsl97r2v3 at h0
  obtain ⟨a1, r1, rfl, h1⟩ := asCons_inv h0; clear h0
  obtain ⟨rfl, h2⟩ := asP_inv h1; clear h1
  obtain ⟨a2, r2, rfl, h3⟩ := asCons_inv h2; clear h2
  obtain ⟨l3, l4, rfl, h4⟩ := asFn_inv h3; clear h3
  obtain ⟨rfl, h5⟩ := asNil_inv h4; clear h4
  obtain ⟨a5, r5, rfl, h6⟩ := asCons_inv h5; clear h5
  obtain ⟨rfl, h7⟩ := asP_inv h6; clear h6
  obtain ⟨rfl, h8⟩ := asNil_inv h7; clear h7
  obtain ⟨a6, r6, rfl, h9⟩ := asCons_inv h8; clear h8
  obtain ⟨s1, rfl, h10⟩ := asD_inv h9; clear h9
  obtain ⟨a7, r7, rfl, h11⟩ := asCons_inv h10; clear h10
  obtain ⟨s2, rfl, h12⟩ := asD_inv h11; clear h11
  obtain ⟨rfl, h13⟩ := asNil_inv h12; clear h12
  obtain ⟨a8, r8, rfl, h14⟩ := asCons_inv h13; clear h13
  obtain ⟨s3, rfl, h15⟩ := asRw_inv h14; clear h14
  obtain ⟨a9, r9, rfl, h16⟩ := asCons_inv h15; clear h15
  obtain ⟨a10, rfl, h17⟩ := asOne_inv h16; clear h16
  obtain ⟨rfl, h18⟩ := asP_inv h17; clear h17
  obtain ⟨rfl, h19⟩ := asNil_inv h18; clear h18
  intro J hJ
  have hp : ∀ c' ∈ subsOf (E.info 97).keep (body Try.f97 2), SubOK E (inlF (PA (ACall E)) E 8) (E.info 97).keep 2 Try.f97.ntmps (lofL Ll97r2v3) c' := all_eq (by kernel_rfl : subsOf (E.info 97).keep (body Try.f97 2) = []) (all_nil)
  exact h19.of (fun s1 s2 s3 => J [(98000002, .undef), (0, .vec 0), (1, .fn 98 [] [.ptr 1 0 []]), (7, I s1), (8, I s2)] [.row (.arr 2 (.int .i64)) s3 false, .one (.sl (.arr 2 (.int .i64))) (.vec 0)]) (fun s1 s2 s3 hb => loop_round2 (S := ofL Sl97r2v3) (L := lofL Ll97r2v3) hSl97r2v3 (inlOK _) hp hJ (by kernel_rfl) hb)

abbrev S97v3 : List (Nat × Pat × Sp) := []
theorem hS97v3 : SpecOK E (ofL S97v3) := specOK_nil
abbrev L97v3 : List (Nat × List Nat × Pat × LSp) := [(98000002, [0, 1, 7, 8], none, lsl97r2v3)]
def sp97v3 : Sp := fun args τ K => asCons args fun a1 r1 => asP (.vec 0) a1 <| asCons r1 fun a2 r2 => asFn 98 a2 fun l3 l4 => asNil l3 <| asCons l4 fun a5 r5 => asP (.ptr 1 0 []) a5 <| asNil r5 <| asNil r2 <| asCons τ fun a6 r6 => asRw (.arr 2 (.int .i64)) false a6 fun x1 => asCons r6 fun a7 r7 => asOne (.sl (.arr 2 (.int .i64))) a7 fun a8 => asP (.vec 0) a8 <| asNil r7 <| c97v3 x1 (fun z1 z2 => K (I z1) [.row (.arr 2 (.int .i64)) z2 false, .one (.sl (.arr 2 (.int .i64))) (.vec 0)])
theorem h97v3 : ∀ args τ K, sp97v3 args τ K → ACall E 97 args τ K := by
  intro args τ K h0
  unfold sp97v3 at h0
  obtain ⟨a1, r1, rfl, h1⟩ := asCons_inv h0; clear h0
  obtain ⟨rfl, h2⟩ := asP_inv h1; clear h1
  obtain ⟨a2, r2, rfl, h3⟩ := asCons_inv h2; clear h2
  obtain ⟨l3, l4, rfl, h4⟩ := asFn_inv h3; clear h3
  obtain ⟨rfl, h5⟩ := asNil_inv h4; clear h4
  obtain ⟨a5, r5, rfl, h6⟩ := asCons_inv h5; clear h5
  obtain ⟨rfl, h7⟩ := asP_inv h6; clear h6
  obtain ⟨rfl, h8⟩ := asNil_inv h7; clear h7
  obtain ⟨rfl, h9⟩ := asNil_inv h8; clear h8
  obtain ⟨a6, r6, rfl, h10⟩ := asCons_inv h9; clear h9
  obtain ⟨x1, rfl, h11⟩ := asRw_inv h10; clear h10
  obtain ⟨a7, r7, rfl, h12⟩ := asCons_inv h11; clear h11
  obtain ⟨a8, rfl, h13⟩ := asOne_inv h12; clear h12
  obtain ⟨rfl, h14⟩ := asP_inv h13; clear h13
  obtain ⟨rfl, h15⟩ := asNil_inv h14; clear h14
  exact ACall.spec2 (fn := Try.f97) (c := codeOf Try.f97) (S := ofL S97v3) (L := lofL L97v3) hS97v3 (by kernel_rfl) (by kernel_rfl) (inlOK _) (all_eq (by kernel_rfl : subsOf (E.info 97).keep (codeOf Try.f97) = [.loop (body Try.f97 2)]) (all_cons (loopOK_of (mk := 98000002) (sl := [0, 1, 7, 8]) (ss := [([0, 1, 7, 8], lsl97r2v3)]) (by kernel_rfl) (by kernel_rfl) (all_cons l97r2v3v (all_nil))) (all_nil))) (by kernel_rfl) h15.of

abbrev Sl20r19 : List (Nat × Pat × Sp) := []
theorem hSl20r19 : SpecOK E (ofL Sl20r19) := specOK_nil
abbrev Ll20r19 : List (Nat × List Nat × Pat × LSp) := []
def lsl20r19 : LSp := fun vs σ K => asCons vs fun a1 r1 => asD (.int .i64) a1 fun s1 => asCons r1 fun a2 r2 => asP (.ptr 0 0 []) a2 <| asCons r2 fun a3 r3 => asP (.vec 2) a3 <| asCons r3 fun a4 r4 => asD (.int .i64) a4 fun s2 => asCons r4 fun a5 r5 => asD (.int .i64) a5 fun s3 => asCons r5 fun a6 r6 => asD (.int .i64) a6 fun s4 => asNil r6 <| asCons σ fun a7 r7 => asOne (.sl (.arr 2 (.int .i64))) a7 fun a8 => asP (.vec 1) a8 <| asCons r7 fun a9 r9 => asRw (.arr 2 (.int .i64)) false a9 fun s5 => asCons r9 fun a10 r10 => asRw (.arr 2 (.int .i64)) false a10 fun s6 => asNil r10 <| l20r19 (fun z1 z2 z3 => K (.exit 5) [(1, I z1), (8, .ptr 0 0 []), (9, .vec 2)] [.one (.sl (.arr 2 (.int .i64))) (.vec 1), .row (.arr 2 (.int .i64)) z2 false, .row (.arr 2 (.int .i64)) z3 false]) s1 s2 s3 s4 s5 s6
theorem l20r19v : LoopV E (inlF (PA (ACall E)) E 8) (E.info 20).keep 0 Try.f20.ntmps 21000019 (body Try.f20 19) ([1, 8, 9, 11, 69, 70], lsl20r19) := by
  intro vs σ K (h0 : lsl20r19 vs σ K)
  unfold lsl20r19 at h0
  obtain ⟨a1, r1, rfl, h1⟩ := asCons_inv h0; clear h0
  obtain ⟨s1, rfl, h2⟩ := asD_inv h1; clear h1
  obtain ⟨a2, r2, rfl, h3⟩ := asCons_inv h2; clear h2
  obtain ⟨rfl, h4⟩ := asP_inv h3; clear h3
  obtain ⟨a3, r3, rfl, h5⟩ := asCons_inv h4; clear h4
  obtain ⟨rfl, h6⟩ := asP_inv h5; clear h5
  obtain ⟨a4, r4, rfl, h7⟩ := asCons_inv h6; clear h6
  obtain ⟨s2, rfl, h8⟩ := asD_inv h7; clear h7
  obtain ⟨a5, r5, rfl, h9⟩ := asCons_inv h8; clear h8
  obtain ⟨s3, rfl, h10⟩ := asD_inv h9; clear h9
  obtain ⟨a6, r6, rfl, h11⟩ := asCons_inv h10; clear h10
  obtain ⟨s4, rfl, h12⟩ := asD_inv h11; clear h11
  obtain ⟨rfl, h13⟩ := asNil_inv h12; clear h12
  obtain ⟨a7, r7, rfl, h14⟩ := asCons_inv h13; clear h13
  obtain ⟨a8, rfl, h15⟩ := asOne_inv h14; clear h14
  obtain ⟨rfl, h16⟩ := asP_inv h15; clear h15
  obtain ⟨a9, r9, rfl, h17⟩ := asCons_inv h16; clear h16
  obtain ⟨s5, rfl, h18⟩ := asRw_inv h17; clear h17
  obtain ⟨a10, r10, rfl, h19⟩ := asCons_inv h18; clear h18
  obtain ⟨s6, rfl, h20⟩ := asRw_inv h19; clear h19
  obtain ⟨rfl, h21⟩ := asNil_inv h20; clear h20
  intro J hJ
  have hp : ∀ c' ∈ subsOf (E.info 20).keep (body Try.f20 19), SubOK E (inlF (PA (ACall E)) E 8) (E.info 20).keep 0 Try.f20.ntmps (lofL Ll20r19) c' := all_eq (by kernel_rfl : subsOf (E.info 20).keep (body Try.f20 19) = []) (all_nil)
  exact h21.of (fun s1 s2 s3 s4 s5 s6 => J [(21000019, .undef), (1, I s1), (8, .ptr 0 0 []), (9, .vec 2), (11, I s2), (69, I s3), (70, I s4)] [.one (.sl (.arr 2 (.int .i64))) (.vec 1), .row (.arr 2 (.int .i64)) s5 false, .row (.arr 2 (.int .i64)) s6 false]) (fun s1 s2 s3 s4 s5 s6 hb => loop_round2 (S := ofL Sl20r19) (L := lofL Ll20r19) hSl20r19 (inlOK _) hp hJ (by kernel_rfl) hb)

abbrev S100 : List (Nat × Pat × Sp) := []
theorem hS100 : SpecOK E (ofL S100) := specOK_nil
abbrev L100 : List (Nat × List Nat × Pat × LSp) := []
def sp100 : Sp := fun args τ K => asCons args fun a1 r1 => asP (.vec 0) a1 <| asCons r1 fun a2 r2 => asD (.int .i64) a2 fun x1 => asCons r2 fun a3 r3 => asD (.int .i64) a3 fun x2 => asNil r3 <| asCons τ fun a4 r4 => asRw (.arr 2 (.int .i64)) false a4 fun x3 => asNil r4 <| c100 x1 x2 x3 (fun z1 => K (.vec 0) [.row (.arr 2 (.int .i64)) z1 false]) (fun z1 z2 z3 z4 => K (.sl 0 z1 z2 z3 false) [.row (.arr 2 (.int .i64)) z4 false]) (fun z1 => K (.vec 1) [.dead, .row (.arr 2 (.int .i64)) z1 false])
theorem h100 : ∀ args τ K, sp100 args τ K → ACall E 100 args τ K := by
  intro args τ K h0
  unfold sp100 at h0
  obtain ⟨a1, r1, rfl, h1⟩ := asCons_inv h0; clear h0
  obtain ⟨rfl, h2⟩ := asP_inv h1; clear h1
  obtain ⟨a2, r2, rfl, h3⟩ := asCons_inv h2; clear h2
  obtain ⟨x1, rfl, h4⟩ := asD_inv h3; clear h3
  obtain ⟨a3, r3, rfl, h5⟩ := asCons_inv h4; clear h4
  obtain ⟨x2, rfl, h6⟩ := asD_inv h5; clear h5
  obtain ⟨rfl, h7⟩ := asNil_inv h6; clear h6
  obtain ⟨a4, r4, rfl, h8⟩ := asCons_inv h7; clear h7
  obtain ⟨x3, rfl, h9⟩ := asRw_inv h8; clear h8
  obtain ⟨rfl, h10⟩ := asNil_inv h9; clear h9
  exact ACall.spec2 (fn := Try.f100) (c := codeOf Try.f100) (S := ofL S100) (L := lofL L100) hS100 (by kernel_rfl) (by kernel_rfl) (inlOK _) (all_eq (by kernel_rfl : subsOf (E.info 100).keep (codeOf Try.f100) = []) (all_nil)) (by kernel_rfl) h10.of

abbrev S98v2 : List (Nat × Pat × Sp) := [(92, none, sp92v2)]
theorem hS98v2 : SpecOK E (ofL S98v2) := specOK_cons h92v2 (specOK_nil)
abbrev L98v2 : List (Nat × List Nat × Pat × LSp) := []
def sp98v2 : Sp := fun args τ K => asCons args fun a1 r1 => asD (.arr 2 (.int .i64)) a1 fun x1 => asCons r1 fun a2 r2 => asP (.ptr 0 0 []) a2 <| asNil r2 <| asCons τ fun a3 r3 => asOne (.sl (.arr 2 (.int .i64))) a3 fun a4 => asSl 1 false a4 fun x2 x3 x4 => asCons r3 fun a5 r5 => asRw (.arr 2 (.int .i64)) false a5 fun x5 => asNil r5 <| c98v2 x1 x2 x3 x4 x5 (fun z1 z2 z3 z4 z5 => K (B z1) [.one (.sl (.arr 2 (.int .i64))) (.sl 1 z2 z3 z4 false), .row (.arr 2 (.int .i64)) z5 false])
theorem h98v2 : ∀ args τ K, sp98v2 args τ K → ACall E 98 args τ K := by
  intro args τ K h0
  unfold sp98v2 at h0
  obtain ⟨a1, r1, rfl, h1⟩ := asCons_inv h0; clear h0
  obtain ⟨x1, rfl, h2⟩ := asD_inv h1; clear h1
  obtain ⟨a2, r2, rfl, h3⟩ := asCons_inv h2; clear h2
  obtain ⟨rfl, h4⟩ := asP_inv h3; clear h3
  obtain ⟨rfl, h5⟩ := asNil_inv h4; clear h4
  obtain ⟨a3, r3, rfl, h6⟩ := asCons_inv h5; clear h5
  obtain ⟨a4, rfl, h7⟩ := asOne_inv h6; clear h6
  obtain ⟨x2, x3, x4, rfl, h8⟩ := asSl_inv h7; clear h7
  obtain ⟨a5, r5, rfl, h9⟩ := asCons_inv h8; clear h8
  obtain ⟨x5, rfl, h10⟩ := asRw_inv h9; clear h9
  obtain ⟨rfl, h11⟩ := asNil_inv h10; clear h10
  exact ACall.spec2 (fn := Try.f98) (c := codeOf Try.f98) (S := ofL S98v2) (L := lofL L98v2) hS98v2 (by kernel_rfl) (by kernel_rfl) (inlOK _) (all_eq (by kernel_rfl : subsOf (E.info 98).keep (codeOf Try.f98) = []) (all_nil)) (by kernel_rfl) h11.of

abbrev Sl97r2v5 : List (Nat × Pat × Sp) := [(98, none, sp98v2)]
theorem hSl97r2v5 : SpecOK E (ofL Sl97r2v5) := specOK_cons h98v2 (specOK_nil)
abbrev Ll97r2v5 : List (Nat × List Nat × Pat × LSp) := []
def lsl97r2v5 : LSp := fun vs σ K => asCons vs fun a1 r1 => asSl 0 false a1 fun s1 s2 s3 => asCons r1 fun a2 r2 => asFn 98 a2 fun l3 l4 => asNil l3 <| asCons l4 fun a5 r5 => asP (.ptr 1 0 []) a5 <| asNil r5 <| asCons r2 fun a6 r6 => asD (.int .i64) a6 fun s4 => asCons r6 fun a7 r7 => asD (.int .i64) a7 fun s5 => asNil r7 <| asCons σ fun a8 r8 => asRw (.arr 2 (.int .i64)) false a8 fun s6 => asCons r8 fun a9 r9 => asOne (.sl (.arr 2 (.int .i64))) a9 fun a10 => asSl 0 false a10 fun s7 s8 s9 => asNil r9 <| l97r2v5 (fun z1 z2 z3 z4 z5 => K .ret [(4, I z1)] [.row (.arr 2 (.int .i64)) z2 false, .one (.sl (.arr 2 (.int .i64))) (.sl 0 z3 z4 z5 false)]) (fun z1 z2 z3 z4 => K (.exit 0) [(4, .undef)] [.row (.arr 2 (.int .i64)) z1 false, .one (.sl (.arr 2 (.int .i64))) (.sl 0 z2 z3 z4 false)]) s1 s2 s3 s4 s5 s6 s7 s8 s9
theorem l97r2v5v : LoopV E (inlF (PA (ACall E)) E 8) (E.info 97).keep 2 Try.f97.ntmps 98000002 (body Try.f97 2) ([0, 1, 7, 8], lsl97r2v5) := by
  intro vs σ K (h0 : lsl97r2v5 vs σ K)
  unfold lsl97r2v5 at h0
  obtain ⟨a1, r1, rfl, h1⟩ := asCons_inv h0; clear h0
  obtain ⟨s1, s2, s3, rfl, h2⟩ := asSl_inv h1; clear h1
  obtain ⟨a2, r2, rfl, h3⟩ := asCons_inv h2; clear h2
  obtain ⟨l3, l4, rfl, h4⟩ := asFn_inv h3; clear h3
  obtain ⟨rfl, h5⟩ := asNil_inv h4; clear h4
  obtain ⟨a5, r5, rfl, h6⟩ := asCons_inv h5; clear h5
  obtain ⟨rfl, h7⟩ := asP_inv h6; clear h6
  obtain ⟨rfl, h8⟩ := asNil_inv h7; clear h7
  obtain ⟨a6, r6, rfl, h9⟩ := asCons_inv h8; clear h8
  obtain ⟨s4, rfl, h10⟩ := asD_inv h9; clear h9
  obtain ⟨a7, r7, rfl, h11⟩ := asCons_inv h10; clear h10
  obtain ⟨s5, rfl, h12⟩ := asD_inv h11; clear h11
  obtain ⟨rfl, h13⟩ := asNil_inv h12; clear h12
  obtain ⟨a8, r8, rfl, h14⟩ := asCons_inv h13; clear h13
  obtain ⟨s6, rfl, h15⟩ := asRw_inv h14; clear h14
  obtain ⟨a9, r9, rfl, h16⟩ := asCons_inv h15; clear h15
  obtain ⟨a10, rfl, h17⟩ := asOne_inv h16; clear h16
  obtain ⟨s7, s8, s9, rfl, h18⟩ := asSl_inv h17; clear h17
  obtain ⟨rfl, h19⟩ := asNil_inv h18; clear h18
  intro J hJ
  have hp : ∀ c' ∈ subsOf (E.info 97).keep (body Try.f97 2), SubOK E (inlF (PA (ACall E)) E 8) (E.info 97).keep 2 Try.f97.ntmps (lofL Ll97r2v5) c' := all_eq (by kernel_rfl : subsOf (E.info 97).keep (body Try.f97 2) = []) (all_nil)
  exact h19.of (fun s1 s2 s3 s4 s5 s6 s7 s8 s9 => J [(98000002, .undef), (0, .sl 0 s1 s2 s3 false), (1, .fn 98 [] [.ptr 1 0 []]), (7, I s4), (8, I s5)] [.row (.arr 2 (.int .i64)) s6 false, .one (.sl (.arr 2 (.int .i64))) (.sl 0 s7 s8 s9 false)]) (fun s1 s2 s3 s4 s5 s6 s7 s8 s9 hb => loop_round2 (S := ofL Sl97r2v5) (L := lofL Ll97r2v5) hSl97r2v5 (inlOK _) hp hJ (by kernel_rfl) hb)

abbrev S97v5 : List (Nat × Pat × Sp) := []
theorem hS97v5 : SpecOK E (ofL S97v5) := specOK_nil
abbrev L97v5 : List (Nat × List Nat × Pat × LSp) := [(98000002, [0, 1, 7, 8], none, lsl97r2v5)]
def sp97v5 : Sp := fun args τ K => asCons args fun a1 r1 => asSl 0 false a1 fun x1 x2 x3 => asCons r1 fun a2 r2 => asFn 98 a2 fun l3 l4 => asNil l3 <| asCons l4 fun a5 r5 => asP (.ptr 1 0 []) a5 <| asNil r5 <| asNil r2 <| asCons τ fun a6 r6 => asRw (.arr 2 (.int .i64)) false a6 fun x4 => asCons r6 fun a7 r7 => asOne (.sl (.arr 2 (.int .i64))) a7 fun a8 => asSl 0 false a8 fun x5 x6 x7 => asNil r7 <| c97v5 x1 x2 x3 x4 x5 x6 x7 (fun z1 z2 z3 z4 z5 => K (I z1) [.row (.arr 2 (.int .i64)) z2 false, .one (.sl (.arr 2 (.int .i64))) (.sl 0 z3 z4 z5 false)])
theorem h97v5 : ∀ args τ K, sp97v5 args τ K → ACall E 97 args τ K := by
  intro args τ K h0
  unfold sp97v5 at h0
  obtain ⟨a1, r1, rfl, h1⟩ := asCons_inv h0; clear h0
  obtain ⟨x1, x2, x3, rfl, h2⟩ := asSl_inv h1; clear h1
  obtain ⟨a2, r2, rfl, h3⟩ := asCons_inv h2; clear h2
  obtain ⟨l3, l4, rfl, h4⟩ := asFn_inv h3; clear h3
  obtain ⟨rfl, h5⟩ := asNil_inv h4; clear h4
  obtain ⟨a5, r5, rfl, h6⟩ := asCons_inv h5; clear h5
  obtain ⟨rfl, h7⟩ := asP_inv h6; clear h6
  obtain ⟨rfl, h8⟩ := asNil_inv h7; clear h7
  obtain ⟨rfl, h9⟩ := asNil_inv h8; clear h8
  obtain ⟨a6, r6, rfl, h10⟩ := asCons_inv h9; clear h9
  obtain ⟨x4, rfl, h11⟩ := asRw_inv h10; clear h10
  obtain ⟨a7, r7, rfl, h12⟩ := asCons_inv h11; clear h11
  obtain ⟨a8, rfl, h13⟩ := asOne_inv h12; clear h12
  obtain ⟨x5, x6, x7, rfl, h14⟩ := asSl_inv h13; clear h13
  obtain ⟨rfl, h15⟩ := asNil_inv h14; clear h14
  exact ACall.spec2 (fn := Try.f97) (c := codeOf Try.f97) (S := ofL S97v5) (L := lofL L97v5) hS97v5 (by kernel_rfl) (by kernel_rfl) (inlOK _) (all_eq (by kernel_rfl : subsOf (E.info 97).keep (codeOf Try.f97) = [.loop (body Try.f97 2)]) (all_cons (loopOK_of (mk := 98000002) (sl := [0, 1, 7, 8]) (ss := [([0, 1, 7, 8], lsl97r2v5)]) (by kernel_rfl) (by kernel_rfl) (all_cons l97r2v5v (all_nil))) (all_nil))) (by kernel_rfl) h15.of

abbrev Sl20r19v2 : List (Nat × Pat × Sp) := []
theorem hSl20r19v2 : SpecOK E (ofL Sl20r19v2) := specOK_nil
abbrev Ll20r19v2 : List (Nat × List Nat × Pat × LSp) := []
def lsl20r19v2 : LSp := fun vs σ K => asCons vs fun a1 r1 => asD (.int .i64) a1 fun s1 => asCons r1 fun a2 r2 => asP (.ptr 0 0 []) a2 <| asCons r2 fun a3 r3 => asP (.vec 2) a3 <| asCons r3 fun a4 r4 => asD (.int .i64) a4 fun s2 => asCons r4 fun a5 r5 => asD (.int .i64) a5 fun s3 => asCons r5 fun a6 r6 => asD (.int .i64) a6 fun s4 => asNil r6 <| asCons σ fun a7 r7 => asOne (.sl (.arr 2 (.int .i64))) a7 fun a8 => asSl 1 false a8 fun s5 s6 s7 => asCons r7 fun a9 r9 => asRw (.arr 2 (.int .i64)) false a9 fun s8 => asCons r9 fun a10 r10 => asRw (.arr 2 (.int .i64)) false a10 fun s9 => asNil r10 <| l20r19v2 (fun z1 z2 z3 z4 z5 z6 => K (.exit 5) [(1, I z1), (8, .ptr 0 0 []), (9, .vec 2)] [.one (.sl (.arr 2 (.int .i64))) (.sl 1 z2 z3 z4 false), .row (.arr 2 (.int .i64)) z5 false, .row (.arr 2 (.int .i64)) z6 false]) s1 s2 s3 s4 s5 s6 s7 s8 s9
theorem l20r19v2v : LoopV E (inlF (PA (ACall E)) E 8) (E.info 20).keep 0 Try.f20.ntmps 21000019 (body Try.f20 19) ([1, 8, 9, 11, 69, 70], lsl20r19v2) := by
  intro vs σ K (h0 : lsl20r19v2 vs σ K)
  unfold lsl20r19v2 at h0
  obtain ⟨a1, r1, rfl, h1⟩ := asCons_inv h0; clear h0
  obtain ⟨s1, rfl, h2⟩ := asD_inv h1; clear h1
  obtain ⟨a2, r2, rfl, h3⟩ := asCons_inv h2; clear h2
  obtain ⟨rfl, h4⟩ := asP_inv h3; clear h3
  obtain ⟨a3, r3, rfl, h5⟩ := asCons_inv h4; clear h4
  obtain ⟨rfl, h6⟩ := asP_inv h5; clear h5
  obtain ⟨a4, r4, rfl, h7⟩ := asCons_inv h6; clear h6
  obtain ⟨s2, rfl, h8⟩ := asD_inv h7; clear h7
  obtain ⟨a5, r5, rfl, h9⟩ := asCons_inv h8; clear h8
  obtain ⟨s3, rfl, h10⟩ := asD_inv h9; clear h9
  obtain ⟨a6, r6, rfl, h11⟩ := asCons_inv h10; clear h10
  obtain ⟨s4, rfl, h12⟩ := asD_inv h11; clear h11
  obtain ⟨rfl, h13⟩ := asNil_inv h12; clear h12
  obtain ⟨a7, r7, rfl, h14⟩ := asCons_inv h13; clear h13
  obtain ⟨a8, rfl, h15⟩ := asOne_inv h14; clear h14
  obtain ⟨s5, s6, s7, rfl, h16⟩ := asSl_inv h15; clear h15
  obtain ⟨a9, r9, rfl, h17⟩ := asCons_inv h16; clear h16
  obtain ⟨s8, rfl, h18⟩ := asRw_inv h17; clear h17
  obtain ⟨a10, r10, rfl, h19⟩ := asCons_inv h18; clear h18
  obtain ⟨s9, rfl, h20⟩ := asRw_inv h19; clear h19
  obtain ⟨rfl, h21⟩ := asNil_inv h20; clear h20
  intro J hJ
  have hp : ∀ c' ∈ subsOf (E.info 20).keep (body Try.f20 19), SubOK E (inlF (PA (ACall E)) E 8) (E.info 20).keep 0 Try.f20.ntmps (lofL Ll20r19v2) c' := all_eq (by kernel_rfl : subsOf (E.info 20).keep (body Try.f20 19) = []) (all_nil)
  exact h21.of (fun s1 s2 s3 s4 s5 s6 s7 s8 s9 => J [(21000019, .undef), (1, I s1), (8, .ptr 0 0 []), (9, .vec 2), (11, I s2), (69, I s3), (70, I s4)] [.one (.sl (.arr 2 (.int .i64))) (.sl 1 s5 s6 s7 false), .row (.arr 2 (.int .i64)) s8 false, .row (.arr 2 (.int .i64)) s9 false]) (fun s1 s2 s3 s4 s5 s6 s7 s8 s9 hb => loop_round2 (S := ofL Sl20r19v2) (L := lofL Ll20r19v2) hSl20r19v2 (inlOK _) hp hJ (by kernel_rfl) hb)

abbrev S100v2 : List (Nat × Pat × Sp) := []
theorem hS100v2 : SpecOK E (ofL S100v2) := specOK_nil
abbrev L100v2 : List (Nat × List Nat × Pat × LSp) := []
def sp100v2 : Sp := fun args τ K => asCons args fun a1 r1 => asSl 0 false a1 fun x1 x2 x3 => asCons r1 fun a2 r2 => asD (.int .i64) a2 fun x4 => asCons r2 fun a3 r3 => asD (.int .i64) a3 fun x5 => asNil r3 <| asCons τ fun a4 r4 => asRw (.arr 2 (.int .i64)) false a4 fun x6 => asNil r4 <| c100v2 x1 x2 x3 x4 x5 x6 (fun z1 z2 z3 z4 => K (.sl 0 z1 z2 z3 false) [.row (.arr 2 (.int .i64)) z4 false]) (fun z1 => K (.vec 1) [.dead, .row (.arr 2 (.int .i64)) z1 false])
theorem h100v2 : ∀ args τ K, sp100v2 args τ K → ACall E 100 args τ K := by
  intro args τ K h0
  unfold sp100v2 at h0
  obtain ⟨a1, r1, rfl, h1⟩ := asCons_inv h0; clear h0
  obtain ⟨x1, x2, x3, rfl, h2⟩ := asSl_inv h1; clear h1
  obtain ⟨a2, r2, rfl, h3⟩ := asCons_inv h2; clear h2
  obtain ⟨x4, rfl, h4⟩ := asD_inv h3; clear h3
  obtain ⟨a3, r3, rfl, h5⟩ := asCons_inv h4; clear h4
  obtain ⟨x5, rfl, h6⟩ := asD_inv h5; clear h5
  obtain ⟨rfl, h7⟩ := asNil_inv h6; clear h6
  obtain ⟨a4, r4, rfl, h8⟩ := asCons_inv h7; clear h7
  obtain ⟨x6, rfl, h9⟩ := asRw_inv h8; clear h8
  obtain ⟨rfl, h10⟩ := asNil_inv h9; clear h9
  exact ACall.spec2 (fn := Try.f100) (c := codeOf Try.f100) (S := ofL S100v2) (L := lofL L100v2) hS100v2 (by kernel_rfl) (by kernel_rfl) (inlOK _) (all_eq (by kernel_rfl : subsOf (E.info 100).keep (codeOf Try.f100) = []) (all_nil)) (by kernel_rfl) h10.of

abbrev Sl20r13 : List (Nat × Pat × Sp) := [(97, some ([.fix (.vec 0), .fn 98 [] [.fix (.ptr 1 0 [])]], [.row (.arr 2 (.int .i64)) false, .one (.sl (.arr 2 (.int .i64))) (.fix (.vec 0))]), sp97v3), (100, some ([.fix (.vec 0), .d (.int .i64), .d (.int .i64)], [.row (.arr 2 (.int .i64)) false]), sp100), (97, some ([.sl 0 false, .fn 98 [] [.fix (.ptr 1 0 [])]], [.row (.arr 2 (.int .i64)) false, .one (.sl (.arr 2 (.int .i64))) (.sl 0 false)]), sp97v5), (100, some ([.sl 0 false, .d (.int .i64), .d (.int .i64)], [.row (.arr 2 (.int .i64)) false]), sp100v2)]
theorem hSl20r13 : SpecOK E (ofL Sl20r13) := specOK_cons h97v3 (specOK_cons h100 (specOK_cons h97v5 (specOK_cons h100v2 (specOK_nil))))
abbrev Ll20r13 : List (Nat × List Nat × Pat × LSp) := [(21000019, [1, 8, 9, 11, 69, 70], some ([.d (.int .i64), .fix (.ptr 0 0 []), .fix (.vec 2), .d (.int .i64), .d (.int .i64), .d (.int .i64)], [.one (.sl (.arr 2 (.int .i64))) (.fix (.vec 1)), .row (.arr 2 (.int .i64)) false, .row (.arr 2 (.int .i64)) false]), lsl20r19), (21000019, [1, 8, 9, 11, 69, 70], some ([.d (.int .i64), .fix (.ptr 0 0 []), .fix (.vec 2), .d (.int .i64), .d (.int .i64), .d (.int .i64)], [.one (.sl (.arr 2 (.int .i64))) (.sl 1 false), .row (.arr 2 (.int .i64)) false, .row (.arr 2 (.int .i64)) false]), lsl20r19v2)]
def lsl20r13 : LSp := fun vs σ K => asCons vs fun a1 r1 => asD (.int .i64) a1 fun s1 => asCons r1 fun a2 r2 => asP (.ptr 0 0 []) a2 <| asCons r2 fun a3 r3 => asP (.vec 2) a3 <| asNil r3 <| asCons σ fun a4 r4 => asOne (.sl (.arr 2 (.int .i64))) a4 fun a5 => asP (.vec 1) a5 <| asCons r4 fun a6 r6 => asRw (.arr 2 (.int .i64)) false a6 fun s2 => asCons r6 fun a7 r7 => asRw (.arr 2 (.int .i64)) false a7 fun s3 => asNil r7 <| l20r13 (fun z1 => K (.exit 3) [(9, .vec 0)] [.row (.arr 2 (.int .i64)) z1 false]) s1 s2 s3
theorem l20r13v : LoopV E (inlF (PA (ACall E)) E 8) (E.info 20).keep 0 Try.f20.ntmps 21000013 (body Try.f20 13) ([1, 8, 9], lsl20r13) := by
  intro vs σ K (h0 : lsl20r13 vs σ K)
  unfold lsl20r13 at h0
  obtain ⟨a1, r1, rfl, h1⟩ := asCons_inv h0; clear h0
  obtain ⟨s1, rfl, h2⟩ := asD_inv h1; clear h1
  obtain ⟨a2, r2, rfl, h3⟩ := asCons_inv h2; clear h2
  obtain ⟨rfl, h4⟩ := asP_inv h3; clear h3
  obtain ⟨a3, r3, rfl, h5⟩ := asCons_inv h4; clear h4
  obtain ⟨rfl, h6⟩ := asP_inv h5; clear h5
  obtain ⟨rfl, h7⟩ := asNil_inv h6; clear h6
  obtain ⟨a4, r4, rfl, h8⟩ := asCons_inv h7; clear h7
  obtain ⟨a5, rfl, h9⟩ := asOne_inv h8; clear h8
  obtain ⟨rfl, h10⟩ := asP_inv h9; clear h9
  obtain ⟨a6, r6, rfl, h11⟩ := asCons_inv h10; clear h10
  obtain ⟨s2, rfl, h12⟩ := asRw_inv h11; clear h11
  obtain ⟨a7, r7, rfl, h13⟩ := asCons_inv h12; clear h12
  obtain ⟨s3, rfl, h14⟩ := asRw_inv h13; clear h13
  obtain ⟨rfl, h15⟩ := asNil_inv h14; clear h14
  intro J hJ
  have hp : ∀ c' ∈ subsOf (E.info 20).keep (body Try.f20 13), SubOK E (inlF (PA (ACall E)) E 8) (E.info 20).keep 0 Try.f20.ntmps (lofL Ll20r13) c' := all_eq (by kernel_rfl : subsOf (E.info 20).keep (body Try.f20 13) = [.loop (body Try.f20 19)]) (all_cons (loopOK_of (mk := 21000019) (sl := [1, 8, 9, 11, 69, 70]) (ss := [([1, 8, 9, 11, 69, 70], lsl20r19), ([1, 8, 9, 11, 69, 70], lsl20r19v2)]) (by kernel_rfl) (by kernel_rfl) (all_cons l20r19v (all_cons l20r19v2v (all_nil)))) (all_nil))
  exact h15.of (fun s1 s2 s3 => J [(21000013, .undef), (1, I s1), (8, .ptr 0 0 []), (9, .vec 2)] [.one (.sl (.arr 2 (.int .i64))) (.vec 1), .row (.arr 2 (.int .i64)) s2 false, .row (.arr 2 (.int .i64)) s3 false]) (fun s25 s26 s27 s28 s29 s30 => J [(21000013, .undef), (1, I s25), (8, .ptr 0 0 []), (9, .vec 2)] [.one (.sl (.arr 2 (.int .i64))) (.sl 1 s26 s27 s28 false), .row (.arr 2 (.int .i64)) s29 false, .row (.arr 2 (.int .i64)) s30 false]) (fun s1 s2 s3 hb => loop_round2 (S := ofL Sl20r13) (L := lofL Ll20r13) hSl20r13 (inlOK _) hp hJ (by kernel_rfl) hb) (fun s25 s26 s27 s28 s29 s30 hb => loop_round2 (S := ofL Sl20r13) (L := lofL Ll20r13) hSl20r13 (inlOK _) hp hJ (by kernel_rfl) hb)

abbrev Sl20r13v2 : List (Nat × Pat × Sp) := [(97, some ([.sl 0 false, .fn 98 [] [.fix (.ptr 1 0 [])]], [.row (.arr 2 (.int .i64)) false, .one (.sl (.arr 2 (.int .i64))) (.sl 0 false)]), sp97v5), (100, some ([.sl 0 false, .d (.int .i64), .d (.int .i64)], [.row (.arr 2 (.int .i64)) false]), sp100v2), (97, some ([.fix (.vec 0), .fn 98 [] [.fix (.ptr 1 0 [])]], [.row (.arr 2 (.int .i64)) false, .one (.sl (.arr 2 (.int .i64))) (.fix (.vec 0))]), sp97v3), (100, some ([.fix (.vec 0), .d (.int .i64), .d (.int .i64)], [.row (.arr 2 (.int .i64)) false]), sp100)]
theorem hSl20r13v2 : SpecOK E (ofL Sl20r13v2) := specOK_cons h97v5 (specOK_cons h100v2 (specOK_cons h97v3 (specOK_cons h100 (specOK_nil))))
abbrev Ll20r13v2 : List (Nat × List Nat × Pat × LSp) := [(21000019, [1, 8, 9, 11, 69, 70], some ([.d (.int .i64), .fix (.ptr 0 0 []), .fix (.vec 2), .d (.int .i64), .d (.int .i64), .d (.int .i64)], [.one (.sl (.arr 2 (.int .i64))) (.sl 1 false), .row (.arr 2 (.int .i64)) false, .row (.arr 2 (.int .i64)) false]), lsl20r19v2), (21000019, [1, 8, 9, 11, 69, 70], some ([.d (.int .i64), .fix (.ptr 0 0 []), .fix (.vec 2), .d (.int .i64), .d (.int .i64), .d (.int .i64)], [.one (.sl (.arr 2 (.int .i64))) (.fix (.vec 1)), .row (.arr 2 (.int .i64)) false, .row (.arr 2 (.int .i64)) false]), lsl20r19)]
def lsl20r13v2 : LSp := fun vs σ K => asCons vs fun a1 r1 => asD (.int .i64) a1 fun s1 => asCons r1 fun a2 r2 => asP (.ptr 0 0 []) a2 <| asCons r2 fun a3 r3 => asP (.vec 2) a3 <| asNil r3 <| asCons σ fun a4 r4 => asOne (.sl (.arr 2 (.int .i64))) a4 fun a5 => asSl 1 false a5 fun s2 s3 s4 => asCons r4 fun a6 r6 => asRw (.arr 2 (.int .i64)) false a6 fun s5 => asCons r6 fun a7 r7 => asRw (.arr 2 (.int .i64)) false a7 fun s6 => asNil r7 <| l20r13v2 (fun z1 => K (.exit 3) [(9, .vec 0)] [.row (.arr 2 (.int .i64)) z1 false]) s1 s2 s3 s4 s5 s6
theorem l20r13v2v : LoopV E (inlF (PA (ACall E)) E 8) (E.info 20).keep 0 Try.f20.ntmps 21000013 (body Try.f20 13) ([1, 8, 9], lsl20r13v2) := by
  intro vs σ K (h0 : lsl20r13v2 vs σ K)
  unfold lsl20r13v2 at h0
  obtain ⟨a1, r1, rfl, h1⟩ := asCons_inv h0; clear h0
  obtain ⟨s1, rfl, h2⟩ := asD_inv h1; clear h1
  obtain ⟨a2, r2, rfl, h3⟩ := asCons_inv h2; clear h2
  obtain ⟨rfl, h4⟩ := asP_inv h3; clear h3
  obtain ⟨a3, r3, rfl, h5⟩ := asCons_inv h4; clear h4
  obtain ⟨rfl, h6⟩ := asP_inv h5; clear h5
  obtain ⟨rfl, h7⟩ := asNil_inv h6; clear h6
  obtain ⟨a4, r4, rfl, h8⟩ := asCons_inv h7; clear h7
  obtain ⟨a5, rfl, h9⟩ := asOne_inv h8; clear h8
  obtain ⟨s2, s3, s4, rfl, h10⟩ := asSl_inv h9; clear h9
  obtain ⟨a6, r6, rfl, h11⟩ := asCons_inv h10; clear h10
  obtain ⟨s5, rfl, h12⟩ := asRw_inv h11; clear h11
  obtain ⟨a7, r7, rfl, h13⟩ := asCons_inv h12; clear h12
  obtain ⟨s6, rfl, h14⟩ := asRw_inv h13; clear h13
  obtain ⟨rfl, h15⟩ := asNil_inv h14; clear h14
  intro J hJ
  have hp : ∀ c' ∈ subsOf (E.info 20).keep (body Try.f20 13), SubOK E (inlF (PA (ACall E)) E 8) (E.info 20).keep 0 Try.f20.ntmps (lofL Ll20r13v2) c' := all_eq (by kernel_rfl : subsOf (E.info 20).keep (body Try.f20 13) = [.loop (body Try.f20 19)]) (all_cons (loopOK_of (mk := 21000019) (sl := [1, 8, 9, 11, 69, 70]) (ss := [([1, 8, 9, 11, 69, 70], lsl20r19v2), ([1, 8, 9, 11, 69, 70], lsl20r19)]) (by kernel_rfl) (by kernel_rfl) (all_cons l20r19v2v (all_cons l20r19v (all_nil)))) (all_nil))
  exact h15.of (fun s1 s2 s3 s4 s5 s6 => J [(21000013, .undef), (1, I s1), (8, .ptr 0 0 []), (9, .vec 2)] [.one (.sl (.arr 2 (.int .i64))) (.sl 1 s2 s3 s4 false), .row (.arr 2 (.int .i64)) s5 false, .row (.arr 2 (.int .i64)) s6 false]) (fun s32 s33 s34 => J [(21000013, .undef), (1, I s32), (8, .ptr 0 0 []), (9, .vec 2)] [.one (.sl (.arr 2 (.int .i64))) (.vec 1), .row (.arr 2 (.int .i64)) s33 false, .row (.arr 2 (.int .i64)) s34 false]) (fun s1 s2 s3 s4 s5 s6 hb => loop_round2 (S := ofL Sl20r13v2) (L := lofL Ll20r13v2) hSl20r13v2 (inlOK _) hp hJ (by kernel_rfl) hb) (fun s32 s33 s34 hb => loop_round2 (S := ofL Sl20r13v2) (L := lofL Ll20r13v2) hSl20r13v2 (inlOK _) hp hJ (by kernel_rfl) hb)

abbrev S20 : List (Nat × Pat × Sp) := [(95, none, sp95), (94, none, sp94)]
theorem hS20 : SpecOK E (ofL S20) := specOK_cons h95 (specOK_cons h94 (specOK_nil))
abbrev L20 : List (Nat × List Nat × Pat × LSp) := [(21000002, [0, 1, 13, 14, 15], none, lsl20r2), (21000013, [1, 8, 9], some ([.d (.int .i64), .fix (.ptr 0 0 []), .fix (.vec 2)], [.one (.sl (.arr 2 (.int .i64))) (.fix (.vec 1)), .row (.arr 2 (.int .i64)) false, .row (.arr 2 (.int .i64)) false]), lsl20r13), (21000013, [1, 8, 9], some ([.d (.int .i64), .fix (.ptr 0 0 []), .fix (.vec 2)], [.one (.sl (.arr 2 (.int .i64))) (.sl 1 false), .row (.arr 2 (.int .i64)) false, .row (.arr 2 (.int .i64)) false]), lsl20r13v2)]
def sp20 : Sp := fun args τ K => asCons args fun a1 r1 => asD (.sl (.arr 2 (.int .i64))) a1 fun x1 => asCons r1 fun a2 r2 => asD (.int .i64) a2 fun x2 => asNil r2 <| asNil τ <| c20 x1 x2 (fun z1 z2 => K (.tup [.vec 0, I z1]) [.row (.arr 2 (.int .i64)) z2 false])
theorem h20 : ∀ args τ K, sp20 args τ K → ACall E 20 args τ K := by
  intro args τ K h0
  unfold sp20 at h0
  obtain ⟨a1, r1, rfl, h1⟩ := asCons_inv h0; clear h0
  obtain ⟨x1, rfl, h2⟩ := asD_inv h1; clear h1
  obtain ⟨a2, r2, rfl, h3⟩ := asCons_inv h2; clear h2
  obtain ⟨x2, rfl, h4⟩ := asD_inv h3; clear h3
  obtain ⟨rfl, h5⟩ := asNil_inv h4; clear h4
  obtain ⟨rfl, h6⟩ := asNil_inv h5; clear h5
  exact ACall.spec2 (fn := Try.f20) (c := codeOf Try.f20) (S := ofL S20) (L := lofL L20) hS20 (by kernel_rfl) (by kernel_rfl) (inlOK _) (all_eq (by kernel_rfl : subsOf (E.info 20).keep (codeOf Try.f20) = [.loop (body Try.f20 2), .loop (body Try.f20 13)]) (all_cons (loopOK_of (mk := 21000002) (sl := [0, 1, 13, 14, 15]) (ss := [([0, 1, 13, 14, 15], lsl20r2)]) (by kernel_rfl) (by kernel_rfl) (all_cons l20r2v (all_nil))) (all_cons (loopOK_of (mk := 21000013) (sl := [1, 8, 9]) (ss := [([1, 8, 9], lsl20r13), ([1, 8, 9], lsl20r13v2)]) (by kernel_rfl) (by kernel_rfl) (all_cons l20r13v (all_cons l20r13v2v (all_nil)))) (all_nil)))) (by kernel_rfl) h6.of

abbrev Sj4r17 : List (Nat × Pat × Sp) := []
theorem hSj4r17 : SpecOK E (ofL Sj4r17) := specOK_nil
abbrev Lj4r17 : List (Nat × List Nat × Pat × LSp) := []
def lsj4r17 : LSp := fun vs σ K => asCons vs fun a1 r1 => asD (.sl (.arr 2 (.int .i64))) a1 fun s1 => asCons r1 fun a2 r2 => asD (.int .i64) a2 fun s2 => asCons r2 fun a3 r3 => asP (.vec 0) a3 <| asCons r3 fun a4 r4 => asD (.int .i64) a4 fun s3 => asCons r4 fun a5 r5 => asP (.vec 1) a5 <| asCons r5 fun a6 r6 => asP (.ptr 2 0 []) a6 <| asCons r6 fun a7 r7 => asD (.int .i64) a7 fun s4 => asCons r7 fun a8 r8 => asD (.sl (.arr 2 (.int .i64))) a8 fun s5 => asCons r8 fun a9 r9 => asD (.int .i64) a9 fun s6 => asCons r9 fun a10 r10 => asD (.int .i64) a10 fun s7 => asNil r10 <| asCons σ fun a11 r11 => asRw (.arr 2 (.int .i64)) false a11 fun s8 => asCons r11 fun a12 r12 => asRw (.int .i64) false a12 fun s9 => asCons r12 fun a13 r13 => asOne (.arr 2 (.int .i64)) a13 fun a14 => asD (.arr 2 (.int .i64)) a14 fun s10 => asNil r13 <| j4r17 (fun z1 z2 z3 => K .ret [(0, .undef), (1, .undef), (4, B z1), (7, .vec 0), (8, I z2), (9, .undef), (71, .undef), (72, .undef), (73, .undef)] [.row (.arr 2 (.int .i64)) z3 false]) (fun z1 z2 z3 z4 z5 z6 z7 z8 => K .normal [(0, .d (.sl (.arr 2 (.int .i64))) z1), (1, I z2), (4, .undef), (7, .vec 0), (8, I z3), (9, .vec 1), (71, .d (.sl (.arr 2 (.int .i64))) z4), (72, I z5), (73, I z6)] [.row (.arr 2 (.int .i64)) z7 false, .row (.int .i64) z8 false]) s1 s2 s3 s4 s5 s6 s7 s8 s9 s10
theorem j4r17v : JoinV E (inlF (PA (ACall E)) E 8) (E.info 4).keep 0 Try.f4.ntmps 5400017 4000017 (jbody Try.f4 4000017) ([0, 1, 7, 8, 9, 11, 12, 71, 72, 73], lsj4r17) := by
  intro vs σ K (h0 : lsj4r17 vs σ K)
  unfold lsj4r17 at h0
  obtain ⟨a1, r1, rfl, h1⟩ := asCons_inv h0; clear h0
  obtain ⟨s1, rfl, h2⟩ := asD_inv h1; clear h1
  obtain ⟨a2, r2, rfl, h3⟩ := asCons_inv h2; clear h2
  obtain ⟨s2, rfl, h4⟩ := asD_inv h3; clear h3
  obtain ⟨a3, r3, rfl, h5⟩ := asCons_inv h4; clear h4
  obtain ⟨rfl, h6⟩ := asP_inv h5; clear h5
  obtain ⟨a4, r4, rfl, h7⟩ := asCons_inv h6; clear h6
  obtain ⟨s3, rfl, h8⟩ := asD_inv h7; clear h7
  obtain ⟨a5, r5, rfl, h9⟩ := asCons_inv h8; clear h8
  obtain ⟨rfl, h10⟩ := asP_inv h9; clear h9
  obtain ⟨a6, r6, rfl, h11⟩ := asCons_inv h10; clear h10
  obtain ⟨rfl, h12⟩ := asP_inv h11; clear h11
  obtain ⟨a7, r7, rfl, h13⟩ := asCons_inv h12; clear h12
  obtain ⟨s4, rfl, h14⟩ := asD_inv h13; clear h13
  obtain ⟨a8, r8, rfl, h15⟩ := asCons_inv h14; clear h14
  obtain ⟨s5, rfl, h16⟩ := asD_inv h15; clear h15
  obtain ⟨a9, r9, rfl, h17⟩ := asCons_inv h16; clear h16
  obtain ⟨s6, rfl, h18⟩ := asD_inv h17; clear h17
  obtain ⟨a10, r10, rfl, h19⟩ := asCons_inv h18; clear h18
  obtain ⟨s7, rfl, h20⟩ := asD_inv h19; clear h19
  obtain ⟨rfl, h21⟩ := asNil_inv h20; clear h20
  obtain ⟨a11, r11, rfl, h22⟩ := asCons_inv h21; clear h21
  obtain ⟨s8, rfl, h23⟩ := asRw_inv h22; clear h22
  obtain ⟨a12, r12, rfl, h24⟩ := asCons_inv h23; clear h23
  obtain ⟨s9, rfl, h25⟩ := asRw_inv h24; clear h24
  obtain ⟨a13, r13, rfl, h26⟩ := asCons_inv h25; clear h25
  obtain ⟨a14, rfl, h27⟩ := asOne_inv h26; clear h26
  obtain ⟨s10, rfl, h28⟩ := asD_inv h27; clear h27
  obtain ⟨rfl, h29⟩ := asNil_inv h28; clear h28
  exact join_round2 (S := ofL Sj4r17) (L := lofL Lj4r17) hSj4r17 (inlOK _) (all_eq (by kernel_rfl : subsOf (E.info 4).keep (jbody Try.f4 4000017) = []) (all_nil)) (by kernel_rfl) h29.of

abbrev Sl21r2 : List (Nat × Pat × Sp) := []
theorem hSl21r2 : SpecOK E (ofL Sl21r2) := specOK_nil
abbrev Ll21r2 : List (Nat × List Nat × Pat × LSp) := []
def lsl21r2 : LSp := fun vs σ K => asCons vs fun a1 r1 => asD (.int .i64) a1 fun s1 => asCons r1 fun a2 r2 => asD (.sl (.int .i64)) a2 fun s2 => asCons r2 fun a3 r3 => asD (.int .i64) a3 fun s3 => asCons r3 fun a4 r4 => asD (.int .i64) a4 fun s4 => asNil r4 <| asNil σ <| l21r2 (fun z1 => K .ret [(4, B z1)] []) (K (.exit 0) [(4, .undef)] []) s1 s2 s3 s4
theorem l21r2v : LoopV E (inlF (PA (ACall E)) E 8) (E.info 21).keep 0 Try.f21.ntmps 22000002 (body Try.f21 2) ([1, 7, 8, 9], lsl21r2) := by
  intro vs σ K (h0 : lsl21r2 vs σ K)
  unfold lsl21r2 at h0
  obtain ⟨a1, r1, rfl, h1⟩ := asCons_inv h0; clear h0
  obtain ⟨s1, rfl, h2⟩ := asD_inv h1; clear h1
  obtain ⟨a2, r2, rfl, h3⟩ := asCons_inv h2; clear h2
  obtain ⟨s2, rfl, h4⟩ := asD_inv h3; clear h3
  obtain ⟨a3, r3, rfl, h5⟩ := asCons_inv h4; clear h4
  obtain ⟨s3, rfl, h6⟩ := asD_inv h5; clear h5
  obtain ⟨a4, r4, rfl, h7⟩ := asCons_inv h6; clear h6
  obtain ⟨s4, rfl, h8⟩ := asD_inv h7; clear h7
  obtain ⟨rfl, h9⟩ := asNil_inv h8; clear h8
  obtain ⟨rfl, h10⟩ := asNil_inv h9; clear h9
  intro J hJ
  have hp : ∀ c' ∈ subsOf (E.info 21).keep (body Try.f21 2), SubOK E (inlF (PA (ACall E)) E 8) (E.info 21).keep 0 Try.f21.ntmps (lofL Ll21r2) c' := all_eq (by kernel_rfl : subsOf (E.info 21).keep (body Try.f21 2) = []) (all_nil)
  exact h10.of (fun s1 s2 s3 s4 => J [(22000002, .undef), (1, I s1), (7, .d (.sl (.int .i64)) s2), (8, I s3), (9, I s4)] []) (fun s1 s2 s3 s4 hb => loop_round2 (S := ofL Sl21r2) (L := lofL Ll21r2) hSl21r2 (inlOK _) hp hJ (by kernel_rfl) hb)

abbrev S21 : List (Nat × Pat × Sp) := []
theorem hS21 : SpecOK E (ofL S21) := specOK_nil
abbrev L21 : List (Nat × List Nat × Pat × LSp) := [(22000002, [1, 7, 8, 9], none, lsl21r2)]
def sp21 : Sp := fun args τ K => asCons args fun a1 r1 => asD (.sl (.int .i64)) a1 fun x1 => asCons r1 fun a2 r2 => asD (.int .i64) a2 fun x2 => asNil r2 <| asNil τ <| c21 x1 x2 (fun z1 => K (B z1) [])
theorem h21 : ∀ args τ K, sp21 args τ K → ACall E 21 args τ K := by
  intro args τ K h0
  unfold sp21 at h0
  obtain ⟨a1, r1, rfl, h1⟩ := asCons_inv h0; clear h0
  obtain ⟨x1, rfl, h2⟩ := asD_inv h1; clear h1
  obtain ⟨a2, r2, rfl, h3⟩ := asCons_inv h2; clear h2
  obtain ⟨x2, rfl, h4⟩ := asD_inv h3; clear h3
  obtain ⟨rfl, h5⟩ := asNil_inv h4; clear h4
  obtain ⟨rfl, h6⟩ := asNil_inv h5; clear h5
  exact ACall.spec2 (fn := Try.f21) (c := codeOf Try.f21) (S := ofL S21) (L := lofL L21) hS21 (by kernel_rfl) (by kernel_rfl) (inlOK _) (all_eq (by kernel_rfl : subsOf (E.info 21).keep (codeOf Try.f21) = [.loop (body Try.f21 2)]) (all_cons (loopOK_of (mk := 22000002) (sl := [1, 7, 8, 9]) (ss := [([1, 7, 8, 9], lsl21r2)]) (by kernel_rfl) (by kernel_rfl) (all_cons l21r2v (all_nil))) (all_nil))) (by kernel_rfl) h6.of

abbrev Sl4r8 : List (Nat × Pat × Sp) := [(21, none, sp21)]
theorem hSl4r8 : SpecOK E (ofL Sl4r8) := specOK_cons h21 (specOK_nil)
abbrev Ll4r8 : List (Nat × List Nat × Pat × LSp) := [(5400017, [0, 1, 7, 8, 9, 11, 12, 71, 72, 73], none, lsj4r17)]
def lsl4r8 : LSp := fun vs σ K => asCons vs fun a1 r1 => asD (.sl (.arr 2 (.int .i64))) a1 fun s1 => asCons r1 fun a2 r2 => asD (.int .i64) a2 fun s2 => asCons r2 fun a3 r3 => asP (.vec 0) a3 <| asCons r3 fun a4 r4 => asD (.int .i64) a4 fun s3 => asCons r4 fun a5 r5 => asP (.vec 1) a5 <| asCons r5 fun a6 r6 => asD (.sl (.arr 2 (.int .i64))) a6 fun s4 => asCons r6 fun a7 r7 => asD (.int .i64) a7 fun s5 => asCons r7 fun a8 r8 => asD (.int .i64) a8 fun s6 => asNil r8 <| asCons σ fun a9 r9 => asRw (.arr 2 (.int .i64)) false a9 fun s7 => asCons r9 fun a10 r10 => asRw (.int .i64) false a10 fun s8 => asNil r10 <| l4r8 (fun z1 z2 z3 => K .ret [(0, .undef), (1, .undef), (4, B z1), (7, .vec 0), (8, I z2), (9, .undef)] [.row (.arr 2 (.int .i64)) z3 false]) (fun z1 z2 z3 z4 z5 => K (.exit 0) [(0, .d (.sl (.arr 2 (.int .i64))) z1), (1, I z2), (4, .undef), (7, .vec 0), (8, I z3), (9, .vec 1)] [.row (.arr 2 (.int .i64)) z4 false, .row (.int .i64) z5 false]) s1 s2 s3 s4 s5 s6 s7 s8
theorem l4r8v : LoopV E (inlF (PA (ACall E)) E 8) (E.info 4).keep 0 Try.f4.ntmps 5000008 (body Try.f4 8) ([0, 1, 7, 8, 9, 71, 72, 73], lsl4r8) := by
  intro vs σ K (h0 : lsl4r8 vs σ K)
  unfold lsl4r8 at h0
  obtain ⟨a1, r1, rfl, h1⟩ := asCons_inv h0; clear h0
  obtain ⟨s1, rfl, h2⟩ := asD_inv h1; clear h1
  obtain ⟨a2, r2, rfl, h3⟩ := asCons_inv h2; clear h2
  obtain ⟨s2, rfl, h4⟩ := asD_inv h3; clear h3
  obtain ⟨a3, r3, rfl, h5⟩ := asCons_inv h4; clear h4
  obtain ⟨rfl, h6⟩ := asP_inv h5; clear h5
  obtain ⟨a4, r4, rfl, h7⟩ := asCons_inv h6; clear h6
  obtain ⟨s3, rfl, h8⟩ := asD_inv h7; clear h7
  obtain ⟨a5, r5, rfl, h9⟩ := asCons_inv h8; clear h8
  obtain ⟨rfl, h10⟩ := asP_inv h9; clear h9
  obtain ⟨a6, r6, rfl, h11⟩ := asCons_inv h10; clear h10
  obtain ⟨s4, rfl, h12⟩ := asD_inv h11; clear h11
  obtain ⟨a7, r7, rfl, h13⟩ := asCons_inv h12; clear h12
  obtain ⟨s5, rfl, h14⟩ := asD_inv h13; clear h13
  obtain ⟨a8, r8, rfl, h15⟩ := asCons_inv h14; clear h14
  obtain ⟨s6, rfl, h16⟩ := asD_inv h15; clear h15
  obtain ⟨rfl, h17⟩ := asNil_inv h16; clear h16
  obtain ⟨a9, r9, rfl, h18⟩ := asCons_inv h17; clear h17
  obtain ⟨s7, rfl, h19⟩ := asRw_inv h18; clear h18
  obtain ⟨a10, r10, rfl, h20⟩ := asCons_inv h19; clear h19
  obtain ⟨s8, rfl, h21⟩ := asRw_inv h20; clear h20
  obtain ⟨rfl, h22⟩ := asNil_inv h21; clear h21
  intro J hJ
  have hp : ∀ c' ∈ subsOf (E.info 4).keep (body Try.f4 8), SubOK E (inlF (PA (ACall E)) E 8) (E.info 4).keep 0 Try.f4.ntmps (lofL Ll4r8) c' := all_eq (by kernel_rfl : subsOf (E.info 4).keep (body Try.f4 8) = [.join 4000017 (jbody Try.f4 4000017)]) (all_cons (joinOK_of (mk := 5400017) (sl := [0, 1, 7, 8, 9, 11, 12, 71, 72, 73]) (ss := [([0, 1, 7, 8, 9, 11, 12, 71, 72, 73], lsj4r17)]) (by kernel_rfl) (by kernel_rfl) (all_cons j4r17v (all_nil))) (all_nil))
  exact h22.of (fun s1 s2 s3 s4 s5 s6 s7 s8 => J [(5000008, .undef), (0, .d (.sl (.arr 2 (.int .i64))) s1), (1, I s2), (7, .vec 0), (8, I s3), (9, .vec 1), (71, .d (.sl (.arr 2 (.int .i64))) s4), (72, I s5), (73, I s6)] [.row (.arr 2 (.int .i64)) s7 false, .row (.int .i64) s8 false]) (fun s1 s2 s3 s4 s5 s6 s7 s8 hb => loop_round2 (S := ofL Sl4r8) (L := lofL Ll4r8) hSl4r8 (inlOK _) hp hJ (by kernel_rfl) hb)

abbrev Sl22r2 : List (Nat × Pat × Sp) := []
theorem hSl22r2 : SpecOK E (ofL Sl22r2) := specOK_nil
abbrev Ll22r2 : List (Nat × List Nat × Pat × LSp) := []
def lsl22r2 : LSp := fun vs σ K => asCons vs fun a1 r1 => asD (.int .i64) a1 fun s1 => asCons r1 fun a2 r2 => asP (.ptr 0 0 []) a2 <| asCons r2 fun a3 r3 => asP (.ptr 2 0 []) a3 <| asCons r3 fun a4 r4 => asP (.vec 1) a4 <| asCons r4 fun a5 r5 => asD (.int .i64) a5 fun s2 => asCons r5 fun a6 r6 => asD (.int .i64) a6 fun s3 => asNil r6 <| asCons σ fun a7 r7 => asOne (.sl (.int .i64)) a7 fun a8 => asP (.vec 1) a8 <| asCons r7 fun a9 r9 => asRw (.int .i64) false a9 fun s4 => asCons r9 fun a10 r10 => asOne (.sl (.int .i64)) a10 fun a11 => asP (.vec 3) a11 <| asCons r10 fun a12 r12 => asRw (.int .i64) false a12 fun s5 => asNil r12 <| l22r2 (fun z1 z2 z3 => K .ret [(0, .undef), (1, .undef), (2, .undef), (4, I z1)] [.one (.sl (.int .i64)) (.vec 1), .row (.int .i64) z2 false, .one (.sl (.int .i64)) (.vec 3), .row (.int .i64) z3 false]) (fun z1 z2 z3 => K (.exit 0) [(0, I z1), (1, .ptr 0 0 []), (2, .ptr 2 0 []), (4, .undef)] [.one (.sl (.int .i64)) (.vec 1), .row (.int .i64) z2 false, .one (.sl (.int .i64)) (.vec 3), .row (.int .i64) z3 false]) s1 s2 s3 s4 s5
theorem l22r2v : LoopV E (inlF (PA (ACall E)) E 8) (E.info 22).keep 4 Try.f22.ntmps 23000002 (body Try.f22 2) ([0, 1, 2, 7, 8, 9], lsl22r2) := by
  intro vs σ K (h0 : lsl22r2 vs σ K)
  unfold lsl22r2 at h0
  obtain ⟨a1, r1, rfl, h1⟩ := asCons_inv h0; clear h0
  obtain ⟨s1, rfl, h2⟩ := asD_inv h1; clear h1
  obtain ⟨a2, r2, rfl, h3⟩ := asCons_inv h2; clear h2
  obtain ⟨rfl, h4⟩ := asP_inv h3; clear h3
  obtain ⟨a3, r3, rfl, h5⟩ := asCons_inv h4; clear h4
  obtain ⟨rfl, h6⟩ := asP_inv h5; clear h5
  obtain ⟨a4, r4, rfl, h7⟩ := asCons_inv h6; clear h6
  obtain ⟨rfl, h8⟩ := asP_inv h7; clear h7
  obtain ⟨a5, r5, rfl, h9⟩ := asCons_inv h8; clear h8
  obtain ⟨s2, rfl, h10⟩ := asD_inv h9; clear h9
  obtain ⟨a6, r6, rfl, h11⟩ := asCons_inv h10; clear h10
  obtain ⟨s3, rfl, h12⟩ := asD_inv h11; clear h11
  obtain ⟨rfl, h13⟩ := asNil_inv h12; clear h12
  obtain ⟨a7, r7, rfl, h14⟩ := asCons_inv h13; clear h13
  obtain ⟨a8, rfl, h15⟩ := asOne_inv h14; clear h14
  obtain ⟨rfl, h16⟩ := asP_inv h15; clear h15
  obtain ⟨a9, r9, rfl, h17⟩ := asCons_inv h16; clear h16
  obtain ⟨s4, rfl, h18⟩ := asRw_inv h17; clear h17
  obtain ⟨a10, r10, rfl, h19⟩ := asCons_inv h18; clear h18
  obtain ⟨a11, rfl, h20⟩ := asOne_inv h19; clear h19
  obtain ⟨rfl, h21⟩ := asP_inv h20; clear h20
  obtain ⟨a12, r12, rfl, h22⟩ := asCons_inv h21; clear h21
  obtain ⟨s5, rfl, h23⟩ := asRw_inv h22; clear h22
  obtain ⟨rfl, h24⟩ := asNil_inv h23; clear h23
  intro J hJ
  have hp : ∀ c' ∈ subsOf (E.info 22).keep (body Try.f22 2), SubOK E (inlF (PA (ACall E)) E 8) (E.info 22).keep 4 Try.f22.ntmps (lofL Ll22r2) c' := all_eq (by kernel_rfl : subsOf (E.info 22).keep (body Try.f22 2) = []) (all_nil)
  exact h24.of (fun s1 s2 s3 s4 s5 => J [(23000002, .undef), (0, I s1), (1, .ptr 0 0 []), (2, .ptr 2 0 []), (7, .vec 1), (8, I s2), (9, I s3)] [.one (.sl (.int .i64)) (.vec 1), .row (.int .i64) s4 false, .one (.sl (.int .i64)) (.vec 3), .row (.int .i64) s5 false]) (fun s1 s2 s3 s4 s5 hb => loop_round2 (S := ofL Sl22r2) (L := lofL Ll22r2) hSl22r2 (inlOK _) hp hJ (by kernel_rfl) hb)

abbrev S22 : List (Nat × Pat × Sp) := []
theorem hS22 : SpecOK E (ofL S22) := specOK_nil
abbrev L22 : List (Nat × List Nat × Pat × LSp) := [(23000002, [0, 1, 2, 7, 8, 9], none, lsl22r2)]
def sp22 : Sp := fun args τ K => asCons args fun a1 r1 => asD (.int .i64) a1 fun x1 => asCons r1 fun a2 r2 => asP (.ptr 0 0 []) a2 <| asCons r2 fun a3 r3 => asP (.ptr 2 0 []) a3 <| asNil r3 <| asCons τ fun a4 r4 => asOne (.sl (.int .i64)) a4 fun a5 => asP (.vec 1) a5 <| asCons r4 fun a6 r6 => asRw (.int .i64) false a6 fun x2 => asCons r6 fun a7 r7 => asOne (.sl (.int .i64)) a7 fun a8 => asP (.vec 3) a8 <| asCons r7 fun a9 r9 => asRw (.int .i64) false a9 fun x3 => asNil r9 <| c22 x1 x2 x3 (fun z1 z2 z3 => K (I z1) [.one (.sl (.int .i64)) (.vec 1), .row (.int .i64) z2 false, .one (.sl (.int .i64)) (.vec 3), .row (.int .i64) z3 false]) (fun z1 z2 z3 => K (I z1) [.one (.sl (.int .i64)) (.vec 4), .dead, .one (.sl (.int .i64)) (.vec 5), .dead, .row (.int .i64) z2 false, .row (.int .i64) z3 false])
theorem h22 : ∀ args τ K, sp22 args τ K → ACall E 22 args τ K := by
  intro args τ K h0
  unfold sp22 at h0
  obtain ⟨a1, r1, rfl, h1⟩ := asCons_inv h0; clear h0
  obtain ⟨x1, rfl, h2⟩ := asD_inv h1; clear h1
  obtain ⟨a2, r2, rfl, h3⟩ := asCons_inv h2; clear h2
  obtain ⟨rfl, h4⟩ := asP_inv h3; clear h3
  obtain ⟨a3, r3, rfl, h5⟩ := asCons_inv h4; clear h4
  obtain ⟨rfl, h6⟩ := asP_inv h5; clear h5
  obtain ⟨rfl, h7⟩ := asNil_inv h6; clear h6
  obtain ⟨a4, r4, rfl, h8⟩ := asCons_inv h7; clear h7
  obtain ⟨a5, rfl, h9⟩ := asOne_inv h8; clear h8
  obtain ⟨rfl, h10⟩ := asP_inv h9; clear h9
  obtain ⟨a6, r6, rfl, h11⟩ := asCons_inv h10; clear h10
  obtain ⟨x2, rfl, h12⟩ := asRw_inv h11; clear h11
  obtain ⟨a7, r7, rfl, h13⟩ := asCons_inv h12; clear h12
  obtain ⟨a8, rfl, h14⟩ := asOne_inv h13; clear h13
  obtain ⟨rfl, h15⟩ := asP_inv h14; clear h14
  obtain ⟨a9, r9, rfl, h16⟩ := asCons_inv h15; clear h15
  obtain ⟨x3, rfl, h17⟩ := asRw_inv h16; clear h16
  obtain ⟨rfl, h18⟩ := asNil_inv h17; clear h17
  exact ACall.spec2 (fn := Try.f22) (c := codeOf Try.f22) (S := ofL S22) (L := lofL L22) hS22 (by kernel_rfl) (by kernel_rfl) (inlOK _) (all_eq (by kernel_rfl : subsOf (E.info 22).keep (codeOf Try.f22) = [.loop (body Try.f22 2)]) (all_cons (loopOK_of (mk := 23000002) (sl := [0, 1, 2, 7, 8, 9]) (ss := [([0, 1, 2, 7, 8, 9], lsl22r2)]) (by kernel_rfl) (by kernel_rfl) (all_cons l22r2v (all_nil))) (all_nil))) (by kernel_rfl) h18.of

abbrev Sl4r24 : List (Nat × Pat × Sp) := [(22, none, sp22)]
theorem hSl4r24 : SpecOK E (ofL Sl4r24) := specOK_cons h22 (specOK_nil)
abbrev Ll4r24 : List (Nat × List Nat × Pat × LSp) := []
def lsl4r24 : LSp := fun vs σ K => asCons vs fun a1 r1 => asD (.sl (.arr 2 (.int .i64))) a1 fun s1 => asCons r1 fun a2 r2 => asD (.int .i64) a2 fun s2 => asCons r2 fun a3 r3 => asD (.int .i64) a3 fun s3 => asCons r3 fun a4 r4 => asP (.vec 0) a4 <| asCons r4 fun a5 r5 => asP (.ptr 1 0 []) a5 <| asCons r5 fun a6 r6 => asP (.ptr 3 0 []) a6 <| asCons r6 fun a7 r7 => asFn 22 a7 fun l8 l9 => asNil l8 <| asCons l9 fun a10 r10 => asP (.ptr 1 0 []) a10 <| asCons r10 fun a11 r11 => asP (.ptr 3 0 []) a11 <| asNil r11 <| asCons r7 fun a12 r12 => asP (.vec 5) a12 <| asCons r12 fun a13 r13 => asD (.int .i64) a13 fun s4 => asCons r13 fun a14 r14 => asD (.int .i64) a14 fun s5 => asNil r14 <| asCons σ fun a15 r15 => asRw (.int .i64) false a15 fun s6 => asCons r15 fun a16 r16 => asOne (.sl (.int .i64)) a16 fun a17 => asP (.vec 2) a17 <| asCons r16 fun a18 r18 => asRw (.int .i64) false a18 fun s7 => asCons r18 fun a19 r19 => asOne (.sl (.int .i64)) a19 fun a20 => asP (.vec 4) a20 <| asCons r19 fun a21 r21 => asRw (.int .i64) false a21 fun s8 => asCons r21 fun a22 r22 => asRw (.arr 2 (.int .i64)) false a22 fun s9 => asNil r22 <| l4r24 (fun z1 z2 z3 z4 z5 z6 => K (.exit 3) [(0, .d (.sl (.arr 2 (.int .i64))) z1), (1, I z2), (8, I z3), (9, .vec 0), (13, .ptr 1 0 []), (14, .ptr 3 0 []), (15, .fn 22 [] [.ptr 1 0 [], .ptr 3 0 []])] [.row (.int .i64) z4 false, .one (.sl (.int .i64)) (.vec 2), .row (.int .i64) z5 false, .one (.sl (.int .i64)) (.vec 4), .row (.int .i64) z6 false]) s1 s2 s3 s4 s5 s6 s7 s8 s9
theorem l4r24v : LoopV E (inlF (PA (ACall E)) E 8) (E.info 4).keep 0 Try.f4.ntmps 5000024 (body Try.f4 24) ([0, 1, 8, 9, 13, 14, 15, 119, 120, 121], lsl4r24) := by
  intro vs σ K (h0 : lsl4r24 vs σ K)
  unfold lsl4r24 at h0
  obtain ⟨a1, r1, rfl, h1⟩ := asCons_inv h0; clear h0
  obtain ⟨s1, rfl, h2⟩ := asD_inv h1; clear h1
  obtain ⟨a2, r2, rfl, h3⟩ := asCons_inv h2; clear h2
  obtain ⟨s2, rfl, h4⟩ := asD_inv h3; clear h3
  obtain ⟨a3, r3, rfl, h5⟩ := asCons_inv h4; clear h4
  obtain ⟨s3, rfl, h6⟩ := asD_inv h5; clear h5
  obtain ⟨a4, r4, rfl, h7⟩ := asCons_inv h6; clear h6
  obtain ⟨rfl, h8⟩ := asP_inv h7; clear h7
  obtain ⟨a5, r5, rfl, h9⟩ := asCons_inv h8; clear h8
  obtain ⟨rfl, h10⟩ := asP_inv h9; clear h9
  obtain ⟨a6, r6, rfl, h11⟩ := asCons_inv h10; clear h10
  obtain ⟨rfl, h12⟩ := asP_inv h11; clear h11
  obtain ⟨a7, r7, rfl, h13⟩ := asCons_inv h12; clear h12
  obtain ⟨l8, l9, rfl, h14⟩ := asFn_inv h13; clear h13
  obtain ⟨rfl, h15⟩ := asNil_inv h14; clear h14
  obtain ⟨a10, r10, rfl, h16⟩ := asCons_inv h15; clear h15
  obtain ⟨rfl, h17⟩ := asP_inv h16; clear h16
  obtain ⟨a11, r11, rfl, h18⟩ := asCons_inv h17; clear h17
  obtain ⟨rfl, h19⟩ := asP_inv h18; clear h18
  obtain ⟨rfl, h20⟩ := asNil_inv h19; clear h19
  obtain ⟨a12, r12, rfl, h21⟩ := asCons_inv h20; clear h20
  obtain ⟨rfl, h22⟩ := asP_inv h21; clear h21
  obtain ⟨a13, r13, rfl, h23⟩ := asCons_inv h22; clear h22
  obtain ⟨s4, rfl, h24⟩ := asD_inv h23; clear h23
  obtain ⟨a14, r14, rfl, h25⟩ := asCons_inv h24; clear h24
  obtain ⟨s5, rfl, h26⟩ := asD_inv h25; clear h25
  obtain ⟨rfl, h27⟩ := asNil_inv h26; clear h26
  obtain ⟨a15, r15, rfl, h28⟩ := asCons_inv h27; clear h27
  obtain ⟨s6, rfl, h29⟩ := asRw_inv h28; clear h28
  obtain ⟨a16, r16, rfl, h30⟩ := asCons_inv h29; clear h29
  obtain ⟨a17, rfl, h31⟩ := asOne_inv h30; clear h30
  obtain ⟨rfl, h32⟩ := asP_inv h31; clear h31
  obtain ⟨a18, r18, rfl, h33⟩ := asCons_inv h32; clear h32
  obtain ⟨s7, rfl, h34⟩ := asRw_inv h33; clear h33
  obtain ⟨a19, r19, rfl, h35⟩ := asCons_inv h34; clear h34
  obtain ⟨a20, rfl, h36⟩ := asOne_inv h35; clear h35
  obtain ⟨rfl, h37⟩ := asP_inv h36; clear h36
  obtain ⟨a21, r21, rfl, h38⟩ := asCons_inv h37; clear h37
  obtain ⟨s8, rfl, h39⟩ := asRw_inv h38; clear h38
  obtain ⟨a22, r22, rfl, h40⟩ := asCons_inv h39; clear h39
  obtain ⟨s9, rfl, h41⟩ := asRw_inv h40; clear h40
  obtain ⟨rfl, h42⟩ := asNil_inv h41; clear h41
  intro J hJ
  have hp : ∀ c' ∈ subsOf (E.info 4).keep (body Try.f4 24), SubOK E (inlF (PA (ACall E)) E 8) (E.info 4).keep 0 Try.f4.ntmps (lofL Ll4r24) c' := all_eq (by kernel_rfl : subsOf (E.info 4).keep (body Try.f4 24) = []) (all_nil)
  exact h42.of (fun s1 s2 s3 s4 s5 s6 s7 s8 s9 => J [(5000024, .undef), (0, .d (.sl (.arr 2 (.int .i64))) s1), (1, I s2), (8, I s3), (9, .vec 0), (13, .ptr 1 0 []), (14, .ptr 3 0 []), (15, .fn 22 [] [.ptr 1 0 [], .ptr 3 0 []]), (119, .vec 5), (120, I s4), (121, I s5)] [.row (.int .i64) s6 false, .one (.sl (.int .i64)) (.vec 2), .row (.int .i64) s7 false, .one (.sl (.int .i64)) (.vec 4), .row (.int .i64) s8 false, .row (.arr 2 (.int .i64)) s9 false]) (fun s1 s2 s3 s4 s5 s6 s7 s8 s9 hb => loop_round2 (S := ofL Sl4r24) (L := lofL Ll4r24) hSl4r24 (inlOK _) hp hJ (by kernel_rfl) hb)

abbrev Sl4r31 : List (Nat × Pat × Sp) := [(22, none, sp22)]
theorem hSl4r31 : SpecOK E (ofL Sl4r31) := specOK_cons h22 (specOK_nil)
abbrev Ll4r31 : List (Nat × List Nat × Pat × LSp) := []
def lsl4r31 : LSp := fun vs σ K => asCons vs fun a1 r1 => asD (.int .i64) a1 fun s1 => asCons r1 fun a2 r2 => asD (.int .i64) a2 fun s2 => asCons r2 fun a3 r3 => asP (.vec 0) a3 <| asCons r3 fun a4 r4 => asP (.ptr 1 0 []) a4 <| asCons r4 fun a5 r5 => asP (.ptr 3 0 []) a5 <| asCons r5 fun a6 r6 => asFn 22 a6 fun l7 l8 => asNil l7 <| asCons l8 fun a9 r9 => asP (.ptr 1 0 []) a9 <| asCons r9 fun a10 r10 => asP (.ptr 3 0 []) a10 <| asNil r10 <| asCons r6 fun a11 r11 => asD (.sl (.arr 2 (.int .i64))) a11 fun s3 => asCons r11 fun a12 r12 => asD (.int .i64) a12 fun s4 => asCons r12 fun a13 r13 => asD (.int .i64) a13 fun s5 => asNil r13 <| asCons σ fun a14 r14 => asRw (.int .i64) false a14 fun s6 => asCons r14 fun a15 r15 => asOne (.sl (.int .i64)) a15 fun a16 => asP (.vec 2) a16 <| asCons r15 fun a17 r17 => asRw (.int .i64) false a17 fun s7 => asCons r17 fun a18 r18 => asOne (.sl (.int .i64)) a18 fun a19 => asP (.vec 4) a19 <| asCons r18 fun a20 r20 => asRw (.int .i64) false a20 fun s8 => asNil r20 <| l4r31 (fun z1 => K .ret [(1, .undef), (4, B z1), (8, .undef), (9, .undef), (13, .undef), (14, .undef)] []) (fun z1 z2 z3 z4 z5 => K (.exit 5) [(1, I z1), (4, .undef), (8, I z2), (9, .vec 0), (13, .ptr 1 0 []), (14, .ptr 3 0 [])] [.row (.int .i64) z3 false, .one (.sl (.int .i64)) (.vec 2), .row (.int .i64) z4 false, .one (.sl (.int .i64)) (.vec 4), .row (.int .i64) z5 false]) s1 s2 s3 s4 s5 s6 s7 s8
theorem l4r31v : LoopV E (inlF (PA (ACall E)) E 8) (E.info 4).keep 0 Try.f4.ntmps 5000031 (body Try.f4 31) ([1, 8, 9, 13, 14, 15, 141, 142, 143], lsl4r31) := by
  intro vs σ K (h0 : lsl4r31 vs σ K)
  unfold lsl4r31 at h0
  obtain ⟨a1, r1, rfl, h1⟩ := asCons_inv h0; clear h0
  obtain ⟨s1, rfl, h2⟩ := asD_inv h1; clear h1
  obtain ⟨a2, r2, rfl, h3⟩ := asCons_inv h2; clear h2
  obtain ⟨s2, rfl, h4⟩ := asD_inv h3; clear h3
  obtain ⟨a3, r3, rfl, h5⟩ := asCons_inv h4; clear h4
  obtain ⟨rfl, h6⟩ := asP_inv h5; clear h5
  obtain ⟨a4, r4, rfl, h7⟩ := asCons_inv h6; clear h6
  obtain ⟨rfl, h8⟩ := asP_inv h7; clear h7
  obtain ⟨a5, r5, rfl, h9⟩ := asCons_inv h8; clear h8
  obtain ⟨rfl, h10⟩ := asP_inv h9; clear h9
  obtain ⟨a6, r6, rfl, h11⟩ := asCons_inv h10; clear h10
  obtain ⟨l7, l8, rfl, h12⟩ := asFn_inv h11; clear h11
  obtain ⟨rfl, h13⟩ := asNil_inv h12; clear h12
  obtain ⟨a9, r9, rfl, h14⟩ := asCons_inv h13; clear h13
  obtain ⟨rfl, h15⟩ := asP_inv h14; clear h14
  obtain ⟨a10, r10, rfl, h16⟩ := asCons_inv h15; clear h15
  obtain ⟨rfl, h17⟩ := asP_inv h16; clear h16
  obtain ⟨rfl, h18⟩ := asNil_inv h17; clear h17
  obtain ⟨a11, r11, rfl, h19⟩ := asCons_inv h18; clear h18
  obtain ⟨s3, rfl, h20⟩ := asD_inv h19; clear h19
  obtain ⟨a12, r12, rfl, h21⟩ := asCons_inv h20; clear h20
  obtain ⟨s4, rfl, h22⟩ := asD_inv h21; clear h21
  obtain ⟨a13, r13, rfl, h23⟩ := asCons_inv h22; clear h22
  obtain ⟨s5, rfl, h24⟩ := asD_inv h23; clear h23
  obtain ⟨rfl, h25⟩ := asNil_inv h24; clear h24
  obtain ⟨a14, r14, rfl, h26⟩ := asCons_inv h25; clear h25
  obtain ⟨s6, rfl, h27⟩ := asRw_inv h26; clear h26
  obtain ⟨a15, r15, rfl, h28⟩ := asCons_inv h27; clear h27
  obtain ⟨a16, rfl, h29⟩ := asOne_inv h28; clear h28
  obtain ⟨rfl, h30⟩ := asP_inv h29; clear h29
  obtain ⟨a17, r17, rfl, h31⟩ := asCons_inv h30; clear h30
  obtain ⟨s7, rfl, h32⟩ := asRw_inv h31; clear h31
  obtain ⟨a18, r18, rfl, h33⟩ := asCons_inv h32; clear h32
  obtain ⟨a19, rfl, h34⟩ := asOne_inv h33; clear h33
  obtain ⟨rfl, h35⟩ := asP_inv h34; clear h34
  obtain ⟨a20, r20, rfl, h36⟩ := asCons_inv h35; clear h35
  obtain ⟨s8, rfl, h37⟩ := asRw_inv h36; clear h36
  obtain ⟨rfl, h38⟩ := asNil_inv h37; clear h37
  intro J hJ
  have hp : ∀ c' ∈ subsOf (E.info 4).keep (body Try.f4 31), SubOK E (inlF (PA (ACall E)) E 8) (E.info 4).keep 0 Try.f4.ntmps (lofL Ll4r31) c' := all_eq (by kernel_rfl : subsOf (E.info 4).keep (body Try.f4 31) = []) (all_nil)
  exact h38.of (fun s1 s2 s3 s4 s5 s6 s7 s8 => J [(5000031, .undef), (1, I s1), (8, I s2), (9, .vec 0), (13, .ptr 1 0 []), (14, .ptr 3 0 []), (15, .fn 22 [] [.ptr 1 0 [], .ptr 3 0 []]), (141, .d (.sl (.arr 2 (.int .i64))) s3), (142, I s4), (143, I s5)] [.row (.int .i64) s6 false, .one (.sl (.int .i64)) (.vec 2), .row (.int .i64) s7 false, .one (.sl (.int .i64)) (.vec 4), .row (.int .i64) s8 false]) (fun s1 s2 s3 s4 s5 s6 s7 s8 hb => loop_round2 (S := ofL Sl4r31) (L := lofL Ll4r31) hSl4r31 (inlOK _) hp hJ (by kernel_rfl) hb)

abbrev Sl4r38 : List (Nat × Pat × Sp) := [(21, none, sp21)]
theorem hSl4r38 : SpecOK E (ofL Sl4r38) := specOK_cons h21 (specOK_nil)
abbrev Ll4r38 : List (Nat × List Nat × Pat × LSp) := []
def lsl4r38 : LSp := fun vs σ K => asCons vs fun a1 r1 => asD (.int .i64) a1 fun s1 => asCons r1 fun a2 r2 => asD (.int .i64) a2 fun s2 => asCons r2 fun a3 r3 => asP (.vec 0) a3 <| asCons r3 fun a4 r4 => asP (.ptr 1 0 []) a4 <| asCons r4 fun a5 r5 => asP (.vec 3) a5 <| asCons r5 fun a6 r6 => asD (.int .i64) a6 fun s3 => asCons r6 fun a7 r7 => asD (.int .i64) a7 fun s4 => asNil r7 <| asCons σ fun a8 r8 => asRw (.int .i64) false a8 fun s5 => asCons r8 fun a9 r9 => asOne (.sl (.int .i64)) a9 fun a10 => asP (.vec 2) a10 <| asCons r9 fun a11 r11 => asRw (.int .i64) false a11 fun s6 => asCons r11 fun a12 r12 => asRw (.int .i64) false a12 fun s7 => asNil r12 <| l4r38 (fun z1 => K .ret [(4, B z1), (8, .undef)] []) (fun z1 => K (.exit 7) [(4, .undef), (8, I z1)] []) s1 s2 s3 s4 s5 s6 s7
theorem l4r38v : LoopV E (inlF (PA (ACall E)) E 8) (E.info 4).keep 0 Try.f4.ntmps 5000038 (body Try.f4 38) ([1, 8, 9, 14, 159, 160, 161], lsl4r38) := by
  intro vs σ K (h0 : lsl4r38 vs σ K)
  unfold lsl4r38 at h0
  obtain ⟨a1, r1, rfl, h1⟩ := asCons_inv h0; clear h0
  obtain ⟨s1, rfl, h2⟩ := asD_inv h1; clear h1
  obtain ⟨a2, r2, rfl, h3⟩ := asCons_inv h2; clear h2
  obtain ⟨s2, rfl, h4⟩ := asD_inv h3; clear h3
  obtain ⟨a3, r3, rfl, h5⟩ := asCons_inv h4; clear h4
  obtain ⟨rfl, h6⟩ := asP_inv h5; clear h5
  obtain ⟨a4, r4, rfl, h7⟩ := asCons_inv h6; clear h6
  obtain ⟨rfl, h8⟩ := asP_inv h7; clear h7
  obtain ⟨a5, r5, rfl, h9⟩ := asCons_inv h8; clear h8
  obtain ⟨rfl, h10⟩ := asP_inv h9; clear h9
  obtain ⟨a6, r6, rfl, h11⟩ := asCons_inv h10; clear h10
  obtain ⟨s3, rfl, h12⟩ := asD_inv h11; clear h11
  obtain ⟨a7, r7, rfl, h13⟩ := asCons_inv h12; clear h12
  obtain ⟨s4, rfl, h14⟩ := asD_inv h13; clear h13
  obtain ⟨rfl, h15⟩ := asNil_inv h14; clear h14
  obtain ⟨a8, r8, rfl, h16⟩ := asCons_inv h15; clear h15
  obtain ⟨s5, rfl, h17⟩ := asRw_inv h16; clear h16
  obtain ⟨a9, r9, rfl, h18⟩ := asCons_inv h17; clear h17
  obtain ⟨a10, rfl, h19⟩ := asOne_inv h18; clear h18
  obtain ⟨rfl, h20⟩ := asP_inv h19; clear h19
  obtain ⟨a11, r11, rfl, h21⟩ := asCons_inv h20; clear h20
  obtain ⟨s6, rfl, h22⟩ := asRw_inv h21; clear h21
  obtain ⟨a12, r12, rfl, h23⟩ := asCons_inv h22; clear h22
  obtain ⟨s7, rfl, h24⟩ := asRw_inv h23; clear h23
  obtain ⟨rfl, h25⟩ := asNil_inv h24; clear h24
  intro J hJ
  have hp : ∀ c' ∈ subsOf (E.info 4).keep (body Try.f4 38), SubOK E (inlF (PA (ACall E)) E 8) (E.info 4).keep 0 Try.f4.ntmps (lofL Ll4r38) c' := all_eq (by kernel_rfl : subsOf (E.info 4).keep (body Try.f4 38) = []) (all_nil)
  exact h25.of (fun s1 s2 s3 s4 s5 s6 s7 => J [(5000038, .undef), (1, I s1), (8, I s2), (9, .vec 0), (14, .ptr 1 0 []), (159, .vec 3), (160, I s3), (161, I s4)] [.row (.int .i64) s5 false, .one (.sl (.int .i64)) (.vec 2), .row (.int .i64) s6 false, .row (.int .i64) s7 false]) (fun s1 s2 s3 s4 s5 s6 s7 hb => loop_round2 (S := ofL Sl4r38) (L := lofL Ll4r38) hSl4r38 (inlOK _) hp hJ (by kernel_rfl) hb)

abbrev S4 : List (Nat × Pat × Sp) := [(20, none, sp20)]
theorem hS4 : SpecOK E (ofL S4) := specOK_cons h20 (specOK_nil)
abbrev L4 : List (Nat × List Nat × Pat × LSp) := [(5000008, [0, 1, 7, 8, 9, 71, 72, 73], none, lsl4r8), (5000024, [0, 1, 8, 9, 13, 14, 15, 119, 120, 121], none, lsl4r24), (5000031, [1, 8, 9, 13, 14, 15, 141, 142, 143], none, lsl4r31), (5000038, [1, 8, 9, 14, 159, 160, 161], none, lsl4r38)]
def sp4 : Sp := fun args τ K => asCons args fun a1 r1 => asD (.sl (.arr 2 (.int .i64))) a1 fun x1 => asCons r1 fun a2 r2 => asD (.int .i64) a2 fun x2 => asNil r2 <| asNil τ <| c4 x1 x2 (fun z1 => K (B z1) [])
theorem h4 : ∀ args τ K, sp4 args τ K → ACall E 4 args τ K := by
  intro args τ K h0
  unfold sp4 at h0
  obtain ⟨a1, r1, rfl, h1⟩ := asCons_inv h0; clear h0
  obtain ⟨x1, rfl, h2⟩ := asD_inv h1; clear h1
  obtain ⟨a2, r2, rfl, h3⟩ := asCons_inv h2; clear h2
  obtain ⟨x2, rfl, h4⟩ := asD_inv h3; clear h3
  obtain ⟨rfl, h5⟩ := asNil_inv h4; clear h4
  obtain ⟨rfl, h6⟩ := asNil_inv h5; clear h5
  exact ACall.spec2 (fn := Try.f4) (c := codeOf Try.f4) (S := ofL S4) (L := lofL L4) hS4 (by kernel_rfl) (by kernel_rfl) (inlOK _) (all_eq (by kernel_rfl : subsOf (E.info 4).keep (codeOf Try.f4) = [.loop (body Try.f4 8), .loop (body Try.f4 24), .loop (body Try.f4 31), .loop (body Try.f4 38)]) (all_cons (loopOK_of (mk := 5000008) (sl := [0, 1, 7, 8, 9, 71, 72, 73]) (ss := [([0, 1, 7, 8, 9, 71, 72, 73], lsl4r8)]) (by kernel_rfl) (by kernel_rfl) (all_cons l4r8v (all_nil))) (all_cons (loopOK_of (mk := 5000024) (sl := [0, 1, 8, 9, 13, 14, 15, 119, 120, 121]) (ss := [([0, 1, 8, 9, 13, 14, 15, 119, 120, 121], lsl4r24)]) (by kernel_rfl) (by kernel_rfl) (all_cons l4r24v (all_nil))) (all_cons (loopOK_of (mk := 5000031) (sl := [1, 8, 9, 13, 14, 15, 141, 142, 143]) (ss := [([1, 8, 9, 13, 14, 15, 141, 142, 143], lsl4r31)]) (by kernel_rfl) (by kernel_rfl) (all_cons l4r31v (all_nil))) (all_cons (loopOK_of (mk := 5000038) (sl := [1, 8, 9, 14, 159, 160, 161]) (ss := [([1, 8, 9, 14, 159, 160, 161], lsl4r38)]) (by kernel_rfl) (by kernel_rfl) (all_cons l4r38v (all_nil))) (all_nil)))))) (by kernel_rfl) h6.of

end Go.Proofs.Ytfdoaacapkopmaa
