/- The functions compute that (printed by a program). -/
import Derived.Test.YtfdoaacapkopmaaAD9
import Derived.Test.YtfdoaacapkopmaaAEnvC
import Derived.KernelRfl
namespace Go.Proofs.Ytfdoaacapkopmaa
open Go.Abs
set_option maxRecDepth 100000
set_option maxHeartbeats 4000000
set_option linter.unusedVariables false
abbrev S103 : List (Nat × Pat × Sp) := []
theorem hS103 : SpecOK E (ofL S103) := specOK_nil
abbrev L103 : List (Nat × List Nat × Pat × LSp) := []
def sp103 : Sp := fun args τ K => asCons args fun a1 r1 => asD (.int .i64) a1 fun x1 => asCons r1 fun a2 r2 => asD (.int .i64) a2 fun x2 => asCons r2 fun a3 r3 => asD (.int .i64) a3 fun x3 => asNil r3 <| asNil τ <| c103 x1 x2 x3 (fun z1 => K (B z1) [])
theorem h103 : ∀ args τ K, sp103 args τ K → ACall E 103 args τ K := by
  intro args τ K h0
  unfold sp103 at h0
  obtain ⟨a1, r1, rfl, h1⟩ := asCons_inv h0; clear h0
  obtain ⟨x1, rfl, h2⟩ := asD_inv h1; clear h1
  obtain ⟨a2, r2, rfl, h3⟩ := asCons_inv h2; clear h2
  obtain ⟨x2, rfl, h4⟩ := asD_inv h3; clear h3
  obtain ⟨a3, r3, rfl, h5⟩ := asCons_inv h4; clear h4
  obtain ⟨x3, rfl, h6⟩ := asD_inv h5; clear h5
  obtain ⟨rfl, h7⟩ := asNil_inv h6; clear h6
  obtain ⟨rfl, h8⟩ := asNil_inv h7; clear h7
  exact ACall.spec2 (fn := Try.f103) (c := codeOf Try.f103) (S := ofL S103) (L := lofL L103) hS103 (by kernel_rfl) (by kernel_rfl) (inlOK _) (all_eq (by kernel_rfl : subsOf (E.info 103).keep (codeOf Try.f103) = []) (all_nil)) (by kernel_rfl) h8.of

abbrev S104 : List (Nat × Pat × Sp) := []
theorem hS104 : SpecOK E (ofL S104) := specOK_nil
abbrev L104 : List (Nat × List Nat × Pat × LSp) := []
def sp104 : Sp := fun args τ K => asCons args fun a1 r1 => asD (.int .i64) a1 fun x1 => asNil r1 <| asNil τ <| c104 x1 (fun z1 => K (.d (.pair .bool (.pair .bool (.pair .bool (.pair .bool .unit)))) z1) [])
theorem h104 : ∀ args τ K, sp104 args τ K → ACall E 104 args τ K := by
  intro args τ K h0
  unfold sp104 at h0
  obtain ⟨a1, r1, rfl, h1⟩ := asCons_inv h0; clear h0
  obtain ⟨x1, rfl, h2⟩ := asD_inv h1; clear h1
  obtain ⟨rfl, h3⟩ := asNil_inv h2; clear h2
  obtain ⟨rfl, h4⟩ := asNil_inv h3; clear h3
  exact ACall.spec2 (fn := Try.f104) (c := codeOf Try.f104) (S := ofL S104) (L := lofL L104) hS104 (by kernel_rfl) (by kernel_rfl) (inlOK _) (all_eq (by kernel_rfl : subsOf (E.info 104).keep (codeOf Try.f104) = []) (all_nil)) (by kernel_rfl) h4.of

abbrev S25 : List (Nat × Pat × Sp) := [(103, none, sp103), (104, none, sp104)]
theorem hS25 : SpecOK E (ofL S25) := specOK_cons h103 (specOK_cons h104 (specOK_nil))
abbrev L25 : List (Nat × List Nat × Pat × LSp) := []
def sp25 : Sp := fun args τ K => asCons args fun a1 r1 => asD opT a1 fun x1 => asNil r1 <| asNil τ <| c25 x1 (fun z1 => K (I z1) [])
theorem h25 : ∀ args τ K, sp25 args τ K → ACall E 25 args τ K := by
  intro args τ K h0
  unfold sp25 at h0
  obtain ⟨a1, r1, rfl, h1⟩ := asCons_inv h0; clear h0
  obtain ⟨x1, rfl, h2⟩ := asD_inv h1; clear h1
  obtain ⟨rfl, h3⟩ := asNil_inv h2; clear h2
  obtain ⟨rfl, h4⟩ := asNil_inv h3; clear h3
  exact ACall.spec2 (fn := Try.f25) (c := codeOf Try.f25) (S := ofL S25) (L := lofL L25) hS25 (by kernel_rfl) (by kernel_rfl) (inlOK _) (all_eq (by kernel_rfl : subsOf (E.info 25).keep (codeOf Try.f25) = []) (all_nil)) (by kernel_rfl) h4.of

abbrev S26 : List (Nat × Pat × Sp) := []
theorem hS26 : SpecOK E (ofL S26) := specOK_nil
abbrev L26 : List (Nat × List Nat × Pat × LSp) := []
def sp26 : Sp := fun args τ K => asCons args fun a1 r1 => asD (.int .i64) a1 fun x1 => asNil r1 <| asNil τ <| c26 x1 (fun z1 => K (B z1) [])
theorem h26 : ∀ args τ K, sp26 args τ K → ACall E 26 args τ K := by
  intro args τ K h0
  unfold sp26 at h0
  obtain ⟨a1, r1, rfl, h1⟩ := asCons_inv h0; clear h0
  obtain ⟨x1, rfl, h2⟩ := asD_inv h1; clear h1
  obtain ⟨rfl, h3⟩ := asNil_inv h2; clear h2
  obtain ⟨rfl, h4⟩ := asNil_inv h3; clear h3
  exact ACall.spec2 (fn := Try.f26) (c := codeOf Try.f26) (S := ofL S26) (L := lofL L26) hS26 (by kernel_rfl) (by kernel_rfl) (inlOK _) (all_eq (by kernel_rfl : subsOf (E.info 26).keep (codeOf Try.f26) = []) (all_nil)) (by kernel_rfl) h4.of

abbrev Sl50r4 : List (Nat × Pat × Sp) := [(25, none, sp25), (26, none, sp26)]
theorem hSl50r4 : SpecOK E (ofL Sl50r4) := specOK_cons h25 (specOK_cons h26 (specOK_nil))
abbrev Ll50r4 : List (Nat × List Nat × Pat × LSp) := []
def lsl50r4 : LSp := fun vs σ K => asCons vs fun a1 r1 => asD (.sl (.pair (.pair (.int .i64) (.pair (.int .i64) (.pair (.int .i64) (.pair (.int .i64) (.pair (.int .i64) .unit))))) (.pair (.int .i64) .unit))) a1 fun s1 => asCons r1 fun a2 r2 => asD (.sl (.pair (.pair (.int .i64) (.pair (.int .i64) (.pair (.int .i64) (.pair (.int .i64) (.pair (.int .i64) .unit))))) (.pair (.int .i64) .unit))) a2 fun s2 => asCons r2 fun a3 r3 => asD (.int .i64) a3 fun s3 => asCons r3 fun a4 r4 => asD (.int .i64) a4 fun s4 => asNil r4 <| asNil σ <| l50r4 (fun z1 => K .ret [(2, I z1)] []) (K (.exit 0) [(2, .undef)] []) s1 s2 s3 s4
theorem l50r4v : LoopV E (inlF (PA (ACall E)) E 8) (E.info 50).keep 0 Try.f50.ntmps 51000004 (body Try.f50 4) ([0, 10, 11, 12], lsl50r4) := by
  intro vs σ K (h0 : lsl50r4 vs σ K)
  unfold lsl50r4 at h0
  obtain ⟨a1, r1, rfl, h1⟩ := asCons_inv h0; clear h0
  obtain ⟨s1, rfl, h2⟩ := asD_inv h1; clear h1
  obtain ⟨a2, r2, rfl, h3⟩ := asCons_inv h2; clear h2
  obtain ⟨s2, rfl, h4⟩ := asD_inv h3; clear h3
  obtain ⟨a3, r3, rfl, h5⟩ := asCons_inv h4; clear h4
  obtain ⟨s3, rfl, h6⟩ := asD_inv h5; clear h5
  obtain ⟨a4, r4, rfl, h7⟩ := asCons_inv h6; clear h6
  obtain ⟨s4, rfl, h8⟩ := asD_inv h7; clear h7
  obtain ⟨rfl, h9⟩ := asNil_inv h8; clear h8
  obtain ⟨rfl, h10⟩ := asNil_inv h9; clear h9
  intro J hJ
  have hp : ∀ c' ∈ subsOf (E.info 50).keep (body Try.f50 4), SubOK E (inlF (PA (ACall E)) E 8) (E.info 50).keep 0 Try.f50.ntmps (lofL Ll50r4) c' := all_eq (by kernel_rfl : subsOf (E.info 50).keep (body Try.f50 4) = []) (all_nil)
  exact h10.of (fun s1 s2 s3 s4 => J [(51000004, .undef), (0, .d (.sl (.pair (.pair (.int .i64) (.pair (.int .i64) (.pair (.int .i64) (.pair (.int .i64) (.pair (.int .i64) .unit))))) (.pair (.int .i64) .unit))) s1), (10, .d (.sl (.pair (.pair (.int .i64) (.pair (.int .i64) (.pair (.int .i64) (.pair (.int .i64) (.pair (.int .i64) .unit))))) (.pair (.int .i64) .unit))) s2), (11, I s3), (12, I s4)] []) (fun s1 s2 s3 s4 hb => loop_round2 (S := ofL Sl50r4) (L := lofL Ll50r4) hSl50r4 (inlOK _) hp hJ (by kernel_rfl) hb)

abbrev S50 : List (Nat × Pat × Sp) := []
theorem hS50 : SpecOK E (ofL S50) := specOK_nil
abbrev L50 : List (Nat × List Nat × Pat × LSp) := [(51000004, [0, 10, 11, 12], none, lsl50r4)]
def sp50 : Sp := fun args τ K => asCons args fun a1 r1 => asD (.sl (.pair (.pair (.int .i64) (.pair (.int .i64) (.pair (.int .i64) (.pair (.int .i64) (.pair (.int .i64) .unit))))) (.pair (.int .i64) .unit))) a1 fun x1 => asNil r1 <| asNil τ <| c50 x1 (fun z1 => K (I z1) [])
theorem h50 : ∀ args τ K, sp50 args τ K → ACall E 50 args τ K := by
  intro args τ K h0
  unfold sp50 at h0
  obtain ⟨a1, r1, rfl, h1⟩ := asCons_inv h0; clear h0
  obtain ⟨x1, rfl, h2⟩ := asD_inv h1; clear h1
  obtain ⟨rfl, h3⟩ := asNil_inv h2; clear h2
  obtain ⟨rfl, h4⟩ := asNil_inv h3; clear h3
  exact ACall.spec2 (fn := Try.f50) (c := codeOf Try.f50) (S := ofL S50) (L := lofL L50) hS50 (by kernel_rfl) (by kernel_rfl) (inlOK _) (all_eq (by kernel_rfl : subsOf (E.info 50).keep (codeOf Try.f50) = [.loop (body Try.f50 4)]) (all_cons (loopOK_of (mk := 51000004) (sl := [0, 10, 11, 12]) (ss := [([0, 10, 11, 12], lsl50r4)]) (by kernel_rfl) (by kernel_rfl) (all_cons l50r4v (all_nil))) (all_nil))) (by kernel_rfl) h4.of

abbrev S28 : List (Nat × Pat × Sp) := [(103, none, sp103)]
theorem hS28 : SpecOK E (ofL S28) := specOK_cons h103 (specOK_nil)
abbrev L28 : List (Nat × List Nat × Pat × LSp) := []
def sp28 : Sp := fun args τ K => asCons args fun a1 r1 => asD opT a1 fun x1 => asNil r1 <| asNil τ <| c28 x1 (fun z1 => K (I z1) [])
theorem h28 : ∀ args τ K, sp28 args τ K → ACall E 28 args τ K := by
  intro args τ K h0
  unfold sp28 at h0
  obtain ⟨a1, r1, rfl, h1⟩ := asCons_inv h0; clear h0
  obtain ⟨x1, rfl, h2⟩ := asD_inv h1; clear h1
  obtain ⟨rfl, h3⟩ := asNil_inv h2; clear h2
  obtain ⟨rfl, h4⟩ := asNil_inv h3; clear h3
  exact ACall.spec2 (fn := Try.f28) (c := codeOf Try.f28) (S := ofL S28) (L := lofL L28) hS28 (by kernel_rfl) (by kernel_rfl) (inlOK _) (all_eq (by kernel_rfl : subsOf (E.info 28).keep (codeOf Try.f28) = []) (all_nil)) (by kernel_rfl) h4.of

abbrev Sl48r6 : List (Nat × Pat × Sp) := [(28, none, sp28)]
theorem hSl48r6 : SpecOK E (ofL Sl48r6) := specOK_cons h28 (specOK_nil)
abbrev Ll48r6 : List (Nat × List Nat × Pat × LSp) := []
def lsl48r6 : LSp := fun vs σ K => asCons vs fun a1 r1 => asD (.sl (.pair (.pair (.int .i64) (.pair (.int .i64) (.pair (.int .i64) (.pair (.int .i64) (.pair (.int .i64) .unit))))) (.pair (.int .i64) .unit))) a1 fun s1 => asCons r1 fun a2 r2 => asP (.vec 0) a2 <| asCons r2 fun a3 r3 => asD (.sl (.pair (.pair (.int .i64) (.pair (.int .i64) (.pair (.int .i64) (.pair (.int .i64) (.pair (.int .i64) .unit))))) (.pair (.int .i64) .unit))) a3 fun s2 => asCons r3 fun a4 r4 => asD (.int .i64) a4 fun s3 => asCons r4 fun a5 r5 => asD (.int .i64) a5 fun s4 => asNil r5 <| asCons σ fun a6 r6 => asRw .bool false a6 fun s5 => asNil r6 <| l48r6 (fun z1 z2 => K (.exit 0) [(0, .d (.sl (.pair (.pair (.int .i64) (.pair (.int .i64) (.pair (.int .i64) (.pair (.int .i64) (.pair (.int .i64) .unit))))) (.pair (.int .i64) .unit))) z1), (5, .vec 0)] [.row .bool z2 false]) s1 s2 s3 s4 s5
theorem l48r6v : LoopV E (inlF (PA (ACall E)) E 8) (E.info 48).keep 0 Try.f48.ntmps 49000006 (body Try.f48 6) ([0, 5, 20, 21, 22], lsl48r6) := by
  intro vs σ K (h0 : lsl48r6 vs σ K)
  unfold lsl48r6 at h0
  obtain ⟨a1, r1, rfl, h1⟩ := asCons_inv h0; clear h0
  obtain ⟨s1, rfl, h2⟩ := asD_inv h1; clear h1
  obtain ⟨a2, r2, rfl, h3⟩ := asCons_inv h2; clear h2
  obtain ⟨rfl, h4⟩ := asP_inv h3; clear h3
  obtain ⟨a3, r3, rfl, h5⟩ := asCons_inv h4; clear h4
  obtain ⟨s2, rfl, h6⟩ := asD_inv h5; clear h5
  obtain ⟨a4, r4, rfl, h7⟩ := asCons_inv h6; clear h6
  obtain ⟨s3, rfl, h8⟩ := asD_inv h7; clear h7
  obtain ⟨a5, r5, rfl, h9⟩ := asCons_inv h8; clear h8
  obtain ⟨s4, rfl, h10⟩ := asD_inv h9; clear h9
  obtain ⟨rfl, h11⟩ := asNil_inv h10; clear h10
  obtain ⟨a6, r6, rfl, h12⟩ := asCons_inv h11; clear h11
  obtain ⟨s5, rfl, h13⟩ := asRw_inv h12; clear h12
  obtain ⟨rfl, h14⟩ := asNil_inv h13; clear h13
  intro J hJ
  have hp : ∀ c' ∈ subsOf (E.info 48).keep (body Try.f48 6), SubOK E (inlF (PA (ACall E)) E 8) (E.info 48).keep 0 Try.f48.ntmps (lofL Ll48r6) c' := all_eq (by kernel_rfl : subsOf (E.info 48).keep (body Try.f48 6) = []) (all_nil)
  exact h14.of (fun s1 s2 s3 s4 s5 => J [(49000006, .undef), (0, .d (.sl (.pair (.pair (.int .i64) (.pair (.int .i64) (.pair (.int .i64) (.pair (.int .i64) (.pair (.int .i64) .unit))))) (.pair (.int .i64) .unit))) s1), (5, .vec 0), (20, .d (.sl (.pair (.pair (.int .i64) (.pair (.int .i64) (.pair (.int .i64) (.pair (.int .i64) (.pair (.int .i64) .unit))))) (.pair (.int .i64) .unit))) s2), (21, I s3), (22, I s4)] [.row .bool s5 false]) (fun s1 s2 s3 s4 s5 hb => loop_round2 (S := ofL Sl48r6) (L := lofL Ll48r6) hSl48r6 (inlOK _) hp hJ (by kernel_rfl) hb)

abbrev Sl116r3 : List (Nat × Pat × Sp) := []
theorem hSl116r3 : SpecOK E (ofL Sl116r3) := specOK_nil
abbrev Ll116r3 : List (Nat × List Nat × Pat × LSp) := []
def lsl116r3 : LSp := fun vs σ K => asCons vs fun a1 r1 => asD (.sl .bool) a1 fun s1 => asCons r1 fun a2 r2 => asP (.vec 0) a2 <| asCons r2 fun a3 r3 => asD (.int .i64) a3 fun s2 => asCons r3 fun a4 r4 => asD (.int .i64) a4 fun s3 => asNil r4 <| asCons σ fun a5 r5 => asRw (.int .i64) false a5 fun s4 => asNil r5 <| l116r3 (fun z1 => K (.exit 0) [(5, .vec 0)] [.row (.int .i64) z1 false]) s1 s2 s3 s4
theorem l116r3v : LoopV E (inlF (PA (ACall E)) E 8) (E.info 116).keep 0 Try.f116.ntmps 117000003 (body Try.f116 3) ([1, 5, 13, 14], lsl116r3) := by
  intro vs σ K (h0 : lsl116r3 vs σ K)
  unfold lsl116r3 at h0
  obtain ⟨a1, r1, rfl, h1⟩ := asCons_inv h0; clear h0
  obtain ⟨s1, rfl, h2⟩ := asD_inv h1; clear h1
  obtain ⟨a2, r2, rfl, h3⟩ := asCons_inv h2; clear h2
  obtain ⟨rfl, h4⟩ := asP_inv h3; clear h3
  obtain ⟨a3, r3, rfl, h5⟩ := asCons_inv h4; clear h4
  obtain ⟨s2, rfl, h6⟩ := asD_inv h5; clear h5
  obtain ⟨a4, r4, rfl, h7⟩ := asCons_inv h6; clear h6
  obtain ⟨s3, rfl, h8⟩ := asD_inv h7; clear h7
  obtain ⟨rfl, h9⟩ := asNil_inv h8; clear h8
  obtain ⟨a5, r5, rfl, h10⟩ := asCons_inv h9; clear h9
  obtain ⟨s4, rfl, h11⟩ := asRw_inv h10; clear h10
  obtain ⟨rfl, h12⟩ := asNil_inv h11; clear h11
  intro J hJ
  have hp : ∀ c' ∈ subsOf (E.info 116).keep (body Try.f116 3), SubOK E (inlF (PA (ACall E)) E 8) (E.info 116).keep 0 Try.f116.ntmps (lofL Ll116r3) c' := all_eq (by kernel_rfl : subsOf (E.info 116).keep (body Try.f116 3) = []) (all_nil)
  exact h12.of (fun s1 s2 s3 s4 => J [(117000003, .undef), (1, .d (.sl .bool) s1), (5, .vec 0), (13, I s2), (14, I s3)] [.row (.int .i64) s4 false]) (fun s1 s2 s3 s4 hb => loop_round2 (S := ofL Sl116r3) (L := lofL Ll116r3) hSl116r3 (inlOK _) hp hJ (by kernel_rfl) hb)

abbrev S116 : List (Nat × Pat × Sp) := []
theorem hS116 : SpecOK E (ofL S116) := specOK_nil
abbrev L116 : List (Nat × List Nat × Pat × LSp) := [(117000003, [1, 5, 13, 14], none, lsl116r3)]
def sp116 : Sp := fun args τ K => asCons args fun a1 r1 => asD (.sl (.pair (.pair (.int .i64) (.pair (.int .i64) (.pair (.int .i64) (.pair (.int .i64) (.pair (.int .i64) .unit))))) (.pair (.int .i64) .unit))) a1 fun x1 => asCons r1 fun a2 r2 => asD (.sl .bool) a2 fun x2 => asNil r2 <| asNil τ <| c116 x1 x2 (fun z1 => K (.vec 0) [.row (.int .i64) z1 false])
theorem h116 : ∀ args τ K, sp116 args τ K → ACall E 116 args τ K := by
  intro args τ K h0
  unfold sp116 at h0
  obtain ⟨a1, r1, rfl, h1⟩ := asCons_inv h0; clear h0
  obtain ⟨x1, rfl, h2⟩ := asD_inv h1; clear h1
  obtain ⟨a2, r2, rfl, h3⟩ := asCons_inv h2; clear h2
  obtain ⟨x2, rfl, h4⟩ := asD_inv h3; clear h3
  obtain ⟨rfl, h5⟩ := asNil_inv h4; clear h4
  obtain ⟨rfl, h6⟩ := asNil_inv h5; clear h5
  exact ACall.spec2 (fn := Try.f116) (c := codeOf Try.f116) (S := ofL S116) (L := lofL L116) hS116 (by kernel_rfl) (by kernel_rfl) (inlOK _) (all_eq (by kernel_rfl : subsOf (E.info 116).keep (codeOf Try.f116) = [.loop (body Try.f116 3)]) (all_cons (loopOK_of (mk := 117000003) (sl := [1, 5, 13, 14]) (ss := [([1, 5, 13, 14], lsl116r3)]) (by kernel_rfl) (by kernel_rfl) (all_cons l116r3v (all_nil))) (all_nil))) (by kernel_rfl) h6.of

abbrev Sl48r15 : List (Nat × Pat × Sp) := [(28, none, sp28)]
theorem hSl48r15 : SpecOK E (ofL Sl48r15) := specOK_cons h28 (specOK_nil)
abbrev Ll48r15 : List (Nat × List Nat × Pat × LSp) := []
def lsl48r15 : LSp := fun vs σ K => asCons vs fun a1 r1 => asD (.sl (.pair (.pair (.int .i64) (.pair (.int .i64) (.pair (.int .i64) (.pair (.int .i64) (.pair (.int .i64) .unit))))) (.pair (.int .i64) .unit))) a1 fun s1 => asCons r1 fun a2 r2 => asP (.vec 0) a2 <| asCons r2 fun a3 r3 => asD .bool a3 fun s2 => asCons r3 fun a4 r4 => asP (.vec 1) a4 <| asCons r4 fun a5 r5 => asD (.sl (.pair (.pair (.int .i64) (.pair (.int .i64) (.pair (.int .i64) (.pair (.int .i64) (.pair (.int .i64) .unit))))) (.pair (.int .i64) .unit))) a5 fun s3 => asCons r5 fun a6 r6 => asD (.int .i64) a6 fun s4 => asCons r6 fun a7 r7 => asD (.int .i64) a7 fun s5 => asNil r7 <| asCons σ fun a8 r8 => asRw .bool false a8 fun s6 => asCons r8 fun a9 r9 => asRw (.int .i64) false a9 fun s7 => asNil r9 <| l48r15 (fun z1 z2 z3 => K (.exit 4) [(0, .d (.sl (.pair (.pair (.int .i64) (.pair (.int .i64) (.pair (.int .i64) (.pair (.int .i64) (.pair (.int .i64) .unit))))) (.pair (.int .i64) .unit))) z1), (5, .vec 0), (8, B z2)] [.row .bool z3 false]) s1 s2 s3 s4 s5 s6 s7
theorem l48r15v : LoopV E (inlF (PA (ACall E)) E 8) (E.info 48).keep 0 Try.f48.ntmps 49000015 (body Try.f48 15) ([0, 5, 8, 9, 44, 45, 46], lsl48r15) := by
  intro vs σ K (h0 : lsl48r15 vs σ K)
  unfold lsl48r15 at h0
  obtain ⟨a1, r1, rfl, h1⟩ := asCons_inv h0; clear h0
  obtain ⟨s1, rfl, h2⟩ := asD_inv h1; clear h1
  obtain ⟨a2, r2, rfl, h3⟩ := asCons_inv h2; clear h2
  obtain ⟨rfl, h4⟩ := asP_inv h3; clear h3
  obtain ⟨a3, r3, rfl, h5⟩ := asCons_inv h4; clear h4
  obtain ⟨s2, rfl, h6⟩ := asD_inv h5; clear h5
  obtain ⟨a4, r4, rfl, h7⟩ := asCons_inv h6; clear h6
  obtain ⟨rfl, h8⟩ := asP_inv h7; clear h7
  obtain ⟨a5, r5, rfl, h9⟩ := asCons_inv h8; clear h8
  obtain ⟨s3, rfl, h10⟩ := asD_inv h9; clear h9
  obtain ⟨a6, r6, rfl, h11⟩ := asCons_inv h10; clear h10
  obtain ⟨s4, rfl, h12⟩ := asD_inv h11; clear h11
  obtain ⟨a7, r7, rfl, h13⟩ := asCons_inv h12; clear h12
  obtain ⟨s5, rfl, h14⟩ := asD_inv h13; clear h13
  obtain ⟨rfl, h15⟩ := asNil_inv h14; clear h14
  obtain ⟨a8, r8, rfl, h16⟩ := asCons_inv h15; clear h15
  obtain ⟨s6, rfl, h17⟩ := asRw_inv h16; clear h16
  obtain ⟨a9, r9, rfl, h18⟩ := asCons_inv h17; clear h17
  obtain ⟨s7, rfl, h19⟩ := asRw_inv h18; clear h18
  obtain ⟨rfl, h20⟩ := asNil_inv h19; clear h19
  intro J hJ
  have hp : ∀ c' ∈ subsOf (E.info 48).keep (body Try.f48 15), SubOK E (inlF (PA (ACall E)) E 8) (E.info 48).keep 0 Try.f48.ntmps (lofL Ll48r15) c' := all_eq (by kernel_rfl : subsOf (E.info 48).keep (body Try.f48 15) = []) (all_nil)
  exact h20.of (fun s1 s2 s3 s4 s5 s6 s7 => J [(49000015, .undef), (0, .d (.sl (.pair (.pair (.int .i64) (.pair (.int .i64) (.pair (.int .i64) (.pair (.int .i64) (.pair (.int .i64) .unit))))) (.pair (.int .i64) .unit))) s1), (5, .vec 0), (8, B s2), (9, .vec 1), (44, .d (.sl (.pair (.pair (.int .i64) (.pair (.int .i64) (.pair (.int .i64) (.pair (.int .i64) (.pair (.int .i64) .unit))))) (.pair (.int .i64) .unit))) s3), (45, I s4), (46, I s5)] [.row .bool s6 false, .row (.int .i64) s7 false]) (fun s1 s2 s3 s4 s5 s6 s7 hb => loop_round2 (S := ofL Sl48r15) (L := lofL Ll48r15) hSl48r15 (inlOK _) hp hJ (by kernel_rfl) hb)

abbrev Sl48r11 : List (Nat × Pat × Sp) := [(116, none, sp116)]
theorem hSl48r11 : SpecOK E (ofL Sl48r11) := specOK_cons h116 (specOK_nil)
abbrev Ll48r11 : List (Nat × List Nat × Pat × LSp) := [(49000015, [0, 5, 8, 9, 44, 45, 46], none, lsl48r15)]
def lsl48r11 : LSp := fun vs σ K => asCons vs fun a1 r1 => asD (.sl (.pair (.pair (.int .i64) (.pair (.int .i64) (.pair (.int .i64) (.pair (.int .i64) (.pair (.int .i64) .unit))))) (.pair (.int .i64) .unit))) a1 fun s1 => asCons r1 fun a2 r2 => asP (.vec 0) a2 <| asCons r2 fun a3 r3 => asD .bool a3 fun s2 => asNil r3 <| asCons σ fun a4 r4 => asRw .bool false a4 fun s3 => asNil r4 <| l48r11 (fun z1 => K (.exit 2) [(5, .vec 0)] [.row .bool z1 false]) s1 s2 s3
theorem l48r11v : LoopV E (inlF (PA (ACall E)) E 8) (E.info 48).keep 0 Try.f48.ntmps 49000011 (body Try.f48 11) ([0, 5, 8], lsl48r11) := by
  intro vs σ K (h0 : lsl48r11 vs σ K)
  unfold lsl48r11 at h0
  obtain ⟨a1, r1, rfl, h1⟩ := asCons_inv h0; clear h0
  obtain ⟨s1, rfl, h2⟩ := asD_inv h1; clear h1
  obtain ⟨a2, r2, rfl, h3⟩ := asCons_inv h2; clear h2
  obtain ⟨rfl, h4⟩ := asP_inv h3; clear h3
  obtain ⟨a3, r3, rfl, h5⟩ := asCons_inv h4; clear h4
  obtain ⟨s2, rfl, h6⟩ := asD_inv h5; clear h5
  obtain ⟨rfl, h7⟩ := asNil_inv h6; clear h6
  obtain ⟨a4, r4, rfl, h8⟩ := asCons_inv h7; clear h7
  obtain ⟨s3, rfl, h9⟩ := asRw_inv h8; clear h8
  obtain ⟨rfl, h10⟩ := asNil_inv h9; clear h9
  intro J hJ
  have hp : ∀ c' ∈ subsOf (E.info 48).keep (body Try.f48 11), SubOK E (inlF (PA (ACall E)) E 8) (E.info 48).keep 0 Try.f48.ntmps (lofL Ll48r11) c' := all_eq (by kernel_rfl : subsOf (E.info 48).keep (body Try.f48 11) = [.loop (body Try.f48 15)]) (all_cons (loopOK_of (mk := 49000015) (sl := [0, 5, 8, 9, 44, 45, 46]) (ss := [([0, 5, 8, 9, 44, 45, 46], lsl48r15)]) (by kernel_rfl) (by kernel_rfl) (all_cons l48r15v (all_nil))) (all_nil))
  exact h10.of (fun s1 s2 s3 => J [(49000011, .undef), (0, .d (.sl (.pair (.pair (.int .i64) (.pair (.int .i64) (.pair (.int .i64) (.pair (.int .i64) (.pair (.int .i64) .unit))))) (.pair (.int .i64) .unit))) s1), (5, .vec 0), (8, B s2)] [.row .bool s3 false]) (fun s1 s2 s3 hb => loop_round2 (S := ofL Sl48r11) (L := lofL Ll48r11) hSl48r11 (inlOK _) hp hJ (by kernel_rfl) hb)

abbrev S48 : List (Nat × Pat × Sp) := [(50, none, sp50)]
theorem hS48 : SpecOK E (ofL S48) := specOK_cons h50 (specOK_nil)
abbrev L48 : List (Nat × List Nat × Pat × LSp) := [(49000006, [0, 5, 20, 21, 22], none, lsl48r6), (49000011, [0, 5, 8], none, lsl48r11)]
def sp48 : Sp := fun args τ K => asCons args fun a1 r1 => asD (.sl (.pair (.pair (.int .i64) (.pair (.int .i64) (.pair (.int .i64) (.pair (.int .i64) (.pair (.int .i64) .unit))))) (.pair (.int .i64) .unit))) a1 fun x1 => asNil r1 <| asNil τ <| c48 x1 (fun z1 z2 => K (.tup [.vec 0, I z1]) [.row .bool z2 false])
theorem h48 : ∀ args τ K, sp48 args τ K → ACall E 48 args τ K := by
  intro args τ K h0
  unfold sp48 at h0
  obtain ⟨a1, r1, rfl, h1⟩ := asCons_inv h0; clear h0
  obtain ⟨x1, rfl, h2⟩ := asD_inv h1; clear h1
  obtain ⟨rfl, h3⟩ := asNil_inv h2; clear h2
  obtain ⟨rfl, h4⟩ := asNil_inv h3; clear h3
  exact ACall.spec2 (fn := Try.f48) (c := codeOf Try.f48) (S := ofL S48) (L := lofL L48) hS48 (by kernel_rfl) (by kernel_rfl) (inlOK _) (all_eq (by kernel_rfl : subsOf (E.info 48).keep (codeOf Try.f48) = [.loop (body Try.f48 6), .loop (body Try.f48 11)]) (all_cons (loopOK_of (mk := 49000006) (sl := [0, 5, 20, 21, 22]) (ss := [([0, 5, 20, 21, 22], lsl48r6)]) (by kernel_rfl) (by kernel_rfl) (all_cons l48r6v (all_nil))) (all_cons (loopOK_of (mk := 49000011) (sl := [0, 5, 8]) (ss := [([0, 5, 8], lsl48r11)]) (by kernel_rfl) (by kernel_rfl) (all_cons l48r11v (all_nil))) (all_nil)))) (by kernel_rfl) h4.of

abbrev Sl49r5 : List (Nat × Pat × Sp) := []
theorem hSl49r5 : SpecOK E (ofL Sl49r5) := specOK_nil
abbrev Ll49r5 : List (Nat × List Nat × Pat × LSp) := []
def lsl49r5 : LSp := fun vs σ K => asCons vs fun a1 r1 => asD (.sl (.pair (.pair (.int .i64) (.pair (.int .i64) (.pair (.int .i64) (.pair (.int .i64) (.pair (.int .i64) .unit))))) (.pair (.int .i64) .unit))) a1 fun s1 => asCons r1 fun a2 r2 => asD .bool a2 fun s2 => asCons r2 fun a3 r3 => asP (.vec 0) a3 <| asCons r3 fun a4 r4 => asD (.sl (.pair (.pair (.int .i64) (.pair (.int .i64) (.pair (.int .i64) (.pair (.int .i64) (.pair (.int .i64) .unit))))) (.pair (.int .i64) .unit))) a4 fun s3 => asCons r4 fun a5 r5 => asD (.int .i64) a5 fun s4 => asCons r5 fun a6 r6 => asD (.int .i64) a6 fun s5 => asNil r6 <| asCons σ fun a7 r7 => asRw .bool false a7 fun s6 => asNil r7 <| l49r5 (fun z1 z2 => K (.exit 0) [(0, .d (.sl (.pair (.pair (.int .i64) (.pair (.int .i64) (.pair (.int .i64) (.pair (.int .i64) (.pair (.int .i64) .unit))))) (.pair (.int .i64) .unit))) z1), (7, .vec 0)] [.row .bool z2 false]) s1 s2 s3 s4 s5 s6
theorem l49r5v : LoopV E (inlF (PA (ACall E)) E 8) (E.info 49).keep 0 Try.f49.ntmps 50000005 (body Try.f49 5) ([0, 1, 7, 27, 28, 29], lsl49r5) := by
  intro vs σ K (h0 : lsl49r5 vs σ K)
  unfold lsl49r5 at h0
  obtain ⟨a1, r1, rfl, h1⟩ := asCons_inv h0; clear h0
  obtain ⟨s1, rfl, h2⟩ := asD_inv h1; clear h1
  obtain ⟨a2, r2, rfl, h3⟩ := asCons_inv h2; clear h2
  obtain ⟨s2, rfl, h4⟩ := asD_inv h3; clear h3
  obtain ⟨a3, r3, rfl, h5⟩ := asCons_inv h4; clear h4
  obtain ⟨rfl, h6⟩ := asP_inv h5; clear h5
  obtain ⟨a4, r4, rfl, h7⟩ := asCons_inv h6; clear h6
  obtain ⟨s3, rfl, h8⟩ := asD_inv h7; clear h7
  obtain ⟨a5, r5, rfl, h9⟩ := asCons_inv h8; clear h8
  obtain ⟨s4, rfl, h10⟩ := asD_inv h9; clear h9
  obtain ⟨a6, r6, rfl, h11⟩ := asCons_inv h10; clear h10
  obtain ⟨s5, rfl, h12⟩ := asD_inv h11; clear h11
  obtain ⟨rfl, h13⟩ := asNil_inv h12; clear h12
  obtain ⟨a7, r7, rfl, h14⟩ := asCons_inv h13; clear h13
  obtain ⟨s6, rfl, h15⟩ := asRw_inv h14; clear h14
  obtain ⟨rfl, h16⟩ := asNil_inv h15; clear h15
  intro J hJ
  have hp : ∀ c' ∈ subsOf (E.info 49).keep (body Try.f49 5), SubOK E (inlF (PA (ACall E)) E 8) (E.info 49).keep 0 Try.f49.ntmps (lofL Ll49r5) c' := all_eq (by kernel_rfl : subsOf (E.info 49).keep (body Try.f49 5) = []) (all_nil)
  exact h16.of (fun s1 s2 s3 s4 s5 s6 => J [(50000005, .undef), (0, .d (.sl (.pair (.pair (.int .i64) (.pair (.int .i64) (.pair (.int .i64) (.pair (.int .i64) (.pair (.int .i64) .unit))))) (.pair (.int .i64) .unit))) s1), (1, B s2), (7, .vec 0), (27, .d (.sl (.pair (.pair (.int .i64) (.pair (.int .i64) (.pair (.int .i64) (.pair (.int .i64) (.pair (.int .i64) .unit))))) (.pair (.int .i64) .unit))) s3), (28, I s4), (29, I s5)] [.row .bool s6 false]) (fun s1 s2 s3 s4 s5 s6 hb => loop_round2 (S := ofL Sl49r5) (L := lofL Ll49r5) hSl49r5 (inlOK _) hp hJ (by kernel_rfl) hb)

abbrev S105 : List (Nat × Pat × Sp) := []
theorem hS105 : SpecOK E (ofL S105) := specOK_nil
abbrev L105 : List (Nat × List Nat × Pat × LSp) := []
def sp105 : Sp := fun args τ K => asCons args fun a1 r1 => asD opT a1 fun x1 => asNil r1 <| asNil τ <| c105 x1 (fun z1 => K (I z1) [])
theorem h105 : ∀ args τ K, sp105 args τ K → ACall E 105 args τ K := by
  intro args τ K h0
  unfold sp105 at h0
  obtain ⟨a1, r1, rfl, h1⟩ := asCons_inv h0; clear h0
  obtain ⟨x1, rfl, h2⟩ := asD_inv h1; clear h1
  obtain ⟨rfl, h3⟩ := asNil_inv h2; clear h2
  obtain ⟨rfl, h4⟩ := asNil_inv h3; clear h3
  exact ACall.spec2 (fn := Try.f105) (c := codeOf Try.f105) (S := ofL S105) (L := lofL L105) hS105 (by kernel_rfl) (by kernel_rfl) (inlOK _) (all_eq (by kernel_rfl : subsOf (E.info 105).keep (codeOf Try.f105) = []) (all_nil)) (by kernel_rfl) h4.of

abbrev S31 : List (Nat × Pat × Sp) := [(25, none, sp25), (105, none, sp105)]
theorem hS31 : SpecOK E (ofL S31) := specOK_cons h25 (specOK_cons h105 (specOK_nil))
abbrev L31 : List (Nat × List Nat × Pat × LSp) := []
def sp31 : Sp := fun args τ K => asCons args fun a1 r1 => asD opT a1 fun x1 => asNil r1 <| asNil τ <| c31 x1 (fun z1 z2 => K (.tup [.vec 0, I z1]) [.row (.int .i64) z2 false])
theorem h31 : ∀ args τ K, sp31 args τ K → ACall E 31 args τ K := by
  intro args τ K h0
  unfold sp31 at h0
  obtain ⟨a1, r1, rfl, h1⟩ := asCons_inv h0; clear h0
  obtain ⟨x1, rfl, h2⟩ := asD_inv h1; clear h1
  obtain ⟨rfl, h3⟩ := asNil_inv h2; clear h2
  obtain ⟨rfl, h4⟩ := asNil_inv h3; clear h3
  exact ACall.spec2 (fn := Try.f31) (c := codeOf Try.f31) (S := ofL S31) (L := lofL L31) hS31 (by kernel_rfl) (by kernel_rfl) (inlOK _) (all_eq (by kernel_rfl : subsOf (E.info 31).keep (codeOf Try.f31) = []) (all_nil)) (by kernel_rfl) h4.of

abbrev S30 : List (Nat × Pat × Sp) := [(25, none, sp25), (28, none, sp28), (31, none, sp31), (105, none, sp105)]
theorem hS30 : SpecOK E (ofL S30) := specOK_cons h25 (specOK_cons h28 (specOK_cons h31 (specOK_cons h105 (specOK_nil))))
abbrev L30 : List (Nat × List Nat × Pat × LSp) := []
def sp30 : Sp := fun args τ K => asCons args fun a1 r1 => asD opT a1 fun x1 => asNil r1 <| asNil τ <| c30 x1 (fun z1 z2 => K (.tup [.vec 0, I z1]) [.row (.int .i64) z2 false])
theorem h30 : ∀ args τ K, sp30 args τ K → ACall E 30 args τ K := by
  intro args τ K h0
  unfold sp30 at h0
  obtain ⟨a1, r1, rfl, h1⟩ := asCons_inv h0; clear h0
  obtain ⟨x1, rfl, h2⟩ := asD_inv h1; clear h1
  obtain ⟨rfl, h3⟩ := asNil_inv h2; clear h2
  obtain ⟨rfl, h4⟩ := asNil_inv h3; clear h3
  exact ACall.spec2 (fn := Try.f30) (c := codeOf Try.f30) (S := ofL S30) (L := lofL L30) hS30 (by kernel_rfl) (by kernel_rfl) (inlOK _) (all_eq (by kernel_rfl : subsOf (E.info 30).keep (codeOf Try.f30) = []) (all_nil)) (by kernel_rfl) h4.of

abbrev Sl49r14 : List (Nat × Pat × Sp) := [(31, none, sp31), (30, none, sp30)]
theorem hSl49r14 : SpecOK E (ofL Sl49r14) := specOK_cons h31 (specOK_cons h30 (specOK_nil))
abbrev Ll49r14 : List (Nat × List Nat × Pat × LSp) := []
def lsl49r14 : LSp := fun vs σ K => asCons vs fun a1 r1 => asD (.sl (.pair (.pair (.int .i64) (.pair (.int .i64) (.pair (.int .i64) (.pair (.int .i64) (.pair (.int .i64) .unit))))) (.pair (.int .i64) .unit))) a1 fun s1 => asCons r1 fun a2 r2 => asP (.vec 0) a2 <| asCons r2 fun a3 r3 => asP (.vec 1) a3 <| asCons r3 fun a4 r4 => asP (.vec 2) a4 <| asCons r4 fun a5 r5 => asD (.sl (.pair (.pair (.int .i64) (.pair (.int .i64) (.pair (.int .i64) (.pair (.int .i64) (.pair (.int .i64) .unit))))) (.pair (.int .i64) .unit))) a5 fun s2 => asCons r5 fun a6 r6 => asD (.int .i64) a6 fun s3 => asCons r6 fun a7 r7 => asD (.int .i64) a7 fun s4 => asNil r7 <| asCons σ fun a8 r8 => asRw .bool false a8 fun s5 => asCons r8 fun a9 r9 => asRw (.int .i64) false a9 fun s6 => asCons r9 fun a10 r10 => asRw (.int .i64) false a10 fun s7 => asNil r10 <| l49r14 (fun z1 z2 z3 => K .ret [(0, .undef), (4, .vec 0), (5, .vec 1), (6, I z1), (11, .undef), (12, .undef)] [.row (.int .i64) z2 false, .row (.int .i64) z3 false]) (fun z1 z2 z3 => K (.exit 2) [(0, .d (.sl (.pair (.pair (.int .i64) (.pair (.int .i64) (.pair (.int .i64) (.pair (.int .i64) (.pair (.int .i64) .unit))))) (.pair (.int .i64) .unit))) z1), (4, .undef), (5, .undef), (6, .undef), (11, .vec 0), (12, .vec 1)] [.row (.int .i64) z2 false, .row (.int .i64) z3 false]) s1 s2 s3 s4 s5 s6 s7
theorem l49r14v : LoopV E (inlF (PA (ACall E)) E 8) (E.info 49).keep 0 Try.f49.ntmps 50000014 (body Try.f49 14) ([0, 7, 11, 12, 59, 60, 61], lsl49r14) := by
  intro vs σ K (h0 : lsl49r14 vs σ K)
  unfold lsl49r14 at h0
  obtain ⟨a1, r1, rfl, h1⟩ := asCons_inv h0; clear h0
  obtain ⟨s1, rfl, h2⟩ := asD_inv h1; clear h1
  obtain ⟨a2, r2, rfl, h3⟩ := asCons_inv h2; clear h2
  obtain ⟨rfl, h4⟩ := asP_inv h3; clear h3
  obtain ⟨a3, r3, rfl, h5⟩ := asCons_inv h4; clear h4
  obtain ⟨rfl, h6⟩ := asP_inv h5; clear h5
  obtain ⟨a4, r4, rfl, h7⟩ := asCons_inv h6; clear h6
  obtain ⟨rfl, h8⟩ := asP_inv h7; clear h7
  obtain ⟨a5, r5, rfl, h9⟩ := asCons_inv h8; clear h8
  obtain ⟨s2, rfl, h10⟩ := asD_inv h9; clear h9
  obtain ⟨a6, r6, rfl, h11⟩ := asCons_inv h10; clear h10
  obtain ⟨s3, rfl, h12⟩ := asD_inv h11; clear h11
  obtain ⟨a7, r7, rfl, h13⟩ := asCons_inv h12; clear h12
  obtain ⟨s4, rfl, h14⟩ := asD_inv h13; clear h13
  obtain ⟨rfl, h15⟩ := asNil_inv h14; clear h14
  obtain ⟨a8, r8, rfl, h16⟩ := asCons_inv h15; clear h15
  obtain ⟨s5, rfl, h17⟩ := asRw_inv h16; clear h16
  obtain ⟨a9, r9, rfl, h18⟩ := asCons_inv h17; clear h17
  obtain ⟨s6, rfl, h19⟩ := asRw_inv h18; clear h18
  obtain ⟨a10, r10, rfl, h20⟩ := asCons_inv h19; clear h19
  obtain ⟨s7, rfl, h21⟩ := asRw_inv h20; clear h20
  obtain ⟨rfl, h22⟩ := asNil_inv h21; clear h21
  intro J hJ
  have hp : ∀ c' ∈ subsOf (E.info 49).keep (body Try.f49 14), SubOK E (inlF (PA (ACall E)) E 8) (E.info 49).keep 0 Try.f49.ntmps (lofL Ll49r14) c' := all_eq (by kernel_rfl : subsOf (E.info 49).keep (body Try.f49 14) = []) (all_nil)
  exact h22.of (fun s1 s2 s3 s4 s5 s6 s7 => J [(50000014, .undef), (0, .d (.sl (.pair (.pair (.int .i64) (.pair (.int .i64) (.pair (.int .i64) (.pair (.int .i64) (.pair (.int .i64) .unit))))) (.pair (.int .i64) .unit))) s1), (7, .vec 0), (11, .vec 1), (12, .vec 2), (59, .d (.sl (.pair (.pair (.int .i64) (.pair (.int .i64) (.pair (.int .i64) (.pair (.int .i64) (.pair (.int .i64) .unit))))) (.pair (.int .i64) .unit))) s2), (60, I s3), (61, I s4)] [.row .bool s5 false, .row (.int .i64) s6 false, .row (.int .i64) s7 false]) (fun s1 s2 s3 s4 s5 s6 s7 hb => loop_round2 (S := ofL Sl49r14) (L := lofL Ll49r14) hSl49r14 (inlOK _) hp hJ (by kernel_rfl) hb)

abbrev S49 : List (Nat × Pat × Sp) := [(48, none, sp48), (116, none, sp116)]
theorem hS49 : SpecOK E (ofL S49) := specOK_cons h48 (specOK_cons h116 (specOK_nil))
abbrev L49 : List (Nat × List Nat × Pat × LSp) := [(50000005, [0, 1, 7, 27, 28, 29], none, lsl49r5), (50000014, [0, 7, 11, 12, 59, 60, 61], none, lsl49r14)]
def sp49 : Sp := fun args τ K => asCons args fun a1 r1 => asD (.sl (.pair (.pair (.int .i64) (.pair (.int .i64) (.pair (.int .i64) (.pair (.int .i64) (.pair (.int .i64) .unit))))) (.pair (.int .i64) .unit))) a1 fun x1 => asCons r1 fun a2 r2 => asD .bool a2 fun x2 => asNil r2 <| asNil τ <| c49 x1 x2 (fun z1 z2 z3 => K (.tup [.vec 0, .vec 1, I z1]) [.row (.int .i64) z2 false, .row (.int .i64) z3 false]) (fun z1 z2 z3 z4 z5 z6 => K (.tup [.vec 0, .sl 1 z1 z2 z3 false, I z4]) [.row (.int .i64) z5 false, .row (.int .i64) z6 false])
theorem h49 : ∀ args τ K, sp49 args τ K → ACall E 49 args τ K := by
  intro args τ K h0
  unfold sp49 at h0
  obtain ⟨a1, r1, rfl, h1⟩ := asCons_inv h0; clear h0
  obtain ⟨x1, rfl, h2⟩ := asD_inv h1; clear h1
  obtain ⟨a2, r2, rfl, h3⟩ := asCons_inv h2; clear h2
  obtain ⟨x2, rfl, h4⟩ := asD_inv h3; clear h3
  obtain ⟨rfl, h5⟩ := asNil_inv h4; clear h4
  obtain ⟨rfl, h6⟩ := asNil_inv h5; clear h5
  exact ACall.spec2 (fn := Try.f49) (c := codeOf Try.f49) (S := ofL S49) (L := lofL L49) hS49 (by kernel_rfl) (by kernel_rfl) (inlOK _) (all_eq (by kernel_rfl : subsOf (E.info 49).keep (codeOf Try.f49) = [.loop (body Try.f49 5), .loop (body Try.f49 14)]) (all_cons (loopOK_of (mk := 50000005) (sl := [0, 1, 7, 27, 28, 29]) (ss := [([0, 1, 7, 27, 28, 29], lsl49r5)]) (by kernel_rfl) (by kernel_rfl) (all_cons l49r5v (all_nil))) (all_cons (loopOK_of (mk := 50000014) (sl := [0, 7, 11, 12, 59, 60, 61]) (ss := [([0, 7, 11, 12, 59, 60, 61], lsl49r14)]) (by kernel_rfl) (by kernel_rfl) (all_cons l49r14v (all_nil))) (all_nil)))) (by kernel_rfl) h6.of

abbrev S46 : List (Nat × Pat × Sp) := [(49, none, sp49)]
theorem hS46 : SpecOK E (ofL S46) := specOK_cons h49 (specOK_nil)
abbrev L46 : List (Nat × List Nat × Pat × LSp) := []
def sp46 : Sp := fun args τ K => asNil args <| asNil τ <| c46  (fun z1 => K (B z1) [])
theorem h46 : ∀ args τ K, sp46 args τ K → ACall E 46 args τ K := by
  intro args τ K h0
  unfold sp46 at h0
  obtain ⟨rfl, h1⟩ := asNil_inv h0; clear h0
  obtain ⟨rfl, h2⟩ := asNil_inv h1; clear h1
  exact ACall.spec2 (fn := Try.f46) (c := codeOf Try.f46) (S := ofL S46) (L := lofL L46) hS46 (by kernel_rfl) (by kernel_rfl) (inlOK _) (all_eq (by kernel_rfl : subsOf (E.info 46).keep (codeOf Try.f46) = []) (all_nil)) (by kernel_rfl) h2.of

abbrev Sl24r4 : List (Nat × Pat × Sp) := []
theorem hSl24r4 : SpecOK E (ofL Sl24r4) := specOK_nil
abbrev Ll24r4 : List (Nat × List Nat × Pat × LSp) := []
def lsl24r4 : LSp := fun vs σ K => asCons vs fun a1 r1 => asP (.ptr 0 0 []) a1 <| asCons r1 fun a2 r2 => asP (.vec 1) a2 <| asCons r2 fun a3 r3 => asD (.int .i64) a3 fun s1 => asCons r3 fun a4 r4 => asD (.int .i64) a4 fun s2 => asNil r4 <| asCons σ fun a5 r5 => asOne opT a5 fun a6 => asD opT a6 fun s3 => asCons r5 fun a7 r7 => asRw (.int .i64) false a7 fun s4 => asNil r7 <| l24r4 (fun z1 => K .ret [(1, .undef), (2, I z1)] []) (fun z1 => K (.exit 0) [(1, .ptr 0 0 []), (2, .undef)] [.one opT (.d opT z1)]) s1 s2 s3 s4
theorem l24r4v : LoopV E (inlF (PA (ACall E)) E 8) (E.info 24).keep 0 Try.f24.ntmps 25000004 (body Try.f24 4) ([1, 24, 25, 26], lsl24r4) := by
  intro vs σ K (h0 : lsl24r4 vs σ K)
  unfold lsl24r4 at h0
  obtain ⟨a1, r1, rfl, h1⟩ := asCons_inv h0; clear h0
  obtain ⟨rfl, h2⟩ := asP_inv h1; clear h1
  obtain ⟨a2, r2, rfl, h3⟩ := asCons_inv h2; clear h2
  obtain ⟨rfl, h4⟩ := asP_inv h3; clear h3
  obtain ⟨a3, r3, rfl, h5⟩ := asCons_inv h4; clear h4
  obtain ⟨s1, rfl, h6⟩ := asD_inv h5; clear h5
  obtain ⟨a4, r4, rfl, h7⟩ := asCons_inv h6; clear h6
  obtain ⟨s2, rfl, h8⟩ := asD_inv h7; clear h7
  obtain ⟨rfl, h9⟩ := asNil_inv h8; clear h8
  obtain ⟨a5, r5, rfl, h10⟩ := asCons_inv h9; clear h9
  obtain ⟨a6, rfl, h11⟩ := asOne_inv h10; clear h10
  obtain ⟨s3, rfl, h12⟩ := asD_inv h11; clear h11
  obtain ⟨a7, r7, rfl, h13⟩ := asCons_inv h12; clear h12
  obtain ⟨s4, rfl, h14⟩ := asRw_inv h13; clear h13
  obtain ⟨rfl, h15⟩ := asNil_inv h14; clear h14
  intro J hJ
  have hp : ∀ c' ∈ subsOf (E.info 24).keep (body Try.f24 4), SubOK E (inlF (PA (ACall E)) E 8) (E.info 24).keep 0 Try.f24.ntmps (lofL Ll24r4) c' := all_eq (by kernel_rfl : subsOf (E.info 24).keep (body Try.f24 4) = []) (all_nil)
  exact h15.of (fun s1 s2 s3 s4 => J [(25000004, .undef), (1, .ptr 0 0 []), (24, .vec 1), (25, I s1), (26, I s2)] [.one opT (.d opT s3), .row (.int .i64) s4 false]) (fun s1 s2 s3 s4 hb => loop_round2 (S := ofL Sl24r4) (L := lofL Ll24r4) hSl24r4 (inlOK _) hp hJ (by kernel_rfl) hb)

abbrev S101 : List (Nat × Pat × Sp) := []
theorem hS101 : SpecOK E (ofL S101) := specOK_nil
abbrev L101 : List (Nat × List Nat × Pat × LSp) := []
def sp101 : Sp := fun args τ K => asNil args <| asNil τ <| c101  (fun z1 => K (.vec 0) [.row .str z1 false])
theorem h101 : ∀ args τ K, sp101 args τ K → ACall E 101 args τ K := by
  intro args τ K h0
  unfold sp101 at h0
  obtain ⟨rfl, h1⟩ := asNil_inv h0; clear h0
  obtain ⟨rfl, h2⟩ := asNil_inv h1; clear h1
  exact ACall.spec2 (fn := Try.f101) (c := codeOf Try.f101) (S := ofL S101) (L := lofL L101) hS101 (by kernel_rfl) (by kernel_rfl) (inlOK _) (all_eq (by kernel_rfl : subsOf (E.info 101).keep (codeOf Try.f101) = []) (all_nil)) (by kernel_rfl) h2.of

abbrev Sl102r2 : List (Nat × Pat × Sp) := []
theorem hSl102r2 : SpecOK E (ofL Sl102r2) := specOK_nil
abbrev Ll102r2 : List (Nat × List Nat × Pat × LSp) := []
def lsl102r2 : LSp := fun vs σ K => asCons vs fun a1 r1 => asD .str a1 fun s1 => asCons r1 fun a2 r2 => asD (.int .u8) a2 fun s2 => asCons r2 fun a3 r3 => asD (.int .i64) a3 fun s3 => asCons r3 fun a4 r4 => asD (.int .i64) a4 fun s4 => asNil r4 <| asNil σ <| l102r2 (fun z1 => K .ret [(4, B z1)] []) (K (.exit 0) [(4, .undef)] []) s1 s2 s3 s4
theorem l102r2v : LoopV E (inlF (PA (ACall E)) E 8) (E.info 102).keep 0 Try.f102.ntmps 103000002 (body Try.f102 2) ([0, 1, 7, 8], lsl102r2) := by
  intro vs σ K (h0 : lsl102r2 vs σ K)
  unfold lsl102r2 at h0
  obtain ⟨a1, r1, rfl, h1⟩ := asCons_inv h0; clear h0
  obtain ⟨s1, rfl, h2⟩ := asD_inv h1; clear h1
  obtain ⟨a2, r2, rfl, h3⟩ := asCons_inv h2; clear h2
  obtain ⟨s2, rfl, h4⟩ := asD_inv h3; clear h3
  obtain ⟨a3, r3, rfl, h5⟩ := asCons_inv h4; clear h4
  obtain ⟨s3, rfl, h6⟩ := asD_inv h5; clear h5
  obtain ⟨a4, r4, rfl, h7⟩ := asCons_inv h6; clear h6
  obtain ⟨s4, rfl, h8⟩ := asD_inv h7; clear h7
  obtain ⟨rfl, h9⟩ := asNil_inv h8; clear h8
  obtain ⟨rfl, h10⟩ := asNil_inv h9; clear h9
  intro J hJ
  have hp : ∀ c' ∈ subsOf (E.info 102).keep (body Try.f102 2), SubOK E (inlF (PA (ACall E)) E 8) (E.info 102).keep 0 Try.f102.ntmps (lofL Ll102r2) c' := all_eq (by kernel_rfl : subsOf (E.info 102).keep (body Try.f102 2) = []) (all_nil)
  exact h10.of (fun s1 s2 s3 s4 => J [(103000002, .undef), (0, .d .str s1), (1, .d (.int .u8) s2), (7, I s3), (8, I s4)] []) (fun s1 s2 s3 s4 hb => loop_round2 (S := ofL Sl102r2) (L := lofL Ll102r2) hSl102r2 (inlOK _) hp hJ (by kernel_rfl) hb)

abbrev S102 : List (Nat × Pat × Sp) := []
theorem hS102 : SpecOK E (ofL S102) := specOK_nil
abbrev L102 : List (Nat × List Nat × Pat × LSp) := [(103000002, [0, 1, 7, 8], none, lsl102r2)]
def sp102 : Sp := fun args τ K => asCons args fun a1 r1 => asD .str a1 fun x1 => asCons r1 fun a2 r2 => asD (.int .u8) a2 fun x2 => asNil r2 <| asNil τ <| c102 x1 x2 (fun z1 => K (B z1) [])
theorem h102 : ∀ args τ K, sp102 args τ K → ACall E 102 args τ K := by
  intro args τ K h0
  unfold sp102 at h0
  obtain ⟨a1, r1, rfl, h1⟩ := asCons_inv h0; clear h0
  obtain ⟨x1, rfl, h2⟩ := asD_inv h1; clear h1
  obtain ⟨a2, r2, rfl, h3⟩ := asCons_inv h2; clear h2
  obtain ⟨x2, rfl, h4⟩ := asD_inv h3; clear h3
  obtain ⟨rfl, h5⟩ := asNil_inv h4; clear h4
  obtain ⟨rfl, h6⟩ := asNil_inv h5; clear h5
  exact ACall.spec2 (fn := Try.f102) (c := codeOf Try.f102) (S := ofL S102) (L := lofL L102) hS102 (by kernel_rfl) (by kernel_rfl) (inlOK _) (all_eq (by kernel_rfl : subsOf (E.info 102).keep (codeOf Try.f102) = [.loop (body Try.f102 2)]) (all_cons (loopOK_of (mk := 103000002) (sl := [0, 1, 7, 8]) (ss := [([0, 1, 7, 8], lsl102r2)]) (by kernel_rfl) (by kernel_rfl) (all_cons l102r2v (all_nil))) (all_nil))) (by kernel_rfl) h6.of

abbrev Sl24r13 : List (Nat × Pat × Sp) := [(102, none, sp102)]
theorem hSl24r13 : SpecOK E (ofL Sl24r13) := specOK_cons h102 (specOK_nil)
abbrev Ll24r13 : List (Nat × List Nat × Pat × LSp) := []
def lsl24r13 : LSp := fun vs σ K => asCons vs fun a1 r1 => asP (.ptr 0 0 []) a1 <| asCons r1 fun a2 r2 => asD .str a2 fun s1 => asCons r2 fun a3 r3 => asP (.vec 1) a3 <| asCons r3 fun a4 r4 => asD (.int .i64) a4 fun s2 => asCons r4 fun a5 r5 => asD (.int .i64) a5 fun s3 => asNil r5 <| asCons σ fun a6 r6 => asOne opT a6 fun a7 => asD opT a7 fun s4 => asCons r6 fun a8 r8 => asRw (.int .i64) false a8 fun s5 => asNil r8 <| l24r13 (fun z1 => K .ret [(1, .undef), (2, I z1)] []) (fun z1 => K (.exit 2) [(1, .ptr 0 0 []), (2, .undef)] [.one opT (.d opT z1)]) s1 s2 s3 s4 s5
theorem l24r13v : LoopV E (inlF (PA (ACall E)) E 8) (E.info 24).keep 0 Try.f24.ntmps 25000013 (body Try.f24 13) ([1, 5, 58, 59, 60], lsl24r13) := by
  intro vs σ K (h0 : lsl24r13 vs σ K)
  unfold lsl24r13 at h0
  obtain ⟨a1, r1, rfl, h1⟩ := asCons_inv h0; clear h0
  obtain ⟨rfl, h2⟩ := asP_inv h1; clear h1
  obtain ⟨a2, r2, rfl, h3⟩ := asCons_inv h2; clear h2
  obtain ⟨s1, rfl, h4⟩ := asD_inv h3; clear h3
  obtain ⟨a3, r3, rfl, h5⟩ := asCons_inv h4; clear h4
  obtain ⟨rfl, h6⟩ := asP_inv h5; clear h5
  obtain ⟨a4, r4, rfl, h7⟩ := asCons_inv h6; clear h6
  obtain ⟨s2, rfl, h8⟩ := asD_inv h7; clear h7
  obtain ⟨a5, r5, rfl, h9⟩ := asCons_inv h8; clear h8
  obtain ⟨s3, rfl, h10⟩ := asD_inv h9; clear h9
  obtain ⟨rfl, h11⟩ := asNil_inv h10; clear h10
  obtain ⟨a6, r6, rfl, h12⟩ := asCons_inv h11; clear h11
  obtain ⟨a7, rfl, h13⟩ := asOne_inv h12; clear h12
  obtain ⟨s4, rfl, h14⟩ := asD_inv h13; clear h13
  obtain ⟨a8, r8, rfl, h15⟩ := asCons_inv h14; clear h14
  obtain ⟨s5, rfl, h16⟩ := asRw_inv h15; clear h15
  obtain ⟨rfl, h17⟩ := asNil_inv h16; clear h16
  intro J hJ
  have hp : ∀ c' ∈ subsOf (E.info 24).keep (body Try.f24 13), SubOK E (inlF (PA (ACall E)) E 8) (E.info 24).keep 0 Try.f24.ntmps (lofL Ll24r13) c' := all_eq (by kernel_rfl : subsOf (E.info 24).keep (body Try.f24 13) = []) (all_nil)
  exact h17.of (fun s1 s2 s3 s4 s5 => J [(25000013, .undef), (1, .ptr 0 0 []), (5, .d .str s1), (58, .vec 1), (59, I s2), (60, I s3)] [.one opT (.d opT s4), .row (.int .i64) s5 false]) (fun s1 s2 s3 s4 s5 hb => loop_round2 (S := ofL Sl24r13) (L := lofL Ll24r13) hSl24r13 (inlOK _) hp hJ (by kernel_rfl) hb)

abbrev S24 : List (Nat × Pat × Sp) := [(101, none, sp101)]
theorem hS24 : SpecOK E (ofL S24) := specOK_cons h101 (specOK_nil)
abbrev L24 : List (Nat × List Nat × Pat × LSp) := [(25000004, [1, 24, 25, 26], none, lsl24r4), (25000013, [1, 5, 58, 59, 60], none, lsl24r13)]
def sp24 : Sp := fun args τ K => asCons args fun a1 r1 => asD opT a1 fun x1 => asNil r1 <| asNil τ <| c24 x1 (fun z1 => K (I z1) [])
theorem h24 : ∀ args τ K, sp24 args τ K → ACall E 24 args τ K := by
  intro args τ K h0
  unfold sp24 at h0
  obtain ⟨a1, r1, rfl, h1⟩ := asCons_inv h0; clear h0
  obtain ⟨x1, rfl, h2⟩ := asD_inv h1; clear h1
  obtain ⟨rfl, h3⟩ := asNil_inv h2; clear h2
  obtain ⟨rfl, h4⟩ := asNil_inv h3; clear h3
  exact ACall.spec2 (fn := Try.f24) (c := codeOf Try.f24) (S := ofL S24) (L := lofL L24) hS24 (by kernel_rfl) (by kernel_rfl) (inlOK _) (all_eq (by kernel_rfl : subsOf (E.info 24).keep (codeOf Try.f24) = [.loop (body Try.f24 4), .loop (body Try.f24 13)]) (all_cons (loopOK_of (mk := 25000004) (sl := [1, 24, 25, 26]) (ss := [([1, 24, 25, 26], lsl24r4)]) (by kernel_rfl) (by kernel_rfl) (all_cons l24r4v (all_nil))) (all_cons (loopOK_of (mk := 25000013) (sl := [1, 5, 58, 59, 60]) (ss := [([1, 5, 58, 59, 60], lsl24r13)]) (by kernel_rfl) (by kernel_rfl) (all_cons l24r13v (all_nil))) (all_nil)))) (by kernel_rfl) h4.of

abbrev S27 : List (Nat × Pat × Sp) := []
theorem hS27 : SpecOK E (ofL S27) := specOK_nil
abbrev L27 : List (Nat × List Nat × Pat × LSp) := []
def sp27 : Sp := fun args τ K => asCons args fun a1 r1 => asD (.int .i64) a1 fun x1 => asNil r1 <| asNil τ <| c27 x1 (fun z1 => K (B z1) [])
theorem h27 : ∀ args τ K, sp27 args τ K → ACall E 27 args τ K := by
  intro args τ K h0
  unfold sp27 at h0
  obtain ⟨a1, r1, rfl, h1⟩ := asCons_inv h0; clear h0
  obtain ⟨x1, rfl, h2⟩ := asD_inv h1; clear h1
  obtain ⟨rfl, h3⟩ := asNil_inv h2; clear h2
  obtain ⟨rfl, h4⟩ := asNil_inv h3; clear h3
  exact ACall.spec2 (fn := Try.f27) (c := codeOf Try.f27) (S := ofL S27) (L := lofL L27) hS27 (by kernel_rfl) (by kernel_rfl) (inlOK _) (all_eq (by kernel_rfl : subsOf (E.info 27).keep (codeOf Try.f27) = []) (all_nil)) (by kernel_rfl) h4.of

abbrev Sl47r4 : List (Nat × Pat × Sp) := [(24, none, sp24), (27, none, sp27)]
theorem hSl47r4 : SpecOK E (ofL Sl47r4) := specOK_cons h24 (specOK_cons h27 (specOK_nil))
abbrev Ll47r4 : List (Nat × List Nat × Pat × LSp) := []
def lsl47r4 : LSp := fun vs σ K => asCons vs fun a1 r1 => asD (.sl (.pair (.pair (.int .i64) (.pair (.int .i64) (.pair (.int .i64) (.pair (.int .i64) (.pair (.int .i64) .unit))))) (.pair (.int .i64) .unit))) a1 fun s1 => asCons r1 fun a2 r2 => asD (.sl (.pair (.pair (.int .i64) (.pair (.int .i64) (.pair (.int .i64) (.pair (.int .i64) (.pair (.int .i64) .unit))))) (.pair (.int .i64) .unit))) a2 fun s2 => asCons r2 fun a3 r3 => asD (.int .i64) a3 fun s3 => asCons r3 fun a4 r4 => asD (.int .i64) a4 fun s4 => asNil r4 <| asNil σ <| l47r4 (fun z1 => K .ret [(2, I z1)] []) (K (.exit 0) [(2, .undef)] []) s1 s2 s3 s4
theorem l47r4v : LoopV E (inlF (PA (ACall E)) E 8) (E.info 47).keep 0 Try.f47.ntmps 48000004 (body Try.f47 4) ([0, 10, 11, 12], lsl47r4) := by
  intro vs σ K (h0 : lsl47r4 vs σ K)
  unfold lsl47r4 at h0
  obtain ⟨a1, r1, rfl, h1⟩ := asCons_inv h0; clear h0
  obtain ⟨s1, rfl, h2⟩ := asD_inv h1; clear h1
  obtain ⟨a2, r2, rfl, h3⟩ := asCons_inv h2; clear h2
  obtain ⟨s2, rfl, h4⟩ := asD_inv h3; clear h3
  obtain ⟨a3, r3, rfl, h5⟩ := asCons_inv h4; clear h4
  obtain ⟨s3, rfl, h6⟩ := asD_inv h5; clear h5
  obtain ⟨a4, r4, rfl, h7⟩ := asCons_inv h6; clear h6
  obtain ⟨s4, rfl, h8⟩ := asD_inv h7; clear h7
  obtain ⟨rfl, h9⟩ := asNil_inv h8; clear h8
  obtain ⟨rfl, h10⟩ := asNil_inv h9; clear h9
  intro J hJ
  have hp : ∀ c' ∈ subsOf (E.info 47).keep (body Try.f47 4), SubOK E (inlF (PA (ACall E)) E 8) (E.info 47).keep 0 Try.f47.ntmps (lofL Ll47r4) c' := all_eq (by kernel_rfl : subsOf (E.info 47).keep (body Try.f47 4) = []) (all_nil)
  exact h10.of (fun s1 s2 s3 s4 => J [(48000004, .undef), (0, .d (.sl (.pair (.pair (.int .i64) (.pair (.int .i64) (.pair (.int .i64) (.pair (.int .i64) (.pair (.int .i64) .unit))))) (.pair (.int .i64) .unit))) s1), (10, .d (.sl (.pair (.pair (.int .i64) (.pair (.int .i64) (.pair (.int .i64) (.pair (.int .i64) (.pair (.int .i64) .unit))))) (.pair (.int .i64) .unit))) s2), (11, I s3), (12, I s4)] []) (fun s1 s2 s3 s4 hb => loop_round2 (S := ofL Sl47r4) (L := lofL Ll47r4) hSl47r4 (inlOK _) hp hJ (by kernel_rfl) hb)

abbrev S47 : List (Nat × Pat × Sp) := []
theorem hS47 : SpecOK E (ofL S47) := specOK_nil
abbrev L47 : List (Nat × List Nat × Pat × LSp) := [(48000004, [0, 10, 11, 12], none, lsl47r4)]
def sp47 : Sp := fun args τ K => asCons args fun a1 r1 => asD (.sl (.pair (.pair (.int .i64) (.pair (.int .i64) (.pair (.int .i64) (.pair (.int .i64) (.pair (.int .i64) .unit))))) (.pair (.int .i64) .unit))) a1 fun x1 => asNil r1 <| asNil τ <| c47 x1 (fun z1 => K (I z1) [])
theorem h47 : ∀ args τ K, sp47 args τ K → ACall E 47 args τ K := by
  intro args τ K h0
  unfold sp47 at h0
  obtain ⟨a1, r1, rfl, h1⟩ := asCons_inv h0; clear h0
  obtain ⟨x1, rfl, h2⟩ := asD_inv h1; clear h1
  obtain ⟨rfl, h3⟩ := asNil_inv h2; clear h2
  obtain ⟨rfl, h4⟩ := asNil_inv h3; clear h3
  exact ACall.spec2 (fn := Try.f47) (c := codeOf Try.f47) (S := ofL S47) (L := lofL L47) hS47 (by kernel_rfl) (by kernel_rfl) (inlOK _) (all_eq (by kernel_rfl : subsOf (E.info 47).keep (codeOf Try.f47) = [.loop (body Try.f47 4)]) (all_cons (loopOK_of (mk := 48000004) (sl := [0, 10, 11, 12]) (ss := [([0, 10, 11, 12], lsl47r4)]) (by kernel_rfl) (by kernel_rfl) (all_cons l47r4v (all_nil))) (all_nil))) (by kernel_rfl) h4.of

abbrev S29 : List (Nat × Pat × Sp) := []
theorem hS29 : SpecOK E (ofL S29) := specOK_nil
abbrev L29 : List (Nat × List Nat × Pat × LSp) := []
def sp29 : Sp := fun args τ K => asCons args fun a1 r1 => asD (.int .i64) a1 fun x1 => asNil r1 <| asNil τ <| c29 x1 (fun z1 => K (B z1) [])
theorem h29 : ∀ args τ K, sp29 args τ K → ACall E 29 args τ K := by
  intro args τ K h0
  unfold sp29 at h0
  obtain ⟨a1, r1, rfl, h1⟩ := asCons_inv h0; clear h0
  obtain ⟨x1, rfl, h2⟩ := asD_inv h1; clear h1
  obtain ⟨rfl, h3⟩ := asNil_inv h2; clear h2
  obtain ⟨rfl, h4⟩ := asNil_inv h3; clear h3
  exact ACall.spec2 (fn := Try.f29) (c := codeOf Try.f29) (S := ofL S29) (L := lofL L29) hS29 (by kernel_rfl) (by kernel_rfl) (inlOK _) (all_eq (by kernel_rfl : subsOf (E.info 29).keep (codeOf Try.f29) = []) (all_nil)) (by kernel_rfl) h4.of

abbrev Sl52r3 : List (Nat × Pat × Sp) := [(29, none, sp29)]
theorem hSl52r3 : SpecOK E (ofL Sl52r3) := specOK_cons h29 (specOK_nil)
abbrev Ll52r3 : List (Nat × List Nat × Pat × LSp) := []
def lsl52r3 : LSp := fun vs σ K => asCons vs fun a1 r1 => asD (.sl (.pair (.pair (.int .i64) (.pair (.int .i64) (.pair (.int .i64) (.pair (.int .i64) (.pair (.int .i64) .unit))))) (.pair (.int .i64) .unit))) a1 fun s1 => asCons r1 fun a2 r2 => asP (.vec 0) a2 <| asCons r2 fun a3 r3 => asD (.sl (.pair (.pair (.int .i64) (.pair (.int .i64) (.pair (.int .i64) (.pair (.int .i64) (.pair (.int .i64) .unit))))) (.pair (.int .i64) .unit))) a3 fun s2 => asCons r3 fun a4 r4 => asD (.int .i64) a4 fun s3 => asCons r4 fun a5 r5 => asD (.int .i64) a5 fun s4 => asNil r5 <| asCons σ fun a6 r6 => asRw .bool false a6 fun s5 => asNil r6 <| l52r3 (fun z1 z2 => K (.exit 0) [(0, .d (.sl (.pair (.pair (.int .i64) (.pair (.int .i64) (.pair (.int .i64) (.pair (.int .i64) (.pair (.int .i64) .unit))))) (.pair (.int .i64) .unit))) z1), (3, .vec 0)] [.row .bool z2 false]) s1 s2 s3 s4 s5
theorem l52r3v : LoopV E (inlF (PA (ACall E)) E 8) (E.info 52).keep 0 Try.f52.ntmps 53000003 (body Try.f52 3) ([0, 3, 10, 11, 12], lsl52r3) := by
  intro vs σ K (h0 : lsl52r3 vs σ K)
  unfold lsl52r3 at h0
  obtain ⟨a1, r1, rfl, h1⟩ := asCons_inv h0; clear h0
  obtain ⟨s1, rfl, h2⟩ := asD_inv h1; clear h1
  obtain ⟨a2, r2, rfl, h3⟩ := asCons_inv h2; clear h2
  obtain ⟨rfl, h4⟩ := asP_inv h3; clear h3
  obtain ⟨a3, r3, rfl, h5⟩ := asCons_inv h4; clear h4
  obtain ⟨s2, rfl, h6⟩ := asD_inv h5; clear h5
  obtain ⟨a4, r4, rfl, h7⟩ := asCons_inv h6; clear h6
  obtain ⟨s3, rfl, h8⟩ := asD_inv h7; clear h7
  obtain ⟨a5, r5, rfl, h9⟩ := asCons_inv h8; clear h8
  obtain ⟨s4, rfl, h10⟩ := asD_inv h9; clear h9
  obtain ⟨rfl, h11⟩ := asNil_inv h10; clear h10
  obtain ⟨a6, r6, rfl, h12⟩ := asCons_inv h11; clear h11
  obtain ⟨s5, rfl, h13⟩ := asRw_inv h12; clear h12
  obtain ⟨rfl, h14⟩ := asNil_inv h13; clear h13
  intro J hJ
  have hp : ∀ c' ∈ subsOf (E.info 52).keep (body Try.f52 3), SubOK E (inlF (PA (ACall E)) E 8) (E.info 52).keep 0 Try.f52.ntmps (lofL Ll52r3) c' := all_eq (by kernel_rfl : subsOf (E.info 52).keep (body Try.f52 3) = []) (all_nil)
  exact h14.of (fun s1 s2 s3 s4 s5 => J [(53000003, .undef), (0, .d (.sl (.pair (.pair (.int .i64) (.pair (.int .i64) (.pair (.int .i64) (.pair (.int .i64) (.pair (.int .i64) .unit))))) (.pair (.int .i64) .unit))) s1), (3, .vec 0), (10, .d (.sl (.pair (.pair (.int .i64) (.pair (.int .i64) (.pair (.int .i64) (.pair (.int .i64) (.pair (.int .i64) .unit))))) (.pair (.int .i64) .unit))) s2), (11, I s3), (12, I s4)] [.row .bool s5 false]) (fun s1 s2 s3 s4 s5 hb => loop_round2 (S := ofL Sl52r3) (L := lofL Ll52r3) hSl52r3 (inlOK _) hp hJ (by kernel_rfl) hb)

abbrev Sl146r3 : List (Nat × Pat × Sp) := []
theorem hSl146r3 : SpecOK E (ofL Sl146r3) := specOK_nil
abbrev Ll146r3 : List (Nat × List Nat × Pat × LSp) := []
def lsl146r3 : LSp := fun vs σ K => asCons vs fun a1 r1 => asD (.int .i64) a1 fun s1 => asCons r1 fun a2 r2 => asP (.ptr 0 0 []) a2 <| asCons r2 fun a3 r3 => asD (.int .i64) a3 fun s2 => asCons r3 fun a4 r4 => asD (.int .i64) a4 fun s3 => asNil r4 <| asCons σ fun a5 r5 => asOne (.sl .bool) a5 fun a6 => asD (.sl .bool) a6 fun s4 => asNil r5 <| l146r3 (fun z1 z2 => K (.exit 0) [(6, I z1)] [.one (.sl .bool) (.d (.sl .bool) z2)]) s1 s2 s3 s4
theorem l146r3v : LoopV E (inlF (PA (ACall E)) E 8) (E.info 146).keep 1 Try.f146.ntmps 147000003 (body Try.f146 3) ([1, 2, 6, 7], lsl146r3) := by
  intro vs σ K (h0 : lsl146r3 vs σ K)
  unfold lsl146r3 at h0
  obtain ⟨a1, r1, rfl, h1⟩ := asCons_inv h0; clear h0
  obtain ⟨s1, rfl, h2⟩ := asD_inv h1; clear h1
  obtain ⟨a2, r2, rfl, h3⟩ := asCons_inv h2; clear h2
  obtain ⟨rfl, h4⟩ := asP_inv h3; clear h3
  obtain ⟨a3, r3, rfl, h5⟩ := asCons_inv h4; clear h4
  obtain ⟨s2, rfl, h6⟩ := asD_inv h5; clear h5
  obtain ⟨a4, r4, rfl, h7⟩ := asCons_inv h6; clear h6
  obtain ⟨s3, rfl, h8⟩ := asD_inv h7; clear h7
  obtain ⟨rfl, h9⟩ := asNil_inv h8; clear h8
  obtain ⟨a5, r5, rfl, h10⟩ := asCons_inv h9; clear h9
  obtain ⟨a6, rfl, h11⟩ := asOne_inv h10; clear h10
  obtain ⟨s4, rfl, h12⟩ := asD_inv h11; clear h11
  obtain ⟨rfl, h13⟩ := asNil_inv h12; clear h12
  intro J hJ
  have hp : ∀ c' ∈ subsOf (E.info 146).keep (body Try.f146 3), SubOK E (inlF (PA (ACall E)) E 8) (E.info 146).keep 1 Try.f146.ntmps (lofL Ll146r3) c' := all_eq (by kernel_rfl : subsOf (E.info 146).keep (body Try.f146 3) = []) (all_nil)
  exact h13.of (fun s1 s2 s3 s4 => J [(147000003, .undef), (1, I s1), (2, .ptr 0 0 []), (6, I s2), (7, I s3)] [.one (.sl .bool) (.d (.sl .bool) s4)]) (fun s1 s2 s3 s4 hb => loop_round2 (S := ofL Sl146r3) (L := lofL Ll146r3) hSl146r3 (inlOK _) hp hJ (by kernel_rfl) hb)

abbrev S146 : List (Nat × Pat × Sp) := []
theorem hS146 : SpecOK E (ofL S146) := specOK_nil
abbrev L146 : List (Nat × List Nat × Pat × LSp) := [(147000003, [1, 2, 6, 7], none, lsl146r3)]
def sp146 : Sp := fun args τ K => asCons args fun a1 r1 => asD (.int .i64) a1 fun x1 => asCons r1 fun a2 r2 => asD (.int .i64) a2 fun x2 => asCons r2 fun a3 r3 => asP (.ptr 0 0 []) a3 <| asNil r3 <| asCons τ fun a4 r4 => asOne (.sl .bool) a4 fun a5 => asD (.sl .bool) a5 fun x3 => asNil r4 <| c146 x1 x2 x3 (fun z1 z2 => K (I z1) [.one (.sl .bool) (.d (.sl .bool) z2)])
theorem h146 : ∀ args τ K, sp146 args τ K → ACall E 146 args τ K := by
  intro args τ K h0
  unfold sp146 at h0
  obtain ⟨a1, r1, rfl, h1⟩ := asCons_inv h0; clear h0
  obtain ⟨x1, rfl, h2⟩ := asD_inv h1; clear h1
  obtain ⟨a2, r2, rfl, h3⟩ := asCons_inv h2; clear h2
  obtain ⟨x2, rfl, h4⟩ := asD_inv h3; clear h3
  obtain ⟨a3, r3, rfl, h5⟩ := asCons_inv h4; clear h4
  obtain ⟨rfl, h6⟩ := asP_inv h5; clear h5
  obtain ⟨rfl, h7⟩ := asNil_inv h6; clear h6
  obtain ⟨a4, r4, rfl, h8⟩ := asCons_inv h7; clear h7
  obtain ⟨a5, rfl, h9⟩ := asOne_inv h8; clear h8
  obtain ⟨x3, rfl, h10⟩ := asD_inv h9; clear h9
  obtain ⟨rfl, h11⟩ := asNil_inv h10; clear h10
  exact ACall.spec2 (fn := Try.f146) (c := codeOf Try.f146) (S := ofL S146) (L := lofL L146) hS146 (by kernel_rfl) (by kernel_rfl) (inlOK _) (all_eq (by kernel_rfl : subsOf (E.info 146).keep (codeOf Try.f146) = [.loop (body Try.f146 3)]) (all_cons (loopOK_of (mk := 147000003) (sl := [1, 2, 6, 7]) (ss := [([1, 2, 6, 7], lsl146r3)]) (by kernel_rfl) (by kernel_rfl) (all_cons l146r3v (all_nil))) (all_nil))) (by kernel_rfl) h11.of

abbrev S117 : List (Nat × Pat × Sp) := [(146, none, sp146)]
theorem hS117 : SpecOK E (ofL S117) := specOK_cons h146 (specOK_nil)
abbrev L117 : List (Nat × List Nat × Pat × LSp) := []
def sp117 : Sp := fun args τ K => asCons args fun a1 r1 => asD (.sl (.pair (.pair (.int .i64) (.pair (.int .i64) (.pair (.int .i64) (.pair (.int .i64) (.pair (.int .i64) .unit))))) (.pair (.int .i64) .unit))) a1 fun x1 => asCons r1 fun a2 r2 => asD (.sl .bool) a2 fun x2 => asCons r2 fun a3 r3 => asD (.int .i64) a3 fun x3 => asNil r3 <| asNil τ <| c117 x1 x2 x3 (fun z1 => K (I z1) [])
theorem h117 : ∀ args τ K, sp117 args τ K → ACall E 117 args τ K := by
  intro args τ K h0
  unfold sp117 at h0
  obtain ⟨a1, r1, rfl, h1⟩ := asCons_inv h0; clear h0
  obtain ⟨x1, rfl, h2⟩ := asD_inv h1; clear h1
  obtain ⟨a2, r2, rfl, h3⟩ := asCons_inv h2; clear h2
  obtain ⟨x2, rfl, h4⟩ := asD_inv h3; clear h3
  obtain ⟨a3, r3, rfl, h5⟩ := asCons_inv h4; clear h4
  obtain ⟨x3, rfl, h6⟩ := asD_inv h5; clear h5
  obtain ⟨rfl, h7⟩ := asNil_inv h6; clear h6
  obtain ⟨rfl, h8⟩ := asNil_inv h7; clear h7
  exact ACall.spec2 (fn := Try.f117) (c := codeOf Try.f117) (S := ofL S117) (L := lofL L117) hS117 (by kernel_rfl) (by kernel_rfl) (inlOK _) (all_eq (by kernel_rfl : subsOf (E.info 117).keep (codeOf Try.f117) = []) (all_nil)) (by kernel_rfl) h8.of

abbrev Sl52r8 : List (Nat × Pat × Sp) := [(117, none, sp117), (29, none, sp29)]
theorem hSl52r8 : SpecOK E (ofL Sl52r8) := specOK_cons h117 (specOK_cons h29 (specOK_nil))
abbrev Ll52r8 : List (Nat × List Nat × Pat × LSp) := []
def lsl52r8 : LSp := fun vs σ K => asCons vs fun a1 r1 => asD (.sl (.pair (.pair (.int .i64) (.pair (.int .i64) (.pair (.int .i64) (.pair (.int .i64) (.pair (.int .i64) .unit))))) (.pair (.int .i64) .unit))) a1 fun s1 => asCons r1 fun a2 r2 => asP (.vec 0) a2 <| asCons r2 fun a3 r3 => asD (.int .i64) a3 fun s2 => asNil r3 <| asCons σ fun a4 r4 => asRw .bool false a4 fun s3 => asNil r4 <| l52r8 (fun z1 => K (.exit 2) [(3, .vec 0)] [.row .bool z1 false]) s1 s2 s3
theorem l52r8v : LoopV E (inlF (PA (ACall E)) E 8) (E.info 52).keep 0 Try.f52.ntmps 53000008 (body Try.f52 8) ([0, 3, 6], lsl52r8) := by
  intro vs σ K (h0 : lsl52r8 vs σ K)
  unfold lsl52r8 at h0
  obtain ⟨a1, r1, rfl, h1⟩ := asCons_inv h0; clear h0
  obtain ⟨s1, rfl, h2⟩ := asD_inv h1; clear h1
  obtain ⟨a2, r2, rfl, h3⟩ := asCons_inv h2; clear h2
  obtain ⟨rfl, h4⟩ := asP_inv h3; clear h3
  obtain ⟨a3, r3, rfl, h5⟩ := asCons_inv h4; clear h4
  obtain ⟨s2, rfl, h6⟩ := asD_inv h5; clear h5
  obtain ⟨rfl, h7⟩ := asNil_inv h6; clear h6
  obtain ⟨a4, r4, rfl, h8⟩ := asCons_inv h7; clear h7
  obtain ⟨s3, rfl, h9⟩ := asRw_inv h8; clear h8
  obtain ⟨rfl, h10⟩ := asNil_inv h9; clear h9
  intro J hJ
  have hp : ∀ c' ∈ subsOf (E.info 52).keep (body Try.f52 8), SubOK E (inlF (PA (ACall E)) E 8) (E.info 52).keep 0 Try.f52.ntmps (lofL Ll52r8) c' := all_eq (by kernel_rfl : subsOf (E.info 52).keep (body Try.f52 8) = []) (all_nil)
  exact h10.of (fun s1 s2 s3 => J [(53000008, .undef), (0, .d (.sl (.pair (.pair (.int .i64) (.pair (.int .i64) (.pair (.int .i64) (.pair (.int .i64) (.pair (.int .i64) .unit))))) (.pair (.int .i64) .unit))) s1), (3, .vec 0), (6, I s2)] [.row .bool s3 false]) (fun s1 s2 s3 hb => loop_round2 (S := ofL Sl52r8) (L := lofL Ll52r8) hSl52r8 (inlOK _) hp hJ (by kernel_rfl) hb)

abbrev S52 : List (Nat × Pat × Sp) := []
theorem hS52 : SpecOK E (ofL S52) := specOK_nil
abbrev L52 : List (Nat × List Nat × Pat × LSp) := [(53000003, [0, 3, 10, 11, 12], none, lsl52r3), (53000008, [0, 3, 6], none, lsl52r8)]
def sp52 : Sp := fun args τ K => asCons args fun a1 r1 => asD (.sl (.pair (.pair (.int .i64) (.pair (.int .i64) (.pair (.int .i64) (.pair (.int .i64) (.pair (.int .i64) .unit))))) (.pair (.int .i64) .unit))) a1 fun x1 => asNil r1 <| asNil τ <| c52 x1 (fun z1 => K (.vec 0) [.row .bool z1 false])
theorem h52 : ∀ args τ K, sp52 args τ K → ACall E 52 args τ K := by
  intro args τ K h0
  unfold sp52 at h0
  obtain ⟨a1, r1, rfl, h1⟩ := asCons_inv h0; clear h0
  obtain ⟨x1, rfl, h2⟩ := asD_inv h1; clear h1
  obtain ⟨rfl, h3⟩ := asNil_inv h2; clear h2
  obtain ⟨rfl, h4⟩ := asNil_inv h3; clear h3
  exact ACall.spec2 (fn := Try.f52) (c := codeOf Try.f52) (S := ofL S52) (L := lofL L52) hS52 (by kernel_rfl) (by kernel_rfl) (inlOK _) (all_eq (by kernel_rfl : subsOf (E.info 52).keep (codeOf Try.f52) = [.loop (body Try.f52 3), .loop (body Try.f52 8)]) (all_cons (loopOK_of (mk := 53000003) (sl := [0, 3, 10, 11, 12]) (ss := [([0, 3, 10, 11, 12], lsl52r3)]) (by kernel_rfl) (by kernel_rfl) (all_cons l52r3v (all_nil))) (all_cons (loopOK_of (mk := 53000008) (sl := [0, 3, 6]) (ss := [([0, 3, 6], lsl52r8)]) (by kernel_rfl) (by kernel_rfl) (all_cons l52r8v (all_nil))) (all_nil)))) (by kernel_rfl) h4.of

abbrev Sl51r4 : List (Nat × Pat × Sp) := []
theorem hSl51r4 : SpecOK E (ofL Sl51r4) := specOK_nil
abbrev Ll51r4 : List (Nat × List Nat × Pat × LSp) := []
def lsl51r4 : LSp := fun vs σ K => asCons vs fun a1 r1 => asD (.sl .bool) a1 fun s1 => asCons r1 fun a2 r2 => asD (.sl .bool) a2 fun s2 => asCons r2 fun a3 r3 => asD (.int .i64) a3 fun s3 => asCons r3 fun a4 r4 => asD (.int .i64) a4 fun s4 => asNil r4 <| asNil σ <| l51r4 (fun z1 => K .ret [(4, B z1)] []) (K (.exit 0) [(4, .undef)] []) s1 s2 s3 s4
theorem l51r4v : LoopV E (inlF (PA (ACall E)) E 8) (E.info 51).keep 0 Try.f51.ntmps 52000004 (body Try.f51 4) ([0, 1, 12, 13], lsl51r4) := by
  intro vs σ K (h0 : lsl51r4 vs σ K)
  unfold lsl51r4 at h0
  obtain ⟨a1, r1, rfl, h1⟩ := asCons_inv h0; clear h0
  obtain ⟨s1, rfl, h2⟩ := asD_inv h1; clear h1
  obtain ⟨a2, r2, rfl, h3⟩ := asCons_inv h2; clear h2
  obtain ⟨s2, rfl, h4⟩ := asD_inv h3; clear h3
  obtain ⟨a3, r3, rfl, h5⟩ := asCons_inv h4; clear h4
  obtain ⟨s3, rfl, h6⟩ := asD_inv h5; clear h5
  obtain ⟨a4, r4, rfl, h7⟩ := asCons_inv h6; clear h6
  obtain ⟨s4, rfl, h8⟩ := asD_inv h7; clear h7
  obtain ⟨rfl, h9⟩ := asNil_inv h8; clear h8
  obtain ⟨rfl, h10⟩ := asNil_inv h9; clear h9
  intro J hJ
  have hp : ∀ c' ∈ subsOf (E.info 51).keep (body Try.f51 4), SubOK E (inlF (PA (ACall E)) E 8) (E.info 51).keep 0 Try.f51.ntmps (lofL Ll51r4) c' := all_eq (by kernel_rfl : subsOf (E.info 51).keep (body Try.f51 4) = []) (all_nil)
  exact h10.of (fun s1 s2 s3 s4 => J [(52000004, .undef), (0, .d (.sl .bool) s1), (1, .d (.sl .bool) s2), (12, I s3), (13, I s4)] []) (fun s1 s2 s3 s4 hb => loop_round2 (S := ofL Sl51r4) (L := lofL Ll51r4) hSl51r4 (inlOK _) hp hJ (by kernel_rfl) hb)

abbrev S51 : List (Nat × Pat × Sp) := []
theorem hS51 : SpecOK E (ofL S51) := specOK_nil
abbrev L51 : List (Nat × List Nat × Pat × LSp) := [(52000004, [0, 1, 12, 13], none, lsl51r4)]
def sp51 : Sp := fun args τ K => asCons args fun a1 r1 => asD (.sl .bool) a1 fun x1 => asCons r1 fun a2 r2 => asD (.sl .bool) a2 fun x2 => asNil r2 <| asNil τ <| c51 x1 x2 (fun z1 => K (B z1) [])
theorem h51 : ∀ args τ K, sp51 args τ K → ACall E 51 args τ K := by
  intro args τ K h0
  unfold sp51 at h0
  obtain ⟨a1, r1, rfl, h1⟩ := asCons_inv h0; clear h0
  obtain ⟨x1, rfl, h2⟩ := asD_inv h1; clear h1
  obtain ⟨a2, r2, rfl, h3⟩ := asCons_inv h2; clear h2
  obtain ⟨x2, rfl, h4⟩ := asD_inv h3; clear h3
  obtain ⟨rfl, h5⟩ := asNil_inv h4; clear h4
  obtain ⟨rfl, h6⟩ := asNil_inv h5; clear h5
  exact ACall.spec2 (fn := Try.f51) (c := codeOf Try.f51) (S := ofL S51) (L := lofL L51) hS51 (by kernel_rfl) (by kernel_rfl) (inlOK _) (all_eq (by kernel_rfl : subsOf (E.info 51).keep (codeOf Try.f51) = [.loop (body Try.f51 4)]) (all_cons (loopOK_of (mk := 52000004) (sl := [0, 1, 12, 13]) (ss := [([0, 1, 12, 13], lsl51r4)]) (by kernel_rfl) (by kernel_rfl) (all_cons l51r4v (all_nil))) (all_nil))) (by kernel_rfl) h6.of

abbrev Sl53r3 : List (Nat × Pat × Sp) := []
theorem hSl53r3 : SpecOK E (ofL Sl53r3) := specOK_nil
abbrev Ll53r3 : List (Nat × List Nat × Pat × LSp) := []
def lsl53r3 : LSp := fun vs σ K => asCons vs fun a1 r1 => asD (.sl (.pair (.pair (.int .i64) (.pair (.int .i64) (.pair (.int .i64) (.pair (.int .i64) (.pair (.int .i64) .unit))))) (.pair (.int .i64) .unit))) a1 fun s1 => asCons r1 fun a2 r2 => asD .bool a2 fun s2 => asCons r2 fun a3 r3 => asP (.vec 0) a3 <| asCons r3 fun a4 r4 => asD (.sl (.pair (.pair (.int .i64) (.pair (.int .i64) (.pair (.int .i64) (.pair (.int .i64) (.pair (.int .i64) .unit))))) (.pair (.int .i64) .unit))) a4 fun s3 => asCons r4 fun a5 r5 => asD (.int .i64) a5 fun s4 => asCons r5 fun a6 r6 => asD (.int .i64) a6 fun s5 => asNil r6 <| asCons σ fun a7 r7 => asRw .bool false a7 fun s6 => asNil r7 <| l53r3 (fun z1 z2 => K (.exit 0) [(0, .d (.sl (.pair (.pair (.int .i64) (.pair (.int .i64) (.pair (.int .i64) (.pair (.int .i64) (.pair (.int .i64) .unit))))) (.pair (.int .i64) .unit))) z1), (5, .vec 0)] [.row .bool z2 false]) s1 s2 s3 s4 s5 s6
theorem l53r3v : LoopV E (inlF (PA (ACall E)) E 8) (E.info 53).keep 0 Try.f53.ntmps 54000003 (body Try.f53 3) ([0, 1, 5, 14, 15, 16], lsl53r3) := by
  intro vs σ K (h0 : lsl53r3 vs σ K)
  unfold lsl53r3 at h0
  obtain ⟨a1, r1, rfl, h1⟩ := asCons_inv h0; clear h0
  obtain ⟨s1, rfl, h2⟩ := asD_inv h1; clear h1
  obtain ⟨a2, r2, rfl, h3⟩ := asCons_inv h2; clear h2
  obtain ⟨s2, rfl, h4⟩ := asD_inv h3; clear h3
  obtain ⟨a3, r3, rfl, h5⟩ := asCons_inv h4; clear h4
  obtain ⟨rfl, h6⟩ := asP_inv h5; clear h5
  obtain ⟨a4, r4, rfl, h7⟩ := asCons_inv h6; clear h6
  obtain ⟨s3, rfl, h8⟩ := asD_inv h7; clear h7
  obtain ⟨a5, r5, rfl, h9⟩ := asCons_inv h8; clear h8
  obtain ⟨s4, rfl, h10⟩ := asD_inv h9; clear h9
  obtain ⟨a6, r6, rfl, h11⟩ := asCons_inv h10; clear h10
  obtain ⟨s5, rfl, h12⟩ := asD_inv h11; clear h11
  obtain ⟨rfl, h13⟩ := asNil_inv h12; clear h12
  obtain ⟨a7, r7, rfl, h14⟩ := asCons_inv h13; clear h13
  obtain ⟨s6, rfl, h15⟩ := asRw_inv h14; clear h14
  obtain ⟨rfl, h16⟩ := asNil_inv h15; clear h15
  intro J hJ
  have hp : ∀ c' ∈ subsOf (E.info 53).keep (body Try.f53 3), SubOK E (inlF (PA (ACall E)) E 8) (E.info 53).keep 0 Try.f53.ntmps (lofL Ll53r3) c' := all_eq (by kernel_rfl : subsOf (E.info 53).keep (body Try.f53 3) = []) (all_nil)
  exact h16.of (fun s1 s2 s3 s4 s5 s6 => J [(54000003, .undef), (0, .d (.sl (.pair (.pair (.int .i64) (.pair (.int .i64) (.pair (.int .i64) (.pair (.int .i64) (.pair (.int .i64) .unit))))) (.pair (.int .i64) .unit))) s1), (1, B s2), (5, .vec 0), (14, .d (.sl (.pair (.pair (.int .i64) (.pair (.int .i64) (.pair (.int .i64) (.pair (.int .i64) (.pair (.int .i64) .unit))))) (.pair (.int .i64) .unit))) s3), (15, I s4), (16, I s5)] [.row .bool s6 false]) (fun s1 s2 s3 s4 s5 s6 hb => loop_round2 (S := ofL Sl53r3) (L := lofL Ll53r3) hSl53r3 (inlOK _) hp hJ (by kernel_rfl) hb)

abbrev S106 : List (Nat × Pat × Sp) := []
theorem hS106 : SpecOK E (ofL S106) := specOK_nil
abbrev L106 : List (Nat × List Nat × Pat × LSp) := []
def sp106 : Sp := fun args τ K => asCons args fun a1 r1 => asD (.int .i64) a1 fun x1 => asCons r1 fun a2 r2 => asD (.int .i64) a2 fun x2 => asNil r2 <| asNil τ <| c106 x1 x2 (fun z1 => K (I z1) [])
theorem h106 : ∀ args τ K, sp106 args τ K → ACall E 106 args τ K := by
  intro args τ K h0
  unfold sp106 at h0
  obtain ⟨a1, r1, rfl, h1⟩ := asCons_inv h0; clear h0
  obtain ⟨x1, rfl, h2⟩ := asD_inv h1; clear h1
  obtain ⟨a2, r2, rfl, h3⟩ := asCons_inv h2; clear h2
  obtain ⟨x2, rfl, h4⟩ := asD_inv h3; clear h3
  obtain ⟨rfl, h5⟩ := asNil_inv h4; clear h4
  obtain ⟨rfl, h6⟩ := asNil_inv h5; clear h5
  exact ACall.spec2 (fn := Try.f106) (c := codeOf Try.f106) (S := ofL S106) (L := lofL L106) hS106 (by kernel_rfl) (by kernel_rfl) (inlOK _) (all_eq (by kernel_rfl : subsOf (E.info 106).keep (codeOf Try.f106) = []) (all_nil)) (by kernel_rfl) h6.of

abbrev S33 : List (Nat × Pat × Sp) := [(106, none, sp106)]
theorem hS33 : SpecOK E (ofL S33) := specOK_cons h106 (specOK_nil)
abbrev L33 : List (Nat × List Nat × Pat × LSp) := []
def sp33 : Sp := fun args τ K => asCons args fun a1 r1 => asD opT a1 fun x1 => asCons r1 fun a2 r2 => asD .bool a2 fun x2 => asNil r2 <| asNil τ <| c33 x1 x2 (fun z1 => K (.vec 0) [.row (.int .i64) z1 false])
theorem h33 : ∀ args τ K, sp33 args τ K → ACall E 33 args τ K := by
  intro args τ K h0
  unfold sp33 at h0
  obtain ⟨a1, r1, rfl, h1⟩ := asCons_inv h0; clear h0
  obtain ⟨x1, rfl, h2⟩ := asD_inv h1; clear h1
  obtain ⟨a2, r2, rfl, h3⟩ := asCons_inv h2; clear h2
  obtain ⟨x2, rfl, h4⟩ := asD_inv h3; clear h3
  obtain ⟨rfl, h5⟩ := asNil_inv h4; clear h4
  obtain ⟨rfl, h6⟩ := asNil_inv h5; clear h5
  exact ACall.spec2 (fn := Try.f33) (c := codeOf Try.f33) (S := ofL S33) (L := lofL L33) hS33 (by kernel_rfl) (by kernel_rfl) (inlOK _) (all_eq (by kernel_rfl : subsOf (E.info 33).keep (codeOf Try.f33) = []) (all_nil)) (by kernel_rfl) h6.of

abbrev Sl53r10 : List (Nat × Pat × Sp) := [(117, none, sp117), (33, none, sp33)]
theorem hSl53r10 : SpecOK E (ofL Sl53r10) := specOK_cons h117 (specOK_cons h33 (specOK_nil))
abbrev Ll53r10 : List (Nat × List Nat × Pat × LSp) := []
def lsl53r10 : LSp := fun vs σ K => asCons vs fun a1 r1 => asD (.sl (.pair (.pair (.int .i64) (.pair (.int .i64) (.pair (.int .i64) (.pair (.int .i64) (.pair (.int .i64) .unit))))) (.pair (.int .i64) .unit))) a1 fun s1 => asCons r1 fun a2 r2 => asP (.vec 0) a2 <| asCons r2 fun a3 r3 => asP (.vec 1) a3 <| asCons r3 fun a4 r4 => asD (.sl (.pair (.pair (.int .i64) (.pair (.int .i64) (.pair (.int .i64) (.pair (.int .i64) (.pair (.int .i64) .unit))))) (.pair (.int .i64) .unit))) a4 fun s2 => asCons r4 fun a5 r5 => asD (.int .i64) a5 fun s3 => asCons r5 fun a6 r6 => asD (.int .i64) a6 fun s4 => asNil r6 <| asCons σ fun a7 r7 => asRw .bool false a7 fun s5 => asCons r7 fun a8 r8 => asRw (.int .i64) false a8 fun s6 => asNil r8 <| l53r10 (fun z1 => K (.exit 2) [(8, .vec 0)] [.row (.int .i64) z1 false]) s1 s2 s3 s4 s5 s6
theorem l53r10v : LoopV E (inlF (PA (ACall E)) E 8) (E.info 53).keep 0 Try.f53.ntmps 54000010 (body Try.f53 10) ([0, 5, 8, 31, 32, 33], lsl53r10) := by
  intro vs σ K (h0 : lsl53r10 vs σ K)
  unfold lsl53r10 at h0
  obtain ⟨a1, r1, rfl, h1⟩ := asCons_inv h0; clear h0
  obtain ⟨s1, rfl, h2⟩ := asD_inv h1; clear h1
  obtain ⟨a2, r2, rfl, h3⟩ := asCons_inv h2; clear h2
  obtain ⟨rfl, h4⟩ := asP_inv h3; clear h3
  obtain ⟨a3, r3, rfl, h5⟩ := asCons_inv h4; clear h4
  obtain ⟨rfl, h6⟩ := asP_inv h5; clear h5
  obtain ⟨a4, r4, rfl, h7⟩ := asCons_inv h6; clear h6
  obtain ⟨s2, rfl, h8⟩ := asD_inv h7; clear h7
  obtain ⟨a5, r5, rfl, h9⟩ := asCons_inv h8; clear h8
  obtain ⟨s3, rfl, h10⟩ := asD_inv h9; clear h9
  obtain ⟨a6, r6, rfl, h11⟩ := asCons_inv h10; clear h10
  obtain ⟨s4, rfl, h12⟩ := asD_inv h11; clear h11
  obtain ⟨rfl, h13⟩ := asNil_inv h12; clear h12
  obtain ⟨a7, r7, rfl, h14⟩ := asCons_inv h13; clear h13
  obtain ⟨s5, rfl, h15⟩ := asRw_inv h14; clear h14
  obtain ⟨a8, r8, rfl, h16⟩ := asCons_inv h15; clear h15
  obtain ⟨s6, rfl, h17⟩ := asRw_inv h16; clear h16
  obtain ⟨rfl, h18⟩ := asNil_inv h17; clear h17
  intro J hJ
  have hp : ∀ c' ∈ subsOf (E.info 53).keep (body Try.f53 10), SubOK E (inlF (PA (ACall E)) E 8) (E.info 53).keep 0 Try.f53.ntmps (lofL Ll53r10) c' := all_eq (by kernel_rfl : subsOf (E.info 53).keep (body Try.f53 10) = []) (all_nil)
  exact h18.of (fun s1 s2 s3 s4 s5 s6 => J [(54000010, .undef), (0, .d (.sl (.pair (.pair (.int .i64) (.pair (.int .i64) (.pair (.int .i64) (.pair (.int .i64) (.pair (.int .i64) .unit))))) (.pair (.int .i64) .unit))) s1), (5, .vec 0), (8, .vec 1), (31, .d (.sl (.pair (.pair (.int .i64) (.pair (.int .i64) (.pair (.int .i64) (.pair (.int .i64) (.pair (.int .i64) .unit))))) (.pair (.int .i64) .unit))) s2), (32, I s3), (33, I s4)] [.row .bool s5 false, .row (.int .i64) s6 false]) (fun s1 s2 s3 s4 s5 s6 hb => loop_round2 (S := ofL Sl53r10) (L := lofL Ll53r10) hSl53r10 (inlOK _) hp hJ (by kernel_rfl) hb)

abbrev S53 : List (Nat × Pat × Sp) := [(52, none, sp52)]
theorem hS53 : SpecOK E (ofL S53) := specOK_cons h52 (specOK_nil)
abbrev L53 : List (Nat × List Nat × Pat × LSp) := [(54000003, [0, 1, 5, 14, 15, 16], none, lsl53r3), (54000010, [0, 5, 8, 31, 32, 33], none, lsl53r10)]
def sp53 : Sp := fun args τ K => asCons args fun a1 r1 => asD (.sl (.pair (.pair (.int .i64) (.pair (.int .i64) (.pair (.int .i64) (.pair (.int .i64) (.pair (.int .i64) .unit))))) (.pair (.int .i64) .unit))) a1 fun x1 => asCons r1 fun a2 r2 => asD .bool a2 fun x2 => asNil r2 <| asNil τ <| c53 x1 x2 (fun z1 => K (.vec 0) [.row (.int .i64) z1 false])
theorem h53 : ∀ args τ K, sp53 args τ K → ACall E 53 args τ K := by
  intro args τ K h0
  unfold sp53 at h0
  obtain ⟨a1, r1, rfl, h1⟩ := asCons_inv h0; clear h0
  obtain ⟨x1, rfl, h2⟩ := asD_inv h1; clear h1
  obtain ⟨a2, r2, rfl, h3⟩ := asCons_inv h2; clear h2
  obtain ⟨x2, rfl, h4⟩ := asD_inv h3; clear h3
  obtain ⟨rfl, h5⟩ := asNil_inv h4; clear h4
  obtain ⟨rfl, h6⟩ := asNil_inv h5; clear h5
  exact ACall.spec2 (fn := Try.f53) (c := codeOf Try.f53) (S := ofL S53) (L := lofL L53) hS53 (by kernel_rfl) (by kernel_rfl) (inlOK _) (all_eq (by kernel_rfl : subsOf (E.info 53).keep (codeOf Try.f53) = [.loop (body Try.f53 3), .loop (body Try.f53 10)]) (all_cons (loopOK_of (mk := 54000003) (sl := [0, 1, 5, 14, 15, 16]) (ss := [([0, 1, 5, 14, 15, 16], lsl53r3)]) (by kernel_rfl) (by kernel_rfl) (all_cons l53r3v (all_nil))) (all_cons (loopOK_of (mk := 54000010) (sl := [0, 5, 8, 31, 32, 33]) (ss := [([0, 5, 8, 31, 32, 33], lsl53r10)]) (by kernel_rfl) (by kernel_rfl) (all_cons l53r10v (all_nil))) (all_nil)))) (by kernel_rfl) h6.of

abbrev Sl32r4 : List (Nat × Pat × Sp) := []
theorem hSl32r4 : SpecOK E (ofL Sl32r4) := specOK_nil
abbrev Ll32r4 : List (Nat × List Nat × Pat × LSp) := []
def lsl32r4 : LSp := fun vs σ K => asCons vs fun a1 r1 => asD (.sl (.int .i64)) a1 fun s1 => asCons r1 fun a2 r2 => asD (.sl (.int .i64)) a2 fun s2 => asCons r2 fun a3 r3 => asD (.int .i64) a3 fun s3 => asCons r3 fun a4 r4 => asD (.int .i64) a4 fun s4 => asNil r4 <| asNil σ <| l32r4 (fun z1 => K .ret [(4, B z1)] []) (K (.exit 0) [(4, .undef)] []) s1 s2 s3 s4
theorem l32r4v : LoopV E (inlF (PA (ACall E)) E 8) (E.info 32).keep 0 Try.f32.ntmps 33000004 (body Try.f32 4) ([0, 1, 12, 13], lsl32r4) := by
  intro vs σ K (h0 : lsl32r4 vs σ K)
  unfold lsl32r4 at h0
  obtain ⟨a1, r1, rfl, h1⟩ := asCons_inv h0; clear h0
  obtain ⟨s1, rfl, h2⟩ := asD_inv h1; clear h1
  obtain ⟨a2, r2, rfl, h3⟩ := asCons_inv h2; clear h2
  obtain ⟨s2, rfl, h4⟩ := asD_inv h3; clear h3
  obtain ⟨a3, r3, rfl, h5⟩ := asCons_inv h4; clear h4
  obtain ⟨s3, rfl, h6⟩ := asD_inv h5; clear h5
  obtain ⟨a4, r4, rfl, h7⟩ := asCons_inv h6; clear h6
  obtain ⟨s4, rfl, h8⟩ := asD_inv h7; clear h7
  obtain ⟨rfl, h9⟩ := asNil_inv h8; clear h8
  obtain ⟨rfl, h10⟩ := asNil_inv h9; clear h9
  intro J hJ
  have hp : ∀ c' ∈ subsOf (E.info 32).keep (body Try.f32 4), SubOK E (inlF (PA (ACall E)) E 8) (E.info 32).keep 0 Try.f32.ntmps (lofL Ll32r4) c' := all_eq (by kernel_rfl : subsOf (E.info 32).keep (body Try.f32 4) = []) (all_nil)
  exact h10.of (fun s1 s2 s3 s4 => J [(33000004, .undef), (0, .d (.sl (.int .i64)) s1), (1, .d (.sl (.int .i64)) s2), (12, I s3), (13, I s4)] []) (fun s1 s2 s3 s4 hb => loop_round2 (S := ofL Sl32r4) (L := lofL Ll32r4) hSl32r4 (inlOK _) hp hJ (by kernel_rfl) hb)

abbrev S32 : List (Nat × Pat × Sp) := []
theorem hS32 : SpecOK E (ofL S32) := specOK_nil
abbrev L32 : List (Nat × List Nat × Pat × LSp) := [(33000004, [0, 1, 12, 13], none, lsl32r4)]
def sp32 : Sp := fun args τ K => asCons args fun a1 r1 => asD (.sl (.int .i64)) a1 fun x1 => asCons r1 fun a2 r2 => asD (.sl (.int .i64)) a2 fun x2 => asNil r2 <| asNil τ <| c32 x1 x2 (fun z1 => K (B z1) [])
theorem h32 : ∀ args τ K, sp32 args τ K → ACall E 32 args τ K := by
  intro args τ K h0
  unfold sp32 at h0
  obtain ⟨a1, r1, rfl, h1⟩ := asCons_inv h0; clear h0
  obtain ⟨x1, rfl, h2⟩ := asD_inv h1; clear h1
  obtain ⟨a2, r2, rfl, h3⟩ := asCons_inv h2; clear h2
  obtain ⟨x2, rfl, h4⟩ := asD_inv h3; clear h3
  obtain ⟨rfl, h5⟩ := asNil_inv h4; clear h4
  obtain ⟨rfl, h6⟩ := asNil_inv h5; clear h5
  exact ACall.spec2 (fn := Try.f32) (c := codeOf Try.f32) (S := ofL S32) (L := lofL L32) hS32 (by kernel_rfl) (by kernel_rfl) (inlOK _) (all_eq (by kernel_rfl : subsOf (E.info 32).keep (codeOf Try.f32) = [.loop (body Try.f32 4)]) (all_cons (loopOK_of (mk := 33000004) (sl := [0, 1, 12, 13]) (ss := [([0, 1, 12, 13], lsl32r4)]) (by kernel_rfl) (by kernel_rfl) (all_cons l32r4v (all_nil))) (all_nil))) (by kernel_rfl) h6.of

abbrev S9 : List (Nat × Pat × Sp) := [(46, none, sp46), (47, none, sp47), (48, none, sp48), (49, none, sp49), (50, none, sp50), (52, none, sp52), (51, none, sp51), (53, none, sp53), (32, none, sp32)]
theorem hS9 : SpecOK E (ofL S9) := specOK_cons h46 (specOK_cons h47 (specOK_cons h48 (specOK_cons h49 (specOK_cons h50 (specOK_cons h52 (specOK_cons h51 (specOK_cons h53 (specOK_cons h32 (specOK_nil)))))))))
abbrev L9 : List (Nat × List Nat × Pat × LSp) := []
def sp9 : Sp := fun args τ K => asCons args fun a1 r1 => asD (.sl (.pair (.pair (.int .i64) (.pair (.int .i64) (.pair (.int .i64) (.pair (.int .i64) (.pair (.int .i64) .unit))))) (.pair (.int .i64) .unit))) a1 fun x1 => asCons r1 fun a2 r2 => asD .bool a2 fun x2 => asNil r2 <| asNil τ <| c9 x1 x2 (fun z1 => K (B z1) [])
theorem h9 : ∀ args τ K, sp9 args τ K → ACall E 9 args τ K := by
  intro args τ K h0
  unfold sp9 at h0
  obtain ⟨a1, r1, rfl, h1⟩ := asCons_inv h0; clear h0
  obtain ⟨x1, rfl, h2⟩ := asD_inv h1; clear h1
  obtain ⟨a2, r2, rfl, h3⟩ := asCons_inv h2; clear h2
  obtain ⟨x2, rfl, h4⟩ := asD_inv h3; clear h3
  obtain ⟨rfl, h5⟩ := asNil_inv h4; clear h4
  obtain ⟨rfl, h6⟩ := asNil_inv h5; clear h5
  exact ACall.spec2 (fn := Try.f9) (c := codeOf Try.f9) (S := ofL S9) (L := lofL L9) hS9 (by kernel_rfl) (by kernel_rfl) (inlOK _) (all_eq (by kernel_rfl : subsOf (E.info 9).keep (codeOf Try.f9) = []) (all_nil)) (by kernel_rfl) h6.of

end Go.Proofs.Ytfdoaacapkopmaa
