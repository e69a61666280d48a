/- The functions compute that (printed by a program). -/
import Derived.Test.YtfdoaacapkopmaaAD10
import Derived.Test.YtfdoaacapkopmaaAEnvC
import Derived.KernelRfl
namespace Go.Proofs.Ytfdoaacapkopmaa
open Go.Abs
set_option maxRecDepth 100000
set_option maxHeartbeats 4000000
set_option linter.unusedVariables false
abbrev S103 : List (Nat × Pat × Sp) := []
theorem hS103 : SpecOK E (ofL S103) := specOK_nil
abbrev L103 : List (Nat × List Nat × Pat × LSp) := []
def sp103 : Sp := fun args τ K => asCons args fun a1 r1 => asD (.int .i64) a1 fun x1 => asCons r1 fun a2 r2 => asD (.int .i64) a2 fun x2 => asCons r2 fun a3 r3 => asD (.int .i64) a3 fun x3 => asNil r3 <| asNil τ <| c103 x1 x2 x3 (fun z1 => K (B z1) [])
theorem h103 : ∀ args τ K, sp103 args τ K → ACall E 103 args τ K := by
  intro args τ K h0
  unfold sp103 at h0
  obtain ⟨a1, r1, rfl, h1⟩ := asCons_inv h0; clear h0
  obtain ⟨x1, rfl, h2⟩ := asD_inv h1; clear h1
  obtain ⟨a2, r2, rfl, h3⟩ := asCons_inv h2; clear h2
  obtain ⟨x2, rfl, h4⟩ := asD_inv h3; clear h3
  obtain ⟨a3, r3, rfl, h5⟩ := asCons_inv h4; clear h4
  obtain ⟨x3, rfl, h6⟩ := asD_inv h5; clear h5
  obtain ⟨rfl, h7⟩ := asNil_inv h6; clear h6
  obtain ⟨rfl, h8⟩ := asNil_inv h7; clear h7
  exact ACall.spec2 (fn := Try.f103) (c := codeOf Try.f103) (S := ofL S103) (L := lofL L103) hS103 (by kernel_rfl) (by kernel_rfl) (inlOK _) (all_eq (by kernel_rfl : subsOf (E.info 103).keep (codeOf Try.f103) = []) (all_nil)) (by kernel_rfl) h8.of

abbrev S104 : List (Nat × Pat × Sp) := []
theorem hS104 : SpecOK E (ofL S104) := specOK_nil
abbrev L104 : List (Nat × List Nat × Pat × LSp) := []
def sp104 : Sp := fun args τ K => asCons args fun a1 r1 => asD (.int .i64) a1 fun x1 => asNil r1 <| asNil τ <| c104 x1 (fun z1 => K (.d (.pair .bool (.pair .bool (.pair .bool (.pair .bool .unit)))) z1) [])
theorem h104 : ∀ args τ K, sp104 args τ K → ACall E 104 args τ K := by
  intro args τ K h0
  unfold sp104 at h0
  obtain ⟨a1, r1, rfl, h1⟩ := asCons_inv h0; clear h0
  obtain ⟨x1, rfl, h2⟩ := asD_inv h1; clear h1
  obtain ⟨rfl, h3⟩ := asNil_inv h2; clear h2
  obtain ⟨rfl, h4⟩ := asNil_inv h3; clear h3
  exact ACall.spec2 (fn := Try.f104) (c := codeOf Try.f104) (S := ofL S104) (L := lofL L104) hS104 (by kernel_rfl) (by kernel_rfl) (inlOK _) (all_eq (by kernel_rfl : subsOf (E.info 104).keep (codeOf Try.f104) = []) (all_nil)) (by kernel_rfl) h4.of

abbrev S25 : List (Nat × Pat × Sp) := [(103, none, sp103), (104, none, sp104)]
theorem hS25 : SpecOK E (ofL S25) := specOK_cons h103 (specOK_cons h104 (specOK_nil))
abbrev L25 : List (Nat × List Nat × Pat × LSp) := []
def sp25 : Sp := fun args τ K => asCons args fun a1 r1 => asD opT a1 fun x1 => asNil r1 <| asNil τ <| c25 x1 (fun z1 => K (I z1) [])
theorem h25 : ∀ args τ K, sp25 args τ K → ACall E 25 args τ K := by
  intro args τ K h0
  unfold sp25 at h0
  obtain ⟨a1, r1, rfl, h1⟩ := asCons_inv h0; clear h0
  obtain ⟨x1, rfl, h2⟩ := asD_inv h1; clear h1
  obtain ⟨rfl, h3⟩ := asNil_inv h2; clear h2
  obtain ⟨rfl, h4⟩ := asNil_inv h3; clear h3
  exact ACall.spec2 (fn := Try.f25) (c := codeOf Try.f25) (S := ofL S25) (L := lofL L25) hS25 (by kernel_rfl) (by kernel_rfl) (inlOK _) (all_eq (by kernel_rfl : subsOf (E.info 25).keep (codeOf Try.f25) = []) (all_nil)) (by kernel_rfl) h4.of

abbrev S26 : List (Nat × Pat × Sp) := []
theorem hS26 : SpecOK E (ofL S26) := specOK_nil
abbrev L26 : List (Nat × List Nat × Pat × LSp) := []
def sp26 : Sp := fun args τ K => asCons args fun a1 r1 => asD (.int .i64) a1 fun x1 => asNil r1 <| asNil τ <| c26 x1 (fun z1 => K (B z1) [])
theorem h26 : ∀ args τ K, sp26 args τ K → ACall E 26 args τ K := by
  intro args τ K h0
  unfold sp26 at h0
  obtain ⟨a1, r1, rfl, h1⟩ := asCons_inv h0; clear h0
  obtain ⟨x1, rfl, h2⟩ := asD_inv h1; clear h1
  obtain ⟨rfl, h3⟩ := asNil_inv h2; clear h2
  obtain ⟨rfl, h4⟩ := asNil_inv h3; clear h3
  exact ACall.spec2 (fn := Try.f26) (c := codeOf Try.f26) (S := ofL S26) (L := lofL L26) hS26 (by kernel_rfl) (by kernel_rfl) (inlOK _) (all_eq (by kernel_rfl : subsOf (E.info 26).keep (codeOf Try.f26) = []) (all_nil)) (by kernel_rfl) h4.of

abbrev Sl50r4 : List (Nat × Pat × Sp) := [(25, none, sp25), (26, none, sp26)]
theorem hSl50r4 : SpecOK E (ofL Sl50r4) := specOK_cons h25 (specOK_cons h26 (specOK_nil))
abbrev Ll50r4 : List (Nat × List Nat × Pat × LSp) := []
def lsl50r4 : LSp := fun vs σ K => asCons vs fun a1 r1 => asD (.sl (.pair (.pair (.int .i64) (.pair (.int .i64) (.pair (.int .i64) (.pair (.int .i64) (.pair (.int .i64) .unit))))) (.pair (.int .i64) .unit))) a1 fun s1 => asCons r1 fun a2 r2 => asD (.sl (.pair (.pair (.int .i64) (.pair (.int .i64) (.pair (.int .i64) (.pair (.int .i64) (.pair (.int .i64) .unit))))) (.pair (.int .i64) .unit))) a2 fun s2 => asCons r2 fun a3 r3 => asD (.int .i64) a3 fun s3 => asCons r3 fun a4 r4 => asD (.int .i64) a4 fun s4 => asNil r4 <| asNil σ <| l50r4 (fun z1 => K .ret [(2, I z1)] []) (K (.exit 0) [(2, .undef)] []) s1 s2 s3 s4
theorem l50r4v : LoopV E (inlF (PA (ACall E)) E 8) (E.info 50).keep 0 Try.f50.ntmps 51000004 (body Try.f50 4) ([0, 10, 11, 12], lsl50r4) := by
  intro vs σ K (h0 : lsl50r4 vs σ K)
  unfold lsl50r4 at h0
  obtain ⟨a1, r1, rfl, h1⟩ := asCons_inv h0; clear h0
  obtain ⟨s1, rfl, h2⟩ := asD_inv h1; clear h1
  obtain ⟨a2, r2, rfl, h3⟩ := asCons_inv h2; clear h2
  obtain ⟨s2, rfl, h4⟩ := asD_inv h3; clear h3
  obtain ⟨a3, r3, rfl, h5⟩ := asCons_inv h4; clear h4
  obtain ⟨s3, rfl, h6⟩ := asD_inv h5; clear h5
  obtain ⟨a4, r4, rfl, h7⟩ := asCons_inv h6; clear h6
  obtain ⟨s4, rfl, h8⟩ := asD_inv h7; clear h7
  obtain ⟨rfl, h9⟩ := asNil_inv h8; clear h8
  obtain ⟨rfl, h10⟩ := asNil_inv h9; clear h9
  intro J hJ
  have hp : ∀ c' ∈ subsOf (E.info 50).keep (body Try.f50 4), SubOK E (inlF (PA (ACall E)) E 8) (E.info 50).keep 0 Try.f50.ntmps (lofL Ll50r4) c' := all_eq (by kernel_rfl : subsOf (E.info 50).keep (body Try.f50 4) = []) (all_nil)
  exact h10.of (fun s1 s2 s3 s4 => J [(51000004, .undef), (0, .d (.sl (.pair (.pair (.int .i64) (.pair (.int .i64) (.pair (.int .i64) (.pair (.int .i64) (.pair (.int .i64) .unit))))) (.pair (.int .i64) .unit))) s1), (10, .d (.sl (.pair (.pair (.int .i64) (.pair (.int .i64) (.pair (.int .i64) (.pair (.int .i64) (.pair (.int .i64) .unit))))) (.pair (.int .i64) .unit))) s2), (11, I s3), (12, I s4)] []) (fun s1 s2 s3 s4 hb => loop_round2 (S := ofL Sl50r4) (L := lofL Ll50r4) hSl50r4 (inlOK _) hp hJ (by kernel_rfl) hb)

abbrev S50 : List (Nat × Pat × Sp) := []
theorem hS50 : SpecOK E (ofL S50) := specOK_nil
abbrev L50 : List (Nat × List Nat × Pat × LSp) := [(51000004, [0, 10, 11, 12], none, lsl50r4)]
def sp50 : Sp := fun args τ K => asCons args fun a1 r1 => asD (.sl (.pair (.pair (.int .i64) (.pair (.int .i64) (.pair (.int .i64) (.pair (.int .i64) (.pair (.int .i64) .unit))))) (.pair (.int .i64) .unit))) a1 fun x1 => asNil r1 <| asNil τ <| c50 x1 (fun z1 => K (I z1) [])
theorem h50 : ∀ args τ K, sp50 args τ K → ACall E 50 args τ K := by
  intro args τ K h0
  unfold sp50 at h0
  obtain ⟨a1, r1, rfl, h1⟩ := asCons_inv h0; clear h0
  obtain ⟨x1, rfl, h2⟩ := asD_inv h1; clear h1
  obtain ⟨rfl, h3⟩ := asNil_inv h2; clear h2
  obtain ⟨rfl, h4⟩ := asNil_inv h3; clear h3
  exact ACall.spec2 (fn := Try.f50) (c := codeOf Try.f50) (S := ofL S50) (L := lofL L50) hS50 (by kernel_rfl) (by kernel_rfl) (inlOK _) (all_eq (by kernel_rfl : subsOf (E.info 50).keep (codeOf Try.f50) = [.loop (body Try.f50 4)]) (all_cons (loopOK_of (mk := 51000004) (sl := [0, 10, 11, 12]) (ss := [([0, 10, 11, 12], lsl50r4)]) (by kernel_rfl) (by kernel_rfl) (all_cons l50r4v (all_nil))) (all_nil))) (by kernel_rfl) h4.of

abbrev Sl120r2 : List (Nat × Pat × Sp) := []
theorem hSl120r2 : SpecOK E (ofL Sl120r2) := specOK_nil
abbrev Ll120r2 : List (Nat × List Nat × Pat × LSp) := []
def lsl120r2 : LSp := fun vs σ K => asCons vs fun a1 r1 => asD (.int .i64) a1 fun s1 => asCons r1 fun a2 r2 => asP (.ptr 0 0 []) a2 <| asCons r2 fun a3 r3 => asD (.sl (.pair (.pair (.int .i64) (.pair (.int .i64) (.pair (.int .i64) (.pair (.int .i64) (.pair (.int .i64) .unit))))) (.pair (.int .i64) .unit))) a3 fun s2 => asCons r3 fun a4 r4 => asD (.int .i64) a4 fun s3 => asCons r4 fun a5 r5 => asD (.int .i64) a5 fun s4 => asNil r5 <| asCons σ fun a6 r6 => asOne (.pair (.int .i64) (.pair (.sl (.pair (.pair (.int .i64) (.pair (.int .i64) (.pair (.int .i64) (.pair (.int .i64) (.pair (.int .i64) .unit))))) (.pair (.int .i64) .unit))) (.pair (.sl (.pair (.int .i64) (.pair (.int .i64) .unit))) (.pair (.sl (.pair (.int .i64) (.pair .bool (.pair (.sl (.int .i64)) (.pair (.int .i64) .unit))))) (.pair (.int .i64) .unit))))) a6 fun a7 => asD (.pair (.int .i64) (.pair (.sl (.pair (.pair (.int .i64) (.pair (.int .i64) (.pair (.int .i64) (.pair (.int .i64) (.pair (.int .i64) .unit))))) (.pair (.int .i64) .unit))) (.pair (.sl (.pair (.int .i64) (.pair (.int .i64) .unit))) (.pair (.sl (.pair (.int .i64) (.pair .bool (.pair (.sl (.int .i64)) (.pair (.int .i64) .unit))))) (.pair (.int .i64) .unit))))) a7 fun s5 => asNil r6 <| l120r2 (fun z1 => K .ret [(1, .undef), (2, .undef), (4, I z1)] []) (fun z1 z2 => K (.exit 0) [(1, I z1), (2, .ptr 0 0 []), (4, .undef)] [.one (.pair (.int .i64) (.pair (.sl (.pair (.pair (.int .i64) (.pair (.int .i64) (.pair (.int .i64) (.pair (.int .i64) (.pair (.int .i64) .unit))))) (.pair (.int .i64) .unit))) (.pair (.sl (.pair (.int .i64) (.pair (.int .i64) .unit))) (.pair (.sl (.pair (.int .i64) (.pair .bool (.pair (.sl (.int .i64)) (.pair (.int .i64) .unit))))) (.pair (.int .i64) .unit))))) (.d (.pair (.int .i64) (.pair (.sl (.pair (.pair (.int .i64) (.pair (.int .i64) (.pair (.int .i64) (.pair (.int .i64) (.pair (.int .i64) .unit))))) (.pair (.int .i64) .unit))) (.pair (.sl (.pair (.int .i64) (.pair (.int .i64) .unit))) (.pair (.sl (.pair (.int .i64) (.pair .bool (.pair (.sl (.int .i64)) (.pair (.int .i64) .unit))))) (.pair (.int .i64) .unit))))) z2)]) s1 s2 s3 s4 s5
theorem l120r2v : LoopV E (inlF (PA (ACall E)) E 8) (E.info 120).keep 0 Try.f120.ntmps 121000002 (body Try.f120 2) ([1, 2, 14, 15, 16], lsl120r2) := by
  intro vs σ K (h0 : lsl120r2 vs σ K)
  unfold lsl120r2 at h0
  obtain ⟨a1, r1, rfl, h1⟩ := asCons_inv h0; clear h0
  obtain ⟨s1, rfl, h2⟩ := asD_inv h1; clear h1
  obtain ⟨a2, r2, rfl, h3⟩ := asCons_inv h2; clear h2
  obtain ⟨rfl, h4⟩ := asP_inv h3; clear h3
  obtain ⟨a3, r3, rfl, h5⟩ := asCons_inv h4; clear h4
  obtain ⟨s2, rfl, h6⟩ := asD_inv h5; clear h5
  obtain ⟨a4, r4, rfl, h7⟩ := asCons_inv h6; clear h6
  obtain ⟨s3, rfl, h8⟩ := asD_inv h7; clear h7
  obtain ⟨a5, r5, rfl, h9⟩ := asCons_inv h8; clear h8
  obtain ⟨s4, rfl, h10⟩ := asD_inv h9; clear h9
  obtain ⟨rfl, h11⟩ := asNil_inv h10; clear h10
  obtain ⟨a6, r6, rfl, h12⟩ := asCons_inv h11; clear h11
  obtain ⟨a7, rfl, h13⟩ := asOne_inv h12; clear h12
  obtain ⟨s5, rfl, h14⟩ := asD_inv h13; clear h13
  obtain ⟨rfl, h15⟩ := asNil_inv h14; clear h14
  intro J hJ
  have hp : ∀ c' ∈ subsOf (E.info 120).keep (body Try.f120 2), SubOK E (inlF (PA (ACall E)) E 8) (E.info 120).keep 0 Try.f120.ntmps (lofL Ll120r2) c' := all_eq (by kernel_rfl : subsOf (E.info 120).keep (body Try.f120 2) = []) (all_nil)
  exact h15.of (fun s1 s2 s3 s4 s5 => J [(121000002, .undef), (1, I s1), (2, .ptr 0 0 []), (14, .d (.sl (.pair (.pair (.int .i64) (.pair (.int .i64) (.pair (.int .i64) (.pair (.int .i64) (.pair (.int .i64) .unit))))) (.pair (.int .i64) .unit))) s2), (15, I s3), (16, I s4)] [.one (.pair (.int .i64) (.pair (.sl (.pair (.pair (.int .i64) (.pair (.int .i64) (.pair (.int .i64) (.pair (.int .i64) (.pair (.int .i64) .unit))))) (.pair (.int .i64) .unit))) (.pair (.sl (.pair (.int .i64) (.pair (.int .i64) .unit))) (.pair (.sl (.pair (.int .i64) (.pair .bool (.pair (.sl (.int .i64)) (.pair (.int .i64) .unit))))) (.pair (.int .i64) .unit))))) (.d (.pair (.int .i64) (.pair (.sl (.pair (.pair (.int .i64) (.pair (.int .i64) (.pair (.int .i64) (.pair (.int .i64) (.pair (.int .i64) .unit))))) (.pair (.int .i64) .unit))) (.pair (.sl (.pair (.int .i64) (.pair (.int .i64) .unit))) (.pair (.sl (.pair (.int .i64) (.pair .bool (.pair (.sl (.int .i64)) (.pair (.int .i64) .unit))))) (.pair (.int .i64) .unit))))) s5)]) (fun s1 s2 s3 s4 s5 hb => loop_round2 (S := ofL Sl120r2) (L := lofL Ll120r2) hSl120r2 (inlOK _) hp hJ (by kernel_rfl) hb)

abbrev Sl120r9 : List (Nat × Pat × Sp) := []
theorem hSl120r9 : SpecOK E (ofL Sl120r9) := specOK_nil
abbrev Ll120r9 : List (Nat × List Nat × Pat × LSp) := []
def lsl120r9 : LSp := fun vs σ K => asCons vs fun a1 r1 => asD (.int .i64) a1 fun s1 => asCons r1 fun a2 r2 => asP (.ptr 0 0 []) a2 <| asCons r2 fun a3 r3 => asD (.int .i64) a3 fun s2 => asCons r3 fun a4 r4 => asD (.sl (.pair (.int .i64) (.pair (.int .i64) .unit))) a4 fun s3 => asCons r4 fun a5 r5 => asD (.int .i64) a5 fun s4 => asCons r5 fun a6 r6 => asD (.int .i64) a6 fun s5 => asNil r6 <| asCons σ fun a7 r7 => asOne (.pair (.int .i64) (.pair (.sl (.pair (.pair (.int .i64) (.pair (.int .i64) (.pair (.int .i64) (.pair (.int .i64) (.pair (.int .i64) .unit))))) (.pair (.int .i64) .unit))) (.pair (.sl (.pair (.int .i64) (.pair (.int .i64) .unit))) (.pair (.sl (.pair (.int .i64) (.pair .bool (.pair (.sl (.int .i64)) (.pair (.int .i64) .unit))))) (.pair (.int .i64) .unit))))) a7 fun a8 => asD (.pair (.int .i64) (.pair (.sl (.pair (.pair (.int .i64) (.pair (.int .i64) (.pair (.int .i64) (.pair (.int .i64) (.pair (.int .i64) .unit))))) (.pair (.int .i64) .unit))) (.pair (.sl (.pair (.int .i64) (.pair (.int .i64) .unit))) (.pair (.sl (.pair (.int .i64) (.pair .bool (.pair (.sl (.int .i64)) (.pair (.int .i64) .unit))))) (.pair (.int .i64) .unit))))) a8 fun s6 => asNil r7 <| l120r9 (fun z1 => K .ret [(2, .undef), (4, I z1)] []) (fun z1 => K (.exit 2) [(2, .ptr 0 0 []), (4, .undef)] [.one (.pair (.int .i64) (.pair (.sl (.pair (.pair (.int .i64) (.pair (.int .i64) (.pair (.int .i64) (.pair (.int .i64) (.pair (.int .i64) .unit))))) (.pair (.int .i64) .unit))) (.pair (.sl (.pair (.int .i64) (.pair (.int .i64) .unit))) (.pair (.sl (.pair (.int .i64) (.pair .bool (.pair (.sl (.int .i64)) (.pair (.int .i64) .unit))))) (.pair (.int .i64) .unit))))) (.d (.pair (.int .i64) (.pair (.sl (.pair (.pair (.int .i64) (.pair (.int .i64) (.pair (.int .i64) (.pair (.int .i64) (.pair (.int .i64) .unit))))) (.pair (.int .i64) .unit))) (.pair (.sl (.pair (.int .i64) (.pair (.int .i64) .unit))) (.pair (.sl (.pair (.int .i64) (.pair .bool (.pair (.sl (.int .i64)) (.pair (.int .i64) .unit))))) (.pair (.int .i64) .unit))))) z1)]) s1 s2 s3 s4 s5 s6
theorem l120r9v : LoopV E (inlF (PA (ACall E)) E 8) (E.info 120).keep 0 Try.f120.ntmps 121000009 (body Try.f120 9) ([1, 2, 7, 28, 29, 30], lsl120r9) := by
  intro vs σ K (h0 : lsl120r9 vs σ K)
  unfold lsl120r9 at h0
  obtain ⟨a1, r1, rfl, h1⟩ := asCons_inv h0; clear h0
  obtain ⟨s1, rfl, h2⟩ := asD_inv h1; clear h1
  obtain ⟨a2, r2, rfl, h3⟩ := asCons_inv h2; clear h2
  obtain ⟨rfl, h4⟩ := asP_inv h3; clear h3
  obtain ⟨a3, r3, rfl, h5⟩ := asCons_inv h4; clear h4
  obtain ⟨s2, rfl, h6⟩ := asD_inv h5; clear h5
  obtain ⟨a4, r4, rfl, h7⟩ := asCons_inv h6; clear h6
  obtain ⟨s3, rfl, h8⟩ := asD_inv h7; clear h7
  obtain ⟨a5, r5, rfl, h9⟩ := asCons_inv h8; clear h8
  obtain ⟨s4, rfl, h10⟩ := asD_inv h9; clear h9
  obtain ⟨a6, r6, rfl, h11⟩ := asCons_inv h10; clear h10
  obtain ⟨s5, rfl, h12⟩ := asD_inv h11; clear h11
  obtain ⟨rfl, h13⟩ := asNil_inv h12; clear h12
  obtain ⟨a7, r7, rfl, h14⟩ := asCons_inv h13; clear h13
  obtain ⟨a8, rfl, h15⟩ := asOne_inv h14; clear h14
  obtain ⟨s6, rfl, h16⟩ := asD_inv h15; clear h15
  obtain ⟨rfl, h17⟩ := asNil_inv h16; clear h16
  intro J hJ
  have hp : ∀ c' ∈ subsOf (E.info 120).keep (body Try.f120 9), SubOK E (inlF (PA (ACall E)) E 8) (E.info 120).keep 0 Try.f120.ntmps (lofL Ll120r9) c' := all_eq (by kernel_rfl : subsOf (E.info 120).keep (body Try.f120 9) = []) (all_nil)
  exact h17.of (fun s1 s2 s3 s4 s5 s6 => J [(121000009, .undef), (1, I s1), (2, .ptr 0 0 []), (7, I s2), (28, .d (.sl (.pair (.int .i64) (.pair (.int .i64) .unit))) s3), (29, I s4), (30, I s5)] [.one (.pair (.int .i64) (.pair (.sl (.pair (.pair (.int .i64) (.pair (.int .i64) (.pair (.int .i64) (.pair (.int .i64) (.pair (.int .i64) .unit))))) (.pair (.int .i64) .unit))) (.pair (.sl (.pair (.int .i64) (.pair (.int .i64) .unit))) (.pair (.sl (.pair (.int .i64) (.pair .bool (.pair (.sl (.int .i64)) (.pair (.int .i64) .unit))))) (.pair (.int .i64) .unit))))) (.d (.pair (.int .i64) (.pair (.sl (.pair (.pair (.int .i64) (.pair (.int .i64) (.pair (.int .i64) (.pair (.int .i64) (.pair (.int .i64) .unit))))) (.pair (.int .i64) .unit))) (.pair (.sl (.pair (.int .i64) (.pair (.int .i64) .unit))) (.pair (.sl (.pair (.int .i64) (.pair .bool (.pair (.sl (.int .i64)) (.pair (.int .i64) .unit))))) (.pair (.int .i64) .unit))))) s6)]) (fun s1 s2 s3 s4 s5 s6 hb => loop_round2 (S := ofL Sl120r9) (L := lofL Ll120r9) hSl120r9 (inlOK _) hp hJ (by kernel_rfl) hb)

abbrev Sl120r20 : List (Nat × Pat × Sp) := []
theorem hSl120r20 : SpecOK E (ofL Sl120r20) := specOK_nil
abbrev Ll120r20 : List (Nat × List Nat × Pat × LSp) := []
def lsl120r20 : LSp := fun vs σ K => asCons vs fun a1 r1 => asP (.ptr 0 0 []) a1 <| asCons r1 fun a2 r2 => asD (.int .i64) a2 fun s1 => asCons r2 fun a3 r3 => asD (.sl (.pair (.int .i64) (.pair .bool (.pair (.sl (.int .i64)) (.pair (.int .i64) .unit))))) a3 fun s2 => asCons r3 fun a4 r4 => asD (.int .i64) a4 fun s3 => asCons r4 fun a5 r5 => asD (.int .i64) a5 fun s4 => asNil r5 <| asCons σ fun a6 r6 => asOne (.pair (.int .i64) (.pair (.sl (.pair (.pair (.int .i64) (.pair (.int .i64) (.pair (.int .i64) (.pair (.int .i64) (.pair (.int .i64) .unit))))) (.pair (.int .i64) .unit))) (.pair (.sl (.pair (.int .i64) (.pair (.int .i64) .unit))) (.pair (.sl (.pair (.int .i64) (.pair .bool (.pair (.sl (.int .i64)) (.pair (.int .i64) .unit))))) (.pair (.int .i64) .unit))))) a6 fun a7 => asD (.pair (.int .i64) (.pair (.sl (.pair (.pair (.int .i64) (.pair (.int .i64) (.pair (.int .i64) (.pair (.int .i64) (.pair (.int .i64) .unit))))) (.pair (.int .i64) .unit))) (.pair (.sl (.pair (.int .i64) (.pair (.int .i64) .unit))) (.pair (.sl (.pair (.int .i64) (.pair .bool (.pair (.sl (.int .i64)) (.pair (.int .i64) .unit))))) (.pair (.int .i64) .unit))))) a7 fun s5 => asNil r6 <| l120r20 (fun z1 => K .ret [(4, I z1)] []) (K (.exit 4) [(4, .undef)] []) s1 s2 s3 s4 s5
theorem l120r20v : LoopV E (inlF (PA (ACall E)) E 8) (E.info 120).keep 0 Try.f120.ntmps 121000020 (body Try.f120 20) ([2, 7, 88, 89, 90], lsl120r20) := by
  intro vs σ K (h0 : lsl120r20 vs σ K)
  unfold lsl120r20 at h0
  obtain ⟨a1, r1, rfl, h1⟩ := asCons_inv h0; clear h0
  obtain ⟨rfl, h2⟩ := asP_inv h1; clear h1
  obtain ⟨a2, r2, rfl, h3⟩ := asCons_inv h2; clear h2
  obtain ⟨s1, rfl, h4⟩ := asD_inv h3; clear h3
  obtain ⟨a3, r3, rfl, h5⟩ := asCons_inv h4; clear h4
  obtain ⟨s2, rfl, h6⟩ := asD_inv h5; clear h5
  obtain ⟨a4, r4, rfl, h7⟩ := asCons_inv h6; clear h6
  obtain ⟨s3, rfl, h8⟩ := asD_inv h7; clear h7
  obtain ⟨a5, r5, rfl, h9⟩ := asCons_inv h8; clear h8
  obtain ⟨s4, rfl, h10⟩ := asD_inv h9; clear h9
  obtain ⟨rfl, h11⟩ := asNil_inv h10; clear h10
  obtain ⟨a6, r6, rfl, h12⟩ := asCons_inv h11; clear h11
  obtain ⟨a7, rfl, h13⟩ := asOne_inv h12; clear h12
  obtain ⟨s5, rfl, h14⟩ := asD_inv h13; clear h13
  obtain ⟨rfl, h15⟩ := asNil_inv h14; clear h14
  intro J hJ
  have hp : ∀ c' ∈ subsOf (E.info 120).keep (body Try.f120 20), SubOK E (inlF (PA (ACall E)) E 8) (E.info 120).keep 0 Try.f120.ntmps (lofL Ll120r20) c' := all_eq (by kernel_rfl : subsOf (E.info 120).keep (body Try.f120 20) = []) (all_nil)
  exact h15.of (fun s1 s2 s3 s4 s5 => J [(121000020, .undef), (2, .ptr 0 0 []), (7, I s1), (88, .d (.sl (.pair (.int .i64) (.pair .bool (.pair (.sl (.int .i64)) (.pair (.int .i64) .unit))))) s2), (89, I s3), (90, I s4)] [.one (.pair (.int .i64) (.pair (.sl (.pair (.pair (.int .i64) (.pair (.int .i64) (.pair (.int .i64) (.pair (.int .i64) (.pair (.int .i64) .unit))))) (.pair (.int .i64) .unit))) (.pair (.sl (.pair (.int .i64) (.pair (.int .i64) .unit))) (.pair (.sl (.pair (.int .i64) (.pair .bool (.pair (.sl (.int .i64)) (.pair (.int .i64) .unit))))) (.pair (.int .i64) .unit))))) (.d (.pair (.int .i64) (.pair (.sl (.pair (.pair (.int .i64) (.pair (.int .i64) (.pair (.int .i64) (.pair (.int .i64) (.pair (.int .i64) .unit))))) (.pair (.int .i64) .unit))) (.pair (.sl (.pair (.int .i64) (.pair (.int .i64) .unit))) (.pair (.sl (.pair (.int .i64) (.pair .bool (.pair (.sl (.int .i64)) (.pair (.int .i64) .unit))))) (.pair (.int .i64) .unit))))) s5)]) (fun s1 s2 s3 s4 s5 hb => loop_round2 (S := ofL Sl120r20) (L := lofL Ll120r20) hSl120r20 (inlOK _) hp hJ (by kernel_rfl) hb)

abbrev S120 : List (Nat × Pat × Sp) := []
theorem hS120 : SpecOK E (ofL S120) := specOK_nil
abbrev L120 : List (Nat × List Nat × Pat × LSp) := [(121000002, [1, 2, 14, 15, 16], none, lsl120r2), (121000009, [1, 2, 7, 28, 29, 30], none, lsl120r9), (121000020, [2, 7, 88, 89, 90], none, lsl120r20)]
def sp120 : Sp := fun args τ K => asCons args fun a1 r1 => asD (.pair (.int .i64) (.pair (.sl (.pair (.pair (.int .i64) (.pair (.int .i64) (.pair (.int .i64) (.pair (.int .i64) (.pair (.int .i64) .unit))))) (.pair (.int .i64) .unit))) (.pair (.sl (.pair (.int .i64) (.pair (.int .i64) .unit))) (.pair (.sl (.pair (.int .i64) (.pair .bool (.pair (.sl (.int .i64)) (.pair (.int .i64) .unit))))) (.pair (.int .i64) .unit))))) a1 fun x1 => asCons r1 fun a2 r2 => asD (.int .i64) a2 fun x2 => asNil r2 <| asNil τ <| c120 x1 x2 (fun z1 => K (I z1) [])
theorem h120 : ∀ args τ K, sp120 args τ K → ACall E 120 args τ K := by
  intro args τ K h0
  unfold sp120 at h0
  obtain ⟨a1, r1, rfl, h1⟩ := asCons_inv h0; clear h0
  obtain ⟨x1, rfl, h2⟩ := asD_inv h1; clear h1
  obtain ⟨a2, r2, rfl, h3⟩ := asCons_inv h2; clear h2
  obtain ⟨x2, rfl, h4⟩ := asD_inv h3; clear h3
  obtain ⟨rfl, h5⟩ := asNil_inv h4; clear h4
  obtain ⟨rfl, h6⟩ := asNil_inv h5; clear h5
  exact ACall.spec2 (fn := Try.f120) (c := codeOf Try.f120) (S := ofL S120) (L := lofL L120) hS120 (by kernel_rfl) (by kernel_rfl) (inlOK _) (all_eq (by kernel_rfl : subsOf (E.info 120).keep (codeOf Try.f120) = [.loop (body Try.f120 2), .loop (body Try.f120 9), .loop (body Try.f120 20)]) (all_cons (loopOK_of (mk := 121000002) (sl := [1, 2, 14, 15, 16]) (ss := [([1, 2, 14, 15, 16], lsl120r2)]) (by kernel_rfl) (by kernel_rfl) (all_cons l120r2v (all_nil))) (all_cons (loopOK_of (mk := 121000009) (sl := [1, 2, 7, 28, 29, 30]) (ss := [([1, 2, 7, 28, 29, 30], lsl120r9)]) (by kernel_rfl) (by kernel_rfl) (all_cons l120r9v (all_nil))) (all_cons (loopOK_of (mk := 121000020) (sl := [2, 7, 88, 89, 90]) (ss := [([2, 7, 88, 89, 90], lsl120r20)]) (by kernel_rfl) (by kernel_rfl) (all_cons l120r20v (all_nil))) (all_nil))))) (by kernel_rfl) h6.of

abbrev Sl56r4 : List (Nat × Pat × Sp) := [(50, none, sp50), (120, none, sp120)]
theorem hSl56r4 : SpecOK E (ofL Sl56r4) := specOK_cons h50 (specOK_cons h120 (specOK_nil))
abbrev Ll56r4 : List (Nat × List Nat × Pat × LSp) := []
def lsl56r4 : LSp := fun vs σ K => asCons vs fun a1 r1 => asD (.sl (.pair (.int .i64) (.pair (.sl (.pair (.pair (.int .i64) (.pair (.int .i64) (.pair (.int .i64) (.pair (.int .i64) (.pair (.int .i64) .unit))))) (.pair (.int .i64) .unit))) (.pair (.sl (.pair (.int .i64) (.pair (.int .i64) .unit))) (.pair (.sl (.pair (.int .i64) (.pair .bool (.pair (.sl (.int .i64)) (.pair (.int .i64) .unit))))) (.pair (.int .i64) .unit)))))) a1 fun s1 => asCons r1 fun a2 r2 => asD (.sl (.pair (.int .i64) (.pair (.sl (.pair (.pair (.int .i64) (.pair (.int .i64) (.pair (.int .i64) (.pair (.int .i64) (.pair (.int .i64) .unit))))) (.pair (.int .i64) .unit))) (.pair (.sl (.pair (.int .i64) (.pair (.int .i64) .unit))) (.pair (.sl (.pair (.int .i64) (.pair .bool (.pair (.sl (.int .i64)) (.pair (.int .i64) .unit))))) (.pair (.int .i64) .unit)))))) a2 fun s2 => asCons r2 fun a3 r3 => asD (.int .i64) a3 fun s3 => asCons r3 fun a4 r4 => asD (.int .i64) a4 fun s4 => asNil r4 <| asNil σ <| l56r4 (fun z1 => K .ret [(2, I z1)] []) (K (.exit 0) [(2, .undef)] []) s1 s2 s3 s4
theorem l56r4v : LoopV E (inlF (PA (ACall E)) E 8) (E.info 56).keep 0 Try.f56.ntmps 57000004 (body Try.f56 4) ([0, 10, 11, 12], lsl56r4) := by
  intro vs σ K (h0 : lsl56r4 vs σ K)
  unfold lsl56r4 at h0
  obtain ⟨a1, r1, rfl, h1⟩ := asCons_inv h0; clear h0
  obtain ⟨s1, rfl, h2⟩ := asD_inv h1; clear h1
  obtain ⟨a2, r2, rfl, h3⟩ := asCons_inv h2; clear h2
  obtain ⟨s2, rfl, h4⟩ := asD_inv h3; clear h3
  obtain ⟨a3, r3, rfl, h5⟩ := asCons_inv h4; clear h4
  obtain ⟨s3, rfl, h6⟩ := asD_inv h5; clear h5
  obtain ⟨a4, r4, rfl, h7⟩ := asCons_inv h6; clear h6
  obtain ⟨s4, rfl, h8⟩ := asD_inv h7; clear h7
  obtain ⟨rfl, h9⟩ := asNil_inv h8; clear h8
  obtain ⟨rfl, h10⟩ := asNil_inv h9; clear h9
  intro J hJ
  have hp : ∀ c' ∈ subsOf (E.info 56).keep (body Try.f56 4), SubOK E (inlF (PA (ACall E)) E 8) (E.info 56).keep 0 Try.f56.ntmps (lofL Ll56r4) c' := all_eq (by kernel_rfl : subsOf (E.info 56).keep (body Try.f56 4) = []) (all_nil)
  exact h10.of (fun s1 s2 s3 s4 => J [(57000004, .undef), (0, .d (.sl (.pair (.int .i64) (.pair (.sl (.pair (.pair (.int .i64) (.pair (.int .i64) (.pair (.int .i64) (.pair (.int .i64) (.pair (.int .i64) .unit))))) (.pair (.int .i64) .unit))) (.pair (.sl (.pair (.int .i64) (.pair (.int .i64) .unit))) (.pair (.sl (.pair (.int .i64) (.pair .bool (.pair (.sl (.int .i64)) (.pair (.int .i64) .unit))))) (.pair (.int .i64) .unit)))))) s1), (10, .d (.sl (.pair (.int .i64) (.pair (.sl (.pair (.pair (.int .i64) (.pair (.int .i64) (.pair (.int .i64) (.pair (.int .i64) (.pair (.int .i64) .unit))))) (.pair (.int .i64) .unit))) (.pair (.sl (.pair (.int .i64) (.pair (.int .i64) .unit))) (.pair (.sl (.pair (.int .i64) (.pair .bool (.pair (.sl (.int .i64)) (.pair (.int .i64) .unit))))) (.pair (.int .i64) .unit)))))) s2), (11, I s3), (12, I s4)] []) (fun s1 s2 s3 s4 hb => loop_round2 (S := ofL Sl56r4) (L := lofL Ll56r4) hSl56r4 (inlOK _) hp hJ (by kernel_rfl) hb)

abbrev S56 : List (Nat × Pat × Sp) := []
theorem hS56 : SpecOK E (ofL S56) := specOK_nil
abbrev L56 : List (Nat × List Nat × Pat × LSp) := [(57000004, [0, 10, 11, 12], none, lsl56r4)]
def sp56 : Sp := fun args τ K => asCons args fun a1 r1 => asD (.sl (.pair (.int .i64) (.pair (.sl (.pair (.pair (.int .i64) (.pair (.int .i64) (.pair (.int .i64) (.pair (.int .i64) (.pair (.int .i64) .unit))))) (.pair (.int .i64) .unit))) (.pair (.sl (.pair (.int .i64) (.pair (.int .i64) .unit))) (.pair (.sl (.pair (.int .i64) (.pair .bool (.pair (.sl (.int .i64)) (.pair (.int .i64) .unit))))) (.pair (.int .i64) .unit)))))) a1 fun x1 => asNil r1 <| asNil τ <| c56 x1 (fun z1 => K (I z1) [])
theorem h56 : ∀ args τ K, sp56 args τ K → ACall E 56 args τ K := by
  intro args τ K h0
  unfold sp56 at h0
  obtain ⟨a1, r1, rfl, h1⟩ := asCons_inv h0; clear h0
  obtain ⟨x1, rfl, h2⟩ := asD_inv h1; clear h1
  obtain ⟨rfl, h3⟩ := asNil_inv h2; clear h2
  obtain ⟨rfl, h4⟩ := asNil_inv h3; clear h3
  exact ACall.spec2 (fn := Try.f56) (c := codeOf Try.f56) (S := ofL S56) (L := lofL L56) hS56 (by kernel_rfl) (by kernel_rfl) (inlOK _) (all_eq (by kernel_rfl : subsOf (E.info 56).keep (codeOf Try.f56) = [.loop (body Try.f56 4)]) (all_cons (loopOK_of (mk := 57000004) (sl := [0, 10, 11, 12]) (ss := [([0, 10, 11, 12], lsl56r4)]) (by kernel_rfl) (by kernel_rfl) (all_cons l56r4v (all_nil))) (all_nil))) (by kernel_rfl) h4.of

abbrev Sl147r4 : List (Nat × Pat × Sp) := []
theorem hSl147r4 : SpecOK E (ofL Sl147r4) := specOK_nil
abbrev Ll147r4 : List (Nat × List Nat × Pat × LSp) := []
def lsl147r4 : LSp := fun vs σ K => asCons vs fun a1 r1 => asD (.sl (.pair (.pair (.int .i64) (.pair (.int .i64) (.pair (.int .i64) (.pair (.int .i64) (.pair (.int .i64) .unit))))) (.pair (.int .i64) .unit))) a1 fun s1 => asCons r1 fun a2 r2 => asD (.sl (.pair (.pair (.int .i64) (.pair (.int .i64) (.pair (.int .i64) (.pair (.int .i64) (.pair (.int .i64) .unit))))) (.pair (.int .i64) .unit))) a2 fun s2 => asCons r2 fun a3 r3 => asD (.int .i64) a3 fun s3 => asCons r3 fun a4 r4 => asD (.int .i64) a4 fun s4 => asNil r4 <| asNil σ <| l147r4 (fun z1 => K .ret [(4, B z1)] []) (K (.exit 0) [(4, .undef)] []) s1 s2 s3 s4
theorem l147r4v : LoopV E (inlF (PA (ACall E)) E 8) (E.info 147).keep 0 Try.f147.ntmps 148000004 (body Try.f147 4) ([0, 1, 12, 13], lsl147r4) := by
  intro vs σ K (h0 : lsl147r4 vs σ K)
  unfold lsl147r4 at h0
  obtain ⟨a1, r1, rfl, h1⟩ := asCons_inv h0; clear h0
  obtain ⟨s1, rfl, h2⟩ := asD_inv h1; clear h1
  obtain ⟨a2, r2, rfl, h3⟩ := asCons_inv h2; clear h2
  obtain ⟨s2, rfl, h4⟩ := asD_inv h3; clear h3
  obtain ⟨a3, r3, rfl, h5⟩ := asCons_inv h4; clear h4
  obtain ⟨s3, rfl, h6⟩ := asD_inv h5; clear h5
  obtain ⟨a4, r4, rfl, h7⟩ := asCons_inv h6; clear h6
  obtain ⟨s4, rfl, h8⟩ := asD_inv h7; clear h7
  obtain ⟨rfl, h9⟩ := asNil_inv h8; clear h8
  obtain ⟨rfl, h10⟩ := asNil_inv h9; clear h9
  intro J hJ
  have hp : ∀ c' ∈ subsOf (E.info 147).keep (body Try.f147 4), SubOK E (inlF (PA (ACall E)) E 8) (E.info 147).keep 0 Try.f147.ntmps (lofL Ll147r4) c' := all_eq (by kernel_rfl : subsOf (E.info 147).keep (body Try.f147 4) = []) (all_nil)
  exact h10.of (fun s1 s2 s3 s4 => J [(148000004, .undef), (0, .d (.sl (.pair (.pair (.int .i64) (.pair (.int .i64) (.pair (.int .i64) (.pair (.int .i64) (.pair (.int .i64) .unit))))) (.pair (.int .i64) .unit))) s1), (1, .d (.sl (.pair (.pair (.int .i64) (.pair (.int .i64) (.pair (.int .i64) (.pair (.int .i64) (.pair (.int .i64) .unit))))) (.pair (.int .i64) .unit))) s2), (12, I s3), (13, I s4)] []) (fun s1 s2 s3 s4 hb => loop_round2 (S := ofL Sl147r4) (L := lofL Ll147r4) hSl147r4 (inlOK _) hp hJ (by kernel_rfl) hb)

abbrev S147 : List (Nat × Pat × Sp) := []
theorem hS147 : SpecOK E (ofL S147) := specOK_nil
abbrev L147 : List (Nat × List Nat × Pat × LSp) := [(148000004, [0, 1, 12, 13], none, lsl147r4)]
def sp147 : Sp := fun args τ K => asCons args fun a1 r1 => asD (.sl (.pair (.pair (.int .i64) (.pair (.int .i64) (.pair (.int .i64) (.pair (.int .i64) (.pair (.int .i64) .unit))))) (.pair (.int .i64) .unit))) a1 fun x1 => asCons r1 fun a2 r2 => asD (.sl (.pair (.pair (.int .i64) (.pair (.int .i64) (.pair (.int .i64) (.pair (.int .i64) (.pair (.int .i64) .unit))))) (.pair (.int .i64) .unit))) a2 fun x2 => asNil r2 <| asNil τ <| c147 x1 x2 (fun z1 => K (B z1) [])
theorem h147 : ∀ args τ K, sp147 args τ K → ACall E 147 args τ K := by
  intro args τ K h0
  unfold sp147 at h0
  obtain ⟨a1, r1, rfl, h1⟩ := asCons_inv h0; clear h0
  obtain ⟨x1, rfl, h2⟩ := asD_inv h1; clear h1
  obtain ⟨a2, r2, rfl, h3⟩ := asCons_inv h2; clear h2
  obtain ⟨x2, rfl, h4⟩ := asD_inv h3; clear h3
  obtain ⟨rfl, h5⟩ := asNil_inv h4; clear h4
  obtain ⟨rfl, h6⟩ := asNil_inv h5; clear h5
  exact ACall.spec2 (fn := Try.f147) (c := codeOf Try.f147) (S := ofL S147) (L := lofL L147) hS147 (by kernel_rfl) (by kernel_rfl) (inlOK _) (all_eq (by kernel_rfl : subsOf (E.info 147).keep (codeOf Try.f147) = [.loop (body Try.f147 4)]) (all_cons (loopOK_of (mk := 148000004) (sl := [0, 1, 12, 13]) (ss := [([0, 1, 12, 13], lsl147r4)]) (by kernel_rfl) (by kernel_rfl) (all_cons l147r4v (all_nil))) (all_nil))) (by kernel_rfl) h6.of

abbrev Sl119r4 : List (Nat × Pat × Sp) := []
theorem hSl119r4 : SpecOK E (ofL Sl119r4) := specOK_nil
abbrev Ll119r4 : List (Nat × List Nat × Pat × LSp) := []
def lsl119r4 : LSp := fun vs σ K => asCons vs fun a1 r1 => asD (.sl (.int .i64)) a1 fun s1 => asCons r1 fun a2 r2 => asD (.sl (.int .i64)) a2 fun s2 => asCons r2 fun a3 r3 => asD (.int .i64) a3 fun s3 => asCons r3 fun a4 r4 => asD (.int .i64) a4 fun s4 => asNil r4 <| asNil σ <| l119r4 (fun z1 => K .ret [(4, B z1)] []) (K (.exit 0) [(4, .undef)] []) s1 s2 s3 s4
theorem l119r4v : LoopV E (inlF (PA (ACall E)) E 8) (E.info 119).keep 0 Try.f119.ntmps 120000004 (body Try.f119 4) ([0, 1, 12, 13], lsl119r4) := by
  intro vs σ K (h0 : lsl119r4 vs σ K)
  unfold lsl119r4 at h0
  obtain ⟨a1, r1, rfl, h1⟩ := asCons_inv h0; clear h0
  obtain ⟨s1, rfl, h2⟩ := asD_inv h1; clear h1
  obtain ⟨a2, r2, rfl, h3⟩ := asCons_inv h2; clear h2
  obtain ⟨s2, rfl, h4⟩ := asD_inv h3; clear h3
  obtain ⟨a3, r3, rfl, h5⟩ := asCons_inv h4; clear h4
  obtain ⟨s3, rfl, h6⟩ := asD_inv h5; clear h5
  obtain ⟨a4, r4, rfl, h7⟩ := asCons_inv h6; clear h6
  obtain ⟨s4, rfl, h8⟩ := asD_inv h7; clear h7
  obtain ⟨rfl, h9⟩ := asNil_inv h8; clear h8
  obtain ⟨rfl, h10⟩ := asNil_inv h9; clear h9
  intro J hJ
  have hp : ∀ c' ∈ subsOf (E.info 119).keep (body Try.f119 4), SubOK E (inlF (PA (ACall E)) E 8) (E.info 119).keep 0 Try.f119.ntmps (lofL Ll119r4) c' := all_eq (by kernel_rfl : subsOf (E.info 119).keep (body Try.f119 4) = []) (all_nil)
  exact h10.of (fun s1 s2 s3 s4 => J [(120000004, .undef), (0, .d (.sl (.int .i64)) s1), (1, .d (.sl (.int .i64)) s2), (12, I s3), (13, I s4)] []) (fun s1 s2 s3 s4 hb => loop_round2 (S := ofL Sl119r4) (L := lofL Ll119r4) hSl119r4 (inlOK _) hp hJ (by kernel_rfl) hb)

abbrev S119 : List (Nat × Pat × Sp) := []
theorem hS119 : SpecOK E (ofL S119) := specOK_nil
abbrev L119 : List (Nat × List Nat × Pat × LSp) := [(120000004, [0, 1, 12, 13], none, lsl119r4)]
def sp119 : Sp := fun args τ K => asCons args fun a1 r1 => asD (.sl (.int .i64)) a1 fun x1 => asCons r1 fun a2 r2 => asD (.sl (.int .i64)) a2 fun x2 => asNil r2 <| asNil τ <| c119 x1 x2 (fun z1 => K (B z1) [])
theorem h119 : ∀ args τ K, sp119 args τ K → ACall E 119 args τ K := by
  intro args τ K h0
  unfold sp119 at h0
  obtain ⟨a1, r1, rfl, h1⟩ := asCons_inv h0; clear h0
  obtain ⟨x1, rfl, h2⟩ := asD_inv h1; clear h1
  obtain ⟨a2, r2, rfl, h3⟩ := asCons_inv h2; clear h2
  obtain ⟨x2, rfl, h4⟩ := asD_inv h3; clear h3
  obtain ⟨rfl, h5⟩ := asNil_inv h4; clear h4
  obtain ⟨rfl, h6⟩ := asNil_inv h5; clear h5
  exact ACall.spec2 (fn := Try.f119) (c := codeOf Try.f119) (S := ofL S119) (L := lofL L119) hS119 (by kernel_rfl) (by kernel_rfl) (inlOK _) (all_eq (by kernel_rfl : subsOf (E.info 119).keep (codeOf Try.f119) = [.loop (body Try.f119 4)]) (all_cons (loopOK_of (mk := 120000004) (sl := [0, 1, 12, 13]) (ss := [([0, 1, 12, 13], lsl119r4)]) (by kernel_rfl) (by kernel_rfl) (all_cons l119r4v (all_nil))) (all_nil))) (by kernel_rfl) h6.of

abbrev S149 : List (Nat × Pat × Sp) := [(119, none, sp119)]
theorem hS149 : SpecOK E (ofL S149) := specOK_cons h119 (specOK_nil)
abbrev L149 : List (Nat × List Nat × Pat × LSp) := []
def sp149 : Sp := fun args τ K => asCons args fun a1 r1 => asD (.pair (.int .i64) (.pair .bool (.pair (.sl (.int .i64)) (.pair (.int .i64) .unit)))) a1 fun x1 => asCons r1 fun a2 r2 => asD (.pair (.int .i64) (.pair .bool (.pair (.sl (.int .i64)) (.pair (.int .i64) .unit)))) a2 fun x2 => asNil r2 <| asNil τ <| c149 x1 x2 (fun z1 => K (B z1) [])
theorem h149 : ∀ args τ K, sp149 args τ K → ACall E 149 args τ K := by
  intro args τ K h0
  unfold sp149 at h0
  obtain ⟨a1, r1, rfl, h1⟩ := asCons_inv h0; clear h0
  obtain ⟨x1, rfl, h2⟩ := asD_inv h1; clear h1
  obtain ⟨a2, r2, rfl, h3⟩ := asCons_inv h2; clear h2
  obtain ⟨x2, rfl, h4⟩ := asD_inv h3; clear h3
  obtain ⟨rfl, h5⟩ := asNil_inv h4; clear h4
  obtain ⟨rfl, h6⟩ := asNil_inv h5; clear h5
  exact ACall.spec2 (fn := Try.f149) (c := codeOf Try.f149) (S := ofL S149) (L := lofL L149) hS149 (by kernel_rfl) (by kernel_rfl) (inlOK _) (all_eq (by kernel_rfl : subsOf (E.info 149).keep (codeOf Try.f149) = []) (all_nil)) (by kernel_rfl) h6.of

abbrev Sl148r4 : List (Nat × Pat × Sp) := [(149, none, sp149)]
theorem hSl148r4 : SpecOK E (ofL Sl148r4) := specOK_cons h149 (specOK_nil)
abbrev Ll148r4 : List (Nat × List Nat × Pat × LSp) := []
def lsl148r4 : LSp := fun vs σ K => asCons vs fun a1 r1 => asD (.sl (.pair (.int .i64) (.pair .bool (.pair (.sl (.int .i64)) (.pair (.int .i64) .unit))))) a1 fun s1 => asCons r1 fun a2 r2 => asFn 149 a2 fun l3 l4 => asNil l3 <| asNil l4 <| asCons r2 fun a5 r5 => asD (.sl (.pair (.int .i64) (.pair .bool (.pair (.sl (.int .i64)) (.pair (.int .i64) .unit))))) a5 fun s2 => asCons r5 fun a6 r6 => asD (.int .i64) a6 fun s3 => asCons r6 fun a7 r7 => asD (.int .i64) a7 fun s4 => asNil r7 <| asNil σ <| l148r4 (fun z1 => K .ret [(6, B z1)] []) (K (.exit 0) [(6, .undef)] []) s1 s2 s3 s4
theorem l148r4v : LoopV E (inlF (PA (ACall E)) E 8) (E.info 148).keep 0 Try.f148.ntmps 149000004 (body Try.f148 4) ([1, 2, 15, 16, 17], lsl148r4) := by
  intro vs σ K (h0 : lsl148r4 vs σ K)
  unfold lsl148r4 at h0
  obtain ⟨a1, r1, rfl, h1⟩ := asCons_inv h0; clear h0
  obtain ⟨s1, rfl, h2⟩ := asD_inv h1; clear h1
  obtain ⟨a2, r2, rfl, h3⟩ := asCons_inv h2; clear h2
  obtain ⟨l3, l4, rfl, h4⟩ := asFn_inv h3; clear h3
  obtain ⟨rfl, h5⟩ := asNil_inv h4; clear h4
  obtain ⟨rfl, h6⟩ := asNil_inv h5; clear h5
  obtain ⟨a5, r5, rfl, h7⟩ := asCons_inv h6; clear h6
  obtain ⟨s2, rfl, h8⟩ := asD_inv h7; clear h7
  obtain ⟨a6, r6, rfl, h9⟩ := asCons_inv h8; clear h8
  obtain ⟨s3, rfl, h10⟩ := asD_inv h9; clear h9
  obtain ⟨a7, r7, rfl, h11⟩ := asCons_inv h10; clear h10
  obtain ⟨s4, rfl, h12⟩ := asD_inv h11; clear h11
  obtain ⟨rfl, h13⟩ := asNil_inv h12; clear h12
  obtain ⟨rfl, h14⟩ := asNil_inv h13; clear h13
  intro J hJ
  have hp : ∀ c' ∈ subsOf (E.info 148).keep (body Try.f148 4), SubOK E (inlF (PA (ACall E)) E 8) (E.info 148).keep 0 Try.f148.ntmps (lofL Ll148r4) c' := all_eq (by kernel_rfl : subsOf (E.info 148).keep (body Try.f148 4) = []) (all_nil)
  exact h14.of (fun s1 s2 s3 s4 => J [(149000004, .undef), (1, .d (.sl (.pair (.int .i64) (.pair .bool (.pair (.sl (.int .i64)) (.pair (.int .i64) .unit))))) s1), (2, .fn 149 [] []), (15, .d (.sl (.pair (.int .i64) (.pair .bool (.pair (.sl (.int .i64)) (.pair (.int .i64) .unit))))) s2), (16, I s3), (17, I s4)] []) (fun s1 s2 s3 s4 hb => loop_round2 (S := ofL Sl148r4) (L := lofL Ll148r4) hSl148r4 (inlOK _) hp hJ (by kernel_rfl) hb)

abbrev S148 : List (Nat × Pat × Sp) := []
theorem hS148 : SpecOK E (ofL S148) := specOK_nil
abbrev L148 : List (Nat × List Nat × Pat × LSp) := [(149000004, [1, 2, 15, 16, 17], none, lsl148r4)]
def sp148 : Sp := fun args τ K => asCons args fun a1 r1 => asD (.sl (.pair (.int .i64) (.pair .bool (.pair (.sl (.int .i64)) (.pair (.int .i64) .unit))))) a1 fun x1 => asCons r1 fun a2 r2 => asD (.sl (.pair (.int .i64) (.pair .bool (.pair (.sl (.int .i64)) (.pair (.int .i64) .unit))))) a2 fun x2 => asCons r2 fun a3 r3 => asFn 149 a3 fun l4 l5 => asNil l4 <| asNil l5 <| asNil r3 <| asNil τ <| c148 x1 x2 (fun z1 => K (B z1) [])
theorem h148 : ∀ args τ K, sp148 args τ K → ACall E 148 args τ K := by
  intro args τ K h0
  unfold sp148 at h0
  obtain ⟨a1, r1, rfl, h1⟩ := asCons_inv h0; clear h0
  obtain ⟨x1, rfl, h2⟩ := asD_inv h1; clear h1
  obtain ⟨a2, r2, rfl, h3⟩ := asCons_inv h2; clear h2
  obtain ⟨x2, rfl, h4⟩ := asD_inv h3; clear h3
  obtain ⟨a3, r3, rfl, h5⟩ := asCons_inv h4; clear h4
  obtain ⟨l4, l5, rfl, h6⟩ := asFn_inv h5; clear h5
  obtain ⟨rfl, h7⟩ := asNil_inv h6; clear h6
  obtain ⟨rfl, h8⟩ := asNil_inv h7; clear h7
  obtain ⟨rfl, h9⟩ := asNil_inv h8; clear h8
  obtain ⟨rfl, h10⟩ := asNil_inv h9; clear h9
  exact ACall.spec2 (fn := Try.f148) (c := codeOf Try.f148) (S := ofL S148) (L := lofL L148) hS148 (by kernel_rfl) (by kernel_rfl) (inlOK _) (all_eq (by kernel_rfl : subsOf (E.info 148).keep (codeOf Try.f148) = [.loop (body Try.f148 4)]) (all_cons (loopOK_of (mk := 149000004) (sl := [1, 2, 15, 16, 17]) (ss := [([1, 2, 15, 16, 17], lsl148r4)]) (by kernel_rfl) (by kernel_rfl) (all_cons l148r4v (all_nil))) (all_nil))) (by kernel_rfl) h10.of

abbrev S151 : List (Nat × Pat × Sp) := []
theorem hS151 : SpecOK E (ofL S151) := specOK_nil
abbrev L151 : List (Nat × List Nat × Pat × LSp) := []
def sp151 : Sp := fun args τ K => asCons args fun a1 r1 => asD (.pair (.int .i64) (.pair (.int .i64) .unit)) a1 fun x1 => asCons r1 fun a2 r2 => asD (.pair (.int .i64) (.pair (.int .i64) .unit)) a2 fun x2 => asCons r2 fun a3 r3 => asP (.ptr 0 0 []) a3 <| asNil r3 <| asCons τ fun a4 r4 => asOne (.sl (.int .i64)) a4 fun a5 => asD (.sl (.int .i64)) a5 fun x3 => asNil r4 <| c151 x1 x2 x3 (fun z1 z2 => K (B z1) [.one (.sl (.int .i64)) (.d (.sl (.int .i64)) z2)])
theorem h151 : ∀ args τ K, sp151 args τ K → ACall E 151 args τ K := by
  intro args τ K h0
  unfold sp151 at h0
  obtain ⟨a1, r1, rfl, h1⟩ := asCons_inv h0; clear h0
  obtain ⟨x1, rfl, h2⟩ := asD_inv h1; clear h1
  obtain ⟨a2, r2, rfl, h3⟩ := asCons_inv h2; clear h2
  obtain ⟨x2, rfl, h4⟩ := asD_inv h3; clear h3
  obtain ⟨a3, r3, rfl, h5⟩ := asCons_inv h4; clear h4
  obtain ⟨rfl, h6⟩ := asP_inv h5; clear h5
  obtain ⟨rfl, h7⟩ := asNil_inv h6; clear h6
  obtain ⟨a4, r4, rfl, h8⟩ := asCons_inv h7; clear h7
  obtain ⟨a5, rfl, h9⟩ := asOne_inv h8; clear h8
  obtain ⟨x3, rfl, h10⟩ := asD_inv h9; clear h9
  obtain ⟨rfl, h11⟩ := asNil_inv h10; clear h10
  exact ACall.spec2 (fn := Try.f151) (c := codeOf Try.f151) (S := ofL S151) (L := lofL L151) hS151 (by kernel_rfl) (by kernel_rfl) (inlOK _) (all_eq (by kernel_rfl : subsOf (E.info 151).keep (codeOf Try.f151) = []) (all_nil)) (by kernel_rfl) h11.of

abbrev Sl150r4 : List (Nat × Pat × Sp) := [(151, none, sp151)]
theorem hSl150r4 : SpecOK E (ofL Sl150r4) := specOK_cons h151 (specOK_nil)
abbrev Ll150r4 : List (Nat × List Nat × Pat × LSp) := []
def lsl150r4 : LSp := fun vs σ K => asCons vs fun a1 r1 => asD (.sl (.pair (.int .i64) (.pair (.int .i64) .unit))) a1 fun s1 => asCons r1 fun a2 r2 => asFn 151 a2 fun l3 l4 => asNil l3 <| asCons l4 fun a5 r5 => asP (.ptr 0 0 []) a5 <| asNil r5 <| asCons r2 fun a6 r6 => asD (.sl (.pair (.int .i64) (.pair (.int .i64) .unit))) a6 fun s2 => asCons r6 fun a7 r7 => asD (.int .i64) a7 fun s3 => asCons r7 fun a8 r8 => asD (.int .i64) a8 fun s4 => asNil r8 <| asCons σ fun a9 r9 => asOne (.sl (.int .i64)) a9 fun a10 => asD (.sl (.int .i64)) a10 fun s5 => asNil r9 <| l150r4 (fun z1 z2 => K .ret [(6, B z1)] [.one (.sl (.int .i64)) (.d (.sl (.int .i64)) z2)]) (fun z1 => K (.exit 0) [(6, .undef)] [.one (.sl (.int .i64)) (.d (.sl (.int .i64)) z1)]) s1 s2 s3 s4 s5
theorem l150r4v : LoopV E (inlF (PA (ACall E)) E 8) (E.info 150).keep 1 Try.f150.ntmps 151000004 (body Try.f150 4) ([1, 2, 15, 16, 17], lsl150r4) := by
  intro vs σ K (h0 : lsl150r4 vs σ K)
  unfold lsl150r4 at h0
  obtain ⟨a1, r1, rfl, h1⟩ := asCons_inv h0; clear h0
  obtain ⟨s1, rfl, h2⟩ := asD_inv h1; clear h1
  obtain ⟨a2, r2, rfl, h3⟩ := asCons_inv h2; clear h2
  obtain ⟨l3, l4, rfl, h4⟩ := asFn_inv h3; clear h3
  obtain ⟨rfl, h5⟩ := asNil_inv h4; clear h4
  obtain ⟨a5, r5, rfl, h6⟩ := asCons_inv h5; clear h5
  obtain ⟨rfl, h7⟩ := asP_inv h6; clear h6
  obtain ⟨rfl, h8⟩ := asNil_inv h7; clear h7
  obtain ⟨a6, r6, rfl, h9⟩ := asCons_inv h8; clear h8
  obtain ⟨s2, rfl, h10⟩ := asD_inv h9; clear h9
  obtain ⟨a7, r7, rfl, h11⟩ := asCons_inv h10; clear h10
  obtain ⟨s3, rfl, h12⟩ := asD_inv h11; clear h11
  obtain ⟨a8, r8, rfl, h13⟩ := asCons_inv h12; clear h12
  obtain ⟨s4, rfl, h14⟩ := asD_inv h13; clear h13
  obtain ⟨rfl, h15⟩ := asNil_inv h14; clear h14
  obtain ⟨a9, r9, rfl, h16⟩ := asCons_inv h15; clear h15
  obtain ⟨a10, rfl, h17⟩ := asOne_inv h16; clear h16
  obtain ⟨s5, rfl, h18⟩ := asD_inv h17; clear h17
  obtain ⟨rfl, h19⟩ := asNil_inv h18; clear h18
  intro J hJ
  have hp : ∀ c' ∈ subsOf (E.info 150).keep (body Try.f150 4), SubOK E (inlF (PA (ACall E)) E 8) (E.info 150).keep 1 Try.f150.ntmps (lofL Ll150r4) c' := all_eq (by kernel_rfl : subsOf (E.info 150).keep (body Try.f150 4) = []) (all_nil)
  exact h19.of (fun s1 s2 s3 s4 s5 => J [(151000004, .undef), (1, .d (.sl (.pair (.int .i64) (.pair (.int .i64) .unit))) s1), (2, .fn 151 [] [.ptr 0 0 []]), (15, .d (.sl (.pair (.int .i64) (.pair (.int .i64) .unit))) s2), (16, I s3), (17, I s4)] [.one (.sl (.int .i64)) (.d (.sl (.int .i64)) s5)]) (fun s1 s2 s3 s4 s5 hb => loop_round2 (S := ofL Sl150r4) (L := lofL Ll150r4) hSl150r4 (inlOK _) hp hJ (by kernel_rfl) hb)

abbrev S150 : List (Nat × Pat × Sp) := []
theorem hS150 : SpecOK E (ofL S150) := specOK_nil
abbrev L150 : List (Nat × List Nat × Pat × LSp) := [(151000004, [1, 2, 15, 16, 17], none, lsl150r4)]
def sp150 : Sp := fun args τ K => asCons args fun a1 r1 => asD (.sl (.pair (.int .i64) (.pair (.int .i64) .unit))) a1 fun x1 => asCons r1 fun a2 r2 => asD (.sl (.pair (.int .i64) (.pair (.int .i64) .unit))) a2 fun x2 => asCons r2 fun a3 r3 => asFn 151 a3 fun l4 l5 => asNil l4 <| asCons l5 fun a6 r6 => asP (.ptr 0 0 []) a6 <| asNil r6 <| asNil r3 <| asCons τ fun a7 r7 => asOne (.sl (.int .i64)) a7 fun a8 => asD (.sl (.int .i64)) a8 fun x3 => asNil r7 <| c150 x1 x2 x3 (fun z1 z2 => K (B z1) [.one (.sl (.int .i64)) (.d (.sl (.int .i64)) z2)])
theorem h150 : ∀ args τ K, sp150 args τ K → ACall E 150 args τ K := by
  intro args τ K h0
  unfold sp150 at h0
  obtain ⟨a1, r1, rfl, h1⟩ := asCons_inv h0; clear h0
  obtain ⟨x1, rfl, h2⟩ := asD_inv h1; clear h1
  obtain ⟨a2, r2, rfl, h3⟩ := asCons_inv h2; clear h2
  obtain ⟨x2, rfl, h4⟩ := asD_inv h3; clear h3
  obtain ⟨a3, r3, rfl, h5⟩ := asCons_inv h4; clear h4
  obtain ⟨l4, l5, rfl, h6⟩ := asFn_inv h5; clear h5
  obtain ⟨rfl, h7⟩ := asNil_inv h6; clear h6
  obtain ⟨a6, r6, rfl, h8⟩ := asCons_inv h7; clear h7
  obtain ⟨rfl, h9⟩ := asP_inv h8; clear h8
  obtain ⟨rfl, h10⟩ := asNil_inv h9; clear h9
  obtain ⟨rfl, h11⟩ := asNil_inv h10; clear h10
  obtain ⟨a7, r7, rfl, h12⟩ := asCons_inv h11; clear h11
  obtain ⟨a8, rfl, h13⟩ := asOne_inv h12; clear h12
  obtain ⟨x3, rfl, h14⟩ := asD_inv h13; clear h13
  obtain ⟨rfl, h15⟩ := asNil_inv h14; clear h14
  exact ACall.spec2 (fn := Try.f150) (c := codeOf Try.f150) (S := ofL S150) (L := lofL L150) hS150 (by kernel_rfl) (by kernel_rfl) (inlOK _) (all_eq (by kernel_rfl : subsOf (E.info 150).keep (codeOf Try.f150) = [.loop (body Try.f150 4)]) (all_cons (loopOK_of (mk := 151000004) (sl := [1, 2, 15, 16, 17]) (ss := [([1, 2, 15, 16, 17], lsl150r4)]) (by kernel_rfl) (by kernel_rfl) (all_cons l150r4v (all_nil))) (all_nil))) (by kernel_rfl) h15.of

abbrev S118 : List (Nat × Pat × Sp) := [(147, none, sp147), (148, none, sp148), (150, none, sp150)]
theorem hS118 : SpecOK E (ofL S118) := specOK_cons h147 (specOK_cons h148 (specOK_cons h150 (specOK_nil)))
abbrev L118 : List (Nat × List Nat × Pat × LSp) := []
def sp118 : Sp := fun args τ K => asCons args fun a1 r1 => asD (.pair (.int .i64) (.pair (.sl (.pair (.pair (.int .i64) (.pair (.int .i64) (.pair (.int .i64) (.pair (.int .i64) (.pair (.int .i64) .unit))))) (.pair (.int .i64) .unit))) (.pair (.sl (.pair (.int .i64) (.pair (.int .i64) .unit))) (.pair (.sl (.pair (.int .i64) (.pair .bool (.pair (.sl (.int .i64)) (.pair (.int .i64) .unit))))) (.pair (.int .i64) .unit))))) a1 fun x1 => asCons r1 fun a2 r2 => asD (.pair (.int .i64) (.pair (.sl (.pair (.pair (.int .i64) (.pair (.int .i64) (.pair (.int .i64) (.pair (.int .i64) (.pair (.int .i64) .unit))))) (.pair (.int .i64) .unit))) (.pair (.sl (.pair (.int .i64) (.pair (.int .i64) .unit))) (.pair (.sl (.pair (.int .i64) (.pair .bool (.pair (.sl (.int .i64)) (.pair (.int .i64) .unit))))) (.pair (.int .i64) .unit))))) a2 fun x2 => asCons r2 fun a3 r3 => asD (.sl (.int .i64)) a3 fun x3 => asNil r3 <| asNil τ <| c118 x1 x2 x3 (fun z1 => K (B z1) [])
theorem h118 : ∀ args τ K, sp118 args τ K → ACall E 118 args τ K := by
  intro args τ K h0
  unfold sp118 at h0
  obtain ⟨a1, r1, rfl, h1⟩ := asCons_inv h0; clear h0
  obtain ⟨x1, rfl, h2⟩ := asD_inv h1; clear h1
  obtain ⟨a2, r2, rfl, h3⟩ := asCons_inv h2; clear h2
  obtain ⟨x2, rfl, h4⟩ := asD_inv h3; clear h3
  obtain ⟨a3, r3, rfl, h5⟩ := asCons_inv h4; clear h4
  obtain ⟨x3, rfl, h6⟩ := asD_inv h5; clear h5
  obtain ⟨rfl, h7⟩ := asNil_inv h6; clear h6
  obtain ⟨rfl, h8⟩ := asNil_inv h7; clear h7
  exact ACall.spec2 (fn := Try.f118) (c := codeOf Try.f118) (S := ofL S118) (L := lofL L118) hS118 (by kernel_rfl) (by kernel_rfl) (inlOK _) (all_eq (by kernel_rfl : subsOf (E.info 118).keep (codeOf Try.f118) = []) (all_nil)) (by kernel_rfl) h8.of

abbrev Sl55r11 : List (Nat × Pat × Sp) := [(118, none, sp118)]
theorem hSl55r11 : SpecOK E (ofL Sl55r11) := specOK_cons h118 (specOK_nil)
abbrev Ll55r11 : List (Nat × List Nat × Pat × LSp) := []
def lsl55r11 : LSp := fun vs σ K => asCons vs fun a1 r1 => asD (.sl (.pair (.int .i64) (.pair (.sl (.pair (.pair (.int .i64) (.pair (.int .i64) (.pair (.int .i64) (.pair (.int .i64) (.pair (.int .i64) .unit))))) (.pair (.int .i64) .unit))) (.pair (.sl (.pair (.int .i64) (.pair (.int .i64) .unit))) (.pair (.sl (.pair (.int .i64) (.pair .bool (.pair (.sl (.int .i64)) (.pair (.int .i64) .unit))))) (.pair (.int .i64) .unit)))))) a1 fun s1 => asCons r1 fun a2 r2 => asP (.vec 0) a2 <| asCons r2 fun a3 r3 => asP (.vec 1) a3 <| asCons r3 fun a4 r4 => asD (.int .i64) a4 fun s2 => asCons r4 fun a5 r5 => asD (.int .i64) a5 fun s3 => asCons r5 fun a6 r6 => asD (.int .i64) a6 fun s4 => asCons r6 fun a7 r7 => asD (.int .i64) a7 fun s5 => asCons r7 fun a8 r8 => asD (.int .i64) a8 fun s6 => asNil r8 <| asCons σ fun a9 r9 => asRw (.int .i64) false a9 fun s7 => asCons r9 fun a10 r10 => asRw (.int .i64) false a10 fun s8 => asNil r10 <| l55r11 (fun z1 z2 z3 z4 z5 => K (.exit 4) [(0, .d (.sl (.pair (.int .i64) (.pair (.sl (.pair (.pair (.int .i64) (.pair (.int .i64) (.pair (.int .i64) (.pair (.int .i64) (.pair (.int .i64) .unit))))) (.pair (.int .i64) .unit))) (.pair (.sl (.pair (.int .i64) (.pair (.int .i64) .unit))) (.pair (.sl (.pair (.int .i64) (.pair .bool (.pair (.sl (.int .i64)) (.pair (.int .i64) .unit))))) (.pair (.int .i64) .unit)))))) z1), (5, .vec 0), (6, .vec 1), (21, I z2), (22, I z3)] [.row (.int .i64) z4 false, .row (.int .i64) z5 false]) s1 s2 s3 s4 s5 s6 s7 s8
theorem l55r11v : LoopV E (inlF (PA (ACall E)) E 8) (E.info 55).keep 0 Try.f55.ntmps 56000011 (body Try.f55 11) ([0, 5, 6, 7, 21, 22, 29, 30], lsl55r11) := by
  intro vs σ K (h0 : lsl55r11 vs σ K)
  unfold lsl55r11 at h0
  obtain ⟨a1, r1, rfl, h1⟩ := asCons_inv h0; clear h0
  obtain ⟨s1, rfl, h2⟩ := asD_inv h1; clear h1
  obtain ⟨a2, r2, rfl, h3⟩ := asCons_inv h2; clear h2
  obtain ⟨rfl, h4⟩ := asP_inv h3; clear h3
  obtain ⟨a3, r3, rfl, h5⟩ := asCons_inv h4; clear h4
  obtain ⟨rfl, h6⟩ := asP_inv h5; clear h5
  obtain ⟨a4, r4, rfl, h7⟩ := asCons_inv h6; clear h6
  obtain ⟨s2, rfl, h8⟩ := asD_inv h7; clear h7
  obtain ⟨a5, r5, rfl, h9⟩ := asCons_inv h8; clear h8
  obtain ⟨s3, rfl, h10⟩ := asD_inv h9; clear h9
  obtain ⟨a6, r6, rfl, h11⟩ := asCons_inv h10; clear h10
  obtain ⟨s4, rfl, h12⟩ := asD_inv h11; clear h11
  obtain ⟨a7, r7, rfl, h13⟩ := asCons_inv h12; clear h12
  obtain ⟨s5, rfl, h14⟩ := asD_inv h13; clear h13
  obtain ⟨a8, r8, rfl, h15⟩ := asCons_inv h14; clear h14
  obtain ⟨s6, rfl, h16⟩ := asD_inv h15; clear h15
  obtain ⟨rfl, h17⟩ := asNil_inv h16; clear h16
  obtain ⟨a9, r9, rfl, h18⟩ := asCons_inv h17; clear h17
  obtain ⟨s7, rfl, h19⟩ := asRw_inv h18; clear h18
  obtain ⟨a10, r10, rfl, h20⟩ := asCons_inv h19; clear h19
  obtain ⟨s8, rfl, h21⟩ := asRw_inv h20; clear h20
  obtain ⟨rfl, h22⟩ := asNil_inv h21; clear h21
  intro J hJ
  have hp : ∀ c' ∈ subsOf (E.info 55).keep (body Try.f55 11), SubOK E (inlF (PA (ACall E)) E 8) (E.info 55).keep 0 Try.f55.ntmps (lofL Ll55r11) c' := all_eq (by kernel_rfl : subsOf (E.info 55).keep (body Try.f55 11) = []) (all_nil)
  exact h22.of (fun s1 s2 s3 s4 s5 s6 s7 s8 => J [(56000011, .undef), (0, .d (.sl (.pair (.int .i64) (.pair (.sl (.pair (.pair (.int .i64) (.pair (.int .i64) (.pair (.int .i64) (.pair (.int .i64) (.pair (.int .i64) .unit))))) (.pair (.int .i64) .unit))) (.pair (.sl (.pair (.int .i64) (.pair (.int .i64) .unit))) (.pair (.sl (.pair (.int .i64) (.pair .bool (.pair (.sl (.int .i64)) (.pair (.int .i64) .unit))))) (.pair (.int .i64) .unit)))))) s1), (5, .vec 0), (6, .vec 1), (7, I s2), (21, I s3), (22, I s4), (29, I s5), (30, I s6)] [.row (.int .i64) s7 false, .row (.int .i64) s8 false]) (fun s1 s2 s3 s4 s5 s6 s7 s8 hb => loop_round2 (S := ofL Sl55r11) (L := lofL Ll55r11) hSl55r11 (inlOK _) hp hJ (by kernel_rfl) hb)

abbrev Sl55r7 : List (Nat × Pat × Sp) := []
theorem hSl55r7 : SpecOK E (ofL Sl55r7) := specOK_nil
abbrev Ll55r7 : List (Nat × List Nat × Pat × LSp) := [(56000011, [0, 5, 6, 7, 21, 22, 29, 30], none, lsl55r11)]
def lsl55r7 : LSp := fun vs σ K => asCons vs fun a1 r1 => asD (.sl (.pair (.int .i64) (.pair (.sl (.pair (.pair (.int .i64) (.pair (.int .i64) (.pair (.int .i64) (.pair (.int .i64) (.pair (.int .i64) .unit))))) (.pair (.int .i64) .unit))) (.pair (.sl (.pair (.int .i64) (.pair (.int .i64) .unit))) (.pair (.sl (.pair (.int .i64) (.pair .bool (.pair (.sl (.int .i64)) (.pair (.int .i64) .unit))))) (.pair (.int .i64) .unit)))))) a1 fun s1 => asCons r1 fun a2 r2 => asP (.vec 0) a2 <| asCons r2 fun a3 r3 => asP (.vec 1) a3 <| asCons r3 fun a4 r4 => asD (.int .i64) a4 fun s2 => asCons r4 fun a5 r5 => asD (.int .i64) a5 fun s3 => asNil r5 <| asCons σ fun a6 r6 => asRw (.int .i64) false a6 fun s4 => asCons r6 fun a7 r7 => asRw (.int .i64) false a7 fun s5 => asNil r7 <| l55r7 (fun z1 z2 z3 => K (.exit 2) [(0, .d (.sl (.pair (.int .i64) (.pair (.sl (.pair (.pair (.int .i64) (.pair (.int .i64) (.pair (.int .i64) (.pair (.int .i64) (.pair (.int .i64) .unit))))) (.pair (.int .i64) .unit))) (.pair (.sl (.pair (.int .i64) (.pair (.int .i64) .unit))) (.pair (.sl (.pair (.int .i64) (.pair .bool (.pair (.sl (.int .i64)) (.pair (.int .i64) .unit))))) (.pair (.int .i64) .unit)))))) z1), (5, .vec 0), (6, .vec 1)] [.row (.int .i64) z2 false, .row (.int .i64) z3 false]) s1 s2 s3 s4 s5
theorem l55r7v : LoopV E (inlF (PA (ACall E)) E 8) (E.info 55).keep 0 Try.f55.ntmps 56000007 (body Try.f55 7) ([0, 5, 6, 21, 22], lsl55r7) := by
  intro vs σ K (h0 : lsl55r7 vs σ K)
  unfold lsl55r7 at h0
  obtain ⟨a1, r1, rfl, h1⟩ := asCons_inv h0; clear h0
  obtain ⟨s1, rfl, h2⟩ := asD_inv h1; clear h1
  obtain ⟨a2, r2, rfl, h3⟩ := asCons_inv h2; clear h2
  obtain ⟨rfl, h4⟩ := asP_inv h3; clear h3
  obtain ⟨a3, r3, rfl, h5⟩ := asCons_inv h4; clear h4
  obtain ⟨rfl, h6⟩ := asP_inv h5; clear h5
  obtain ⟨a4, r4, rfl, h7⟩ := asCons_inv h6; clear h6
  obtain ⟨s2, rfl, h8⟩ := asD_inv h7; clear h7
  obtain ⟨a5, r5, rfl, h9⟩ := asCons_inv h8; clear h8
  obtain ⟨s3, rfl, h10⟩ := asD_inv h9; clear h9
  obtain ⟨rfl, h11⟩ := asNil_inv h10; clear h10
  obtain ⟨a6, r6, rfl, h12⟩ := asCons_inv h11; clear h11
  obtain ⟨s4, rfl, h13⟩ := asRw_inv h12; clear h12
  obtain ⟨a7, r7, rfl, h14⟩ := asCons_inv h13; clear h13
  obtain ⟨s5, rfl, h15⟩ := asRw_inv h14; clear h14
  obtain ⟨rfl, h16⟩ := asNil_inv h15; clear h15
  intro J hJ
  have hp : ∀ c' ∈ subsOf (E.info 55).keep (body Try.f55 7), SubOK E (inlF (PA (ACall E)) E 8) (E.info 55).keep 0 Try.f55.ntmps (lofL Ll55r7) c' := all_eq (by kernel_rfl : subsOf (E.info 55).keep (body Try.f55 7) = [.loop (body Try.f55 11)]) (all_cons (loopOK_of (mk := 56000011) (sl := [0, 5, 6, 7, 21, 22, 29, 30]) (ss := [([0, 5, 6, 7, 21, 22, 29, 30], lsl55r11)]) (by kernel_rfl) (by kernel_rfl) (all_cons l55r11v (all_nil))) (all_nil))
  exact h16.of (fun s1 s2 s3 s4 s5 => J [(56000007, .undef), (0, .d (.sl (.pair (.int .i64) (.pair (.sl (.pair (.pair (.int .i64) (.pair (.int .i64) (.pair (.int .i64) (.pair (.int .i64) (.pair (.int .i64) .unit))))) (.pair (.int .i64) .unit))) (.pair (.sl (.pair (.int .i64) (.pair (.int .i64) .unit))) (.pair (.sl (.pair (.int .i64) (.pair .bool (.pair (.sl (.int .i64)) (.pair (.int .i64) .unit))))) (.pair (.int .i64) .unit)))))) s1), (5, .vec 0), (6, .vec 1), (21, I s2), (22, I s3)] [.row (.int .i64) s4 false, .row (.int .i64) s5 false]) (fun s1 s2 s3 s4 s5 hb => loop_round2 (S := ofL Sl55r7) (L := lofL Ll55r7) hSl55r7 (inlOK _) hp hJ (by kernel_rfl) hb)

abbrev Sl55r5 : List (Nat × Pat × Sp) := [(119, none, sp119)]
theorem hSl55r5 : SpecOK E (ofL Sl55r5) := specOK_cons h119 (specOK_nil)
abbrev Ll55r5 : List (Nat × List Nat × Pat × LSp) := [(56000007, [0, 5, 6, 21, 22], none, lsl55r7)]
def lsl55r5 : LSp := fun vs σ K => asCons vs fun a1 r1 => asD (.sl (.pair (.int .i64) (.pair (.sl (.pair (.pair (.int .i64) (.pair (.int .i64) (.pair (.int .i64) (.pair (.int .i64) (.pair (.int .i64) .unit))))) (.pair (.int .i64) .unit))) (.pair (.sl (.pair (.int .i64) (.pair (.int .i64) .unit))) (.pair (.sl (.pair (.int .i64) (.pair .bool (.pair (.sl (.int .i64)) (.pair (.int .i64) .unit))))) (.pair (.int .i64) .unit)))))) a1 fun s1 => asCons r1 fun a2 r2 => asP (.vec 0) a2 <| asNil r2 <| asCons σ fun a3 r3 => asRw (.int .i64) false a3 fun s2 => asNil r3 <| l55r5 (fun z1 z2 => K .ret [(2, .vec 0), (3, I z1)] [.row (.int .i64) z2 false]) s1 s2
theorem l55r5v : LoopV E (inlF (PA (ACall E)) E 8) (E.info 55).keep 0 Try.f55.ntmps 56000005 (body Try.f55 5) ([0, 5], lsl55r5) := by
  intro vs σ K (h0 : lsl55r5 vs σ K)
  unfold lsl55r5 at h0
  obtain ⟨a1, r1, rfl, h1⟩ := asCons_inv h0; clear h0
  obtain ⟨s1, rfl, h2⟩ := asD_inv h1; clear h1
  obtain ⟨a2, r2, rfl, h3⟩ := asCons_inv h2; clear h2
  obtain ⟨rfl, h4⟩ := asP_inv h3; clear h3
  obtain ⟨rfl, h5⟩ := asNil_inv h4; clear h4
  obtain ⟨a3, r3, rfl, h6⟩ := asCons_inv h5; clear h5
  obtain ⟨s2, rfl, h7⟩ := asRw_inv h6; clear h6
  obtain ⟨rfl, h8⟩ := asNil_inv h7; clear h7
  intro J hJ
  have hp : ∀ c' ∈ subsOf (E.info 55).keep (body Try.f55 5), SubOK E (inlF (PA (ACall E)) E 8) (E.info 55).keep 0 Try.f55.ntmps (lofL Ll55r5) c' := all_eq (by kernel_rfl : subsOf (E.info 55).keep (body Try.f55 5) = [.loop (body Try.f55 7)]) (all_cons (loopOK_of (mk := 56000007) (sl := [0, 5, 6, 21, 22]) (ss := [([0, 5, 6, 21, 22], lsl55r7)]) (by kernel_rfl) (by kernel_rfl) (all_cons l55r7v (all_nil))) (all_nil))
  exact h8.of (fun s1 s2 => J [(56000005, .undef), (0, .d (.sl (.pair (.int .i64) (.pair (.sl (.pair (.pair (.int .i64) (.pair (.int .i64) (.pair (.int .i64) (.pair (.int .i64) (.pair (.int .i64) .unit))))) (.pair (.int .i64) .unit))) (.pair (.sl (.pair (.int .i64) (.pair (.int .i64) .unit))) (.pair (.sl (.pair (.int .i64) (.pair .bool (.pair (.sl (.int .i64)) (.pair (.int .i64) .unit))))) (.pair (.int .i64) .unit)))))) s1), (5, .vec 0)] [.row (.int .i64) s2 false]) (fun s1 s2 hb => loop_round2 (S := ofL Sl55r5) (L := lofL Ll55r5) hSl55r5 (inlOK _) hp hJ (by kernel_rfl) hb)

abbrev S55 : List (Nat × Pat × Sp) := [(56, none, sp56)]
theorem hS55 : SpecOK E (ofL S55) := specOK_cons h56 (specOK_nil)
abbrev L55 : List (Nat × List Nat × Pat × LSp) := [(56000005, [0, 5], none, lsl55r5)]
def sp55 : Sp := fun args τ K => asCons args fun a1 r1 => asD (.sl (.pair (.int .i64) (.pair (.sl (.pair (.pair (.int .i64) (.pair (.int .i64) (.pair (.int .i64) (.pair (.int .i64) (.pair (.int .i64) .unit))))) (.pair (.int .i64) .unit))) (.pair (.sl (.pair (.int .i64) (.pair (.int .i64) .unit))) (.pair (.sl (.pair (.int .i64) (.pair .bool (.pair (.sl (.int .i64)) (.pair (.int .i64) .unit))))) (.pair (.int .i64) .unit)))))) a1 fun x1 => asNil r1 <| asNil τ <| c55 x1 (fun z1 z2 => K (.tup [.vec 0, I z1]) [.row (.int .i64) z2 false])
theorem h55 : ∀ args τ K, sp55 args τ K → ACall E 55 args τ K := by
  intro args τ K h0
  unfold sp55 at h0
  obtain ⟨a1, r1, rfl, h1⟩ := asCons_inv h0; clear h0
  obtain ⟨x1, rfl, h2⟩ := asD_inv h1; clear h1
  obtain ⟨rfl, h3⟩ := asNil_inv h2; clear h2
  obtain ⟨rfl, h4⟩ := asNil_inv h3; clear h3
  exact ACall.spec2 (fn := Try.f55) (c := codeOf Try.f55) (S := ofL S55) (L := lofL L55) hS55 (by kernel_rfl) (by kernel_rfl) (inlOK _) (all_eq (by kernel_rfl : subsOf (E.info 55).keep (codeOf Try.f55) = [.loop (body Try.f55 5)]) (all_cons (loopOK_of (mk := 56000005) (sl := [0, 5]) (ss := [([0, 5], lsl55r5)]) (by kernel_rfl) (by kernel_rfl) (all_cons l55r5v (all_nil))) (all_nil))) (by kernel_rfl) h4.of

abbrev Sl32r4 : List (Nat × Pat × Sp) := []
theorem hSl32r4 : SpecOK E (ofL Sl32r4) := specOK_nil
abbrev Ll32r4 : List (Nat × List Nat × Pat × LSp) := []
def lsl32r4 : LSp := fun vs σ K => asCons vs fun a1 r1 => asD (.sl (.int .i64)) a1 fun s1 => asCons r1 fun a2 r2 => asD (.sl (.int .i64)) a2 fun s2 => asCons r2 fun a3 r3 => asD (.int .i64) a3 fun s3 => asCons r3 fun a4 r4 => asD (.int .i64) a4 fun s4 => asNil r4 <| asNil σ <| l32r4 (fun z1 => K .ret [(4, B z1)] []) (K (.exit 0) [(4, .undef)] []) s1 s2 s3 s4
theorem l32r4v : LoopV E (inlF (PA (ACall E)) E 8) (E.info 32).keep 0 Try.f32.ntmps 33000004 (body Try.f32 4) ([0, 1, 12, 13], lsl32r4) := by
  intro vs σ K (h0 : lsl32r4 vs σ K)
  unfold lsl32r4 at h0
  obtain ⟨a1, r1, rfl, h1⟩ := asCons_inv h0; clear h0
  obtain ⟨s1, rfl, h2⟩ := asD_inv h1; clear h1
  obtain ⟨a2, r2, rfl, h3⟩ := asCons_inv h2; clear h2
  obtain ⟨s2, rfl, h4⟩ := asD_inv h3; clear h3
  obtain ⟨a3, r3, rfl, h5⟩ := asCons_inv h4; clear h4
  obtain ⟨s3, rfl, h6⟩ := asD_inv h5; clear h5
  obtain ⟨a4, r4, rfl, h7⟩ := asCons_inv h6; clear h6
  obtain ⟨s4, rfl, h8⟩ := asD_inv h7; clear h7
  obtain ⟨rfl, h9⟩ := asNil_inv h8; clear h8
  obtain ⟨rfl, h10⟩ := asNil_inv h9; clear h9
  intro J hJ
  have hp : ∀ c' ∈ subsOf (E.info 32).keep (body Try.f32 4), SubOK E (inlF (PA (ACall E)) E 8) (E.info 32).keep 0 Try.f32.ntmps (lofL Ll32r4) c' := all_eq (by kernel_rfl : subsOf (E.info 32).keep (body Try.f32 4) = []) (all_nil)
  exact h10.of (fun s1 s2 s3 s4 => J [(33000004, .undef), (0, .d (.sl (.int .i64)) s1), (1, .d (.sl (.int .i64)) s2), (12, I s3), (13, I s4)] []) (fun s1 s2 s3 s4 hb => loop_round2 (S := ofL Sl32r4) (L := lofL Ll32r4) hSl32r4 (inlOK _) hp hJ (by kernel_rfl) hb)

abbrev S32 : List (Nat × Pat × Sp) := []
theorem hS32 : SpecOK E (ofL S32) := specOK_nil
abbrev L32 : List (Nat × List Nat × Pat × LSp) := [(33000004, [0, 1, 12, 13], none, lsl32r4)]
def sp32 : Sp := fun args τ K => asCons args fun a1 r1 => asD (.sl (.int .i64)) a1 fun x1 => asCons r1 fun a2 r2 => asD (.sl (.int .i64)) a2 fun x2 => asNil r2 <| asNil τ <| c32 x1 x2 (fun z1 => K (B z1) [])
theorem h32 : ∀ args τ K, sp32 args τ K → ACall E 32 args τ K := by
  intro args τ K h0
  unfold sp32 at h0
  obtain ⟨a1, r1, rfl, h1⟩ := asCons_inv h0; clear h0
  obtain ⟨x1, rfl, h2⟩ := asD_inv h1; clear h1
  obtain ⟨a2, r2, rfl, h3⟩ := asCons_inv h2; clear h2
  obtain ⟨x2, rfl, h4⟩ := asD_inv h3; clear h3
  obtain ⟨rfl, h5⟩ := asNil_inv h4; clear h4
  obtain ⟨rfl, h6⟩ := asNil_inv h5; clear h5
  exact ACall.spec2 (fn := Try.f32) (c := codeOf Try.f32) (S := ofL S32) (L := lofL L32) hS32 (by kernel_rfl) (by kernel_rfl) (inlOK _) (all_eq (by kernel_rfl : subsOf (E.info 32).keep (codeOf Try.f32) = [.loop (body Try.f32 4)]) (all_cons (loopOK_of (mk := 33000004) (sl := [0, 1, 12, 13]) (ss := [([0, 1, 12, 13], lsl32r4)]) (by kernel_rfl) (by kernel_rfl) (all_cons l32r4v (all_nil))) (all_nil))) (by kernel_rfl) h6.of

abbrev S54 : List (Nat × Pat × Sp) := [(55, none, sp55), (32, none, sp32)]
theorem hS54 : SpecOK E (ofL S54) := specOK_cons h55 (specOK_cons h32 (specOK_nil))
abbrev L54 : List (Nat × List Nat × Pat × LSp) := []
def sp54 : Sp := fun args τ K => asNil args <| asNil τ <| c54  (fun z1 => K (B z1) [])
theorem h54 : ∀ args τ K, sp54 args τ K → ACall E 54 args τ K := by
  intro args τ K h0
  unfold sp54 at h0
  obtain ⟨rfl, h1⟩ := asNil_inv h0; clear h0
  obtain ⟨rfl, h2⟩ := asNil_inv h1; clear h1
  exact ACall.spec2 (fn := Try.f54) (c := codeOf Try.f54) (S := ofL S54) (L := lofL L54) hS54 (by kernel_rfl) (by kernel_rfl) (inlOK _) (all_eq (by kernel_rfl : subsOf (E.info 54).keep (codeOf Try.f54) = []) (all_nil)) (by kernel_rfl) h2.of

abbrev Sl57r4 : List (Nat × Pat × Sp) := []
theorem hSl57r4 : SpecOK E (ofL Sl57r4) := specOK_nil
abbrev Ll57r4 : List (Nat × List Nat × Pat × LSp) := []
def lsl57r4 : LSp := fun vs σ K => asCons vs fun a1 r1 => asD (.sl (.pair (.int .i64) (.pair (.sl (.pair (.pair (.int .i64) (.pair (.int .i64) (.pair (.int .i64) (.pair (.int .i64) (.pair (.int .i64) .unit))))) (.pair (.int .i64) .unit))) (.pair (.sl (.pair (.int .i64) (.pair (.int .i64) .unit))) (.pair (.sl (.pair (.int .i64) (.pair .bool (.pair (.sl (.int .i64)) (.pair (.int .i64) .unit))))) (.pair (.int .i64) .unit)))))) a1 fun s1 => asCons r1 fun a2 r2 => asD (.int .i64) a2 fun s2 => asCons r2 fun a3 r3 => asP (.vec 0) a3 <| asCons r3 fun a4 r4 => asD (.int .i64) a4 fun s3 => asCons r4 fun a5 r5 => asD (.int .i64) a5 fun s4 => asNil r5 <| asCons σ fun a6 r6 => asRw .bool false a6 fun s5 => asNil r6 <| l57r4 (fun z1 z2 z3 => K (.exit 0) [(0, .d (.sl (.pair (.int .i64) (.pair (.sl (.pair (.pair (.int .i64) (.pair (.int .i64) (.pair (.int .i64) (.pair (.int .i64) (.pair (.int .i64) .unit))))) (.pair (.int .i64) .unit))) (.pair (.sl (.pair (.int .i64) (.pair (.int .i64) .unit))) (.pair (.sl (.pair (.int .i64) (.pair .bool (.pair (.sl (.int .i64)) (.pair (.int .i64) .unit))))) (.pair (.int .i64) .unit)))))) z1), (3, I z2), (4, .vec 0)] [.row .bool z3 false]) s1 s2 s3 s4 s5
theorem l57r4v : LoopV E (inlF (PA (ACall E)) E 8) (E.info 57).keep 0 Try.f57.ntmps 58000004 (body Try.f57 4) ([0, 3, 4, 19, 20], lsl57r4) := by
  intro vs σ K (h0 : lsl57r4 vs σ K)
  unfold lsl57r4 at h0
  obtain ⟨a1, r1, rfl, h1⟩ := asCons_inv h0; clear h0
  obtain ⟨s1, rfl, h2⟩ := asD_inv h1; clear h1
  obtain ⟨a2, r2, rfl, h3⟩ := asCons_inv h2; clear h2
  obtain ⟨s2, rfl, h4⟩ := asD_inv h3; clear h3
  obtain ⟨a3, r3, rfl, h5⟩ := asCons_inv h4; clear h4
  obtain ⟨rfl, h6⟩ := asP_inv h5; clear h5
  obtain ⟨a4, r4, rfl, h7⟩ := asCons_inv h6; clear h6
  obtain ⟨s3, rfl, h8⟩ := asD_inv h7; clear h7
  obtain ⟨a5, r5, rfl, h9⟩ := asCons_inv h8; clear h8
  obtain ⟨s4, rfl, h10⟩ := asD_inv h9; clear h9
  obtain ⟨rfl, h11⟩ := asNil_inv h10; clear h10
  obtain ⟨a6, r6, rfl, h12⟩ := asCons_inv h11; clear h11
  obtain ⟨s5, rfl, h13⟩ := asRw_inv h12; clear h12
  obtain ⟨rfl, h14⟩ := asNil_inv h13; clear h13
  intro J hJ
  have hp : ∀ c' ∈ subsOf (E.info 57).keep (body Try.f57 4), SubOK E (inlF (PA (ACall E)) E 8) (E.info 57).keep 0 Try.f57.ntmps (lofL Ll57r4) c' := all_eq (by kernel_rfl : subsOf (E.info 57).keep (body Try.f57 4) = []) (all_nil)
  exact h14.of (fun s1 s2 s3 s4 s5 => J [(58000004, .undef), (0, .d (.sl (.pair (.int .i64) (.pair (.sl (.pair (.pair (.int .i64) (.pair (.int .i64) (.pair (.int .i64) (.pair (.int .i64) (.pair (.int .i64) .unit))))) (.pair (.int .i64) .unit))) (.pair (.sl (.pair (.int .i64) (.pair (.int .i64) .unit))) (.pair (.sl (.pair (.int .i64) (.pair .bool (.pair (.sl (.int .i64)) (.pair (.int .i64) .unit))))) (.pair (.int .i64) .unit)))))) s1), (3, I s2), (4, .vec 0), (19, I s3), (20, I s4)] [.row .bool s5 false]) (fun s1 s2 s3 s4 s5 hb => loop_round2 (S := ofL Sl57r4) (L := lofL Ll57r4) hSl57r4 (inlOK _) hp hJ (by kernel_rfl) hb)

abbrev Sl121r4 : List (Nat × Pat × Sp) := []
theorem hSl121r4 : SpecOK E (ofL Sl121r4) := specOK_nil
abbrev Ll121r4 : List (Nat × List Nat × Pat × LSp) := []
def lsl121r4 : LSp := fun vs σ K => asCons vs fun a1 r1 => asD (.sl .bool) a1 fun s1 => asCons r1 fun a2 r2 => asD (.int .i64) a2 fun s2 => asCons r2 fun a3 r3 => asP (.ptr 0 0 []) a3 <| asCons r3 fun a4 r4 => asP (.ptr 1 0 []) a4 <| asCons r4 fun a5 r5 => asD (.int .i64) a5 fun s3 => asCons r5 fun a6 r6 => asD (.int .i64) a6 fun s4 => asNil r6 <| asCons σ fun a7 r7 => asOne (.pair (.int .i64) (.pair (.sl (.pair (.pair (.int .i64) (.pair (.int .i64) (.pair (.int .i64) (.pair (.int .i64) (.pair (.int .i64) .unit))))) (.pair (.int .i64) .unit))) (.pair (.sl (.pair (.int .i64) (.pair (.int .i64) .unit))) (.pair (.sl (.pair (.int .i64) (.pair .bool (.pair (.sl (.int .i64)) (.pair (.int .i64) .unit))))) (.pair (.int .i64) .unit))))) a7 fun a8 => asD (.pair (.int .i64) (.pair (.sl (.pair (.pair (.int .i64) (.pair (.int .i64) (.pair (.int .i64) (.pair (.int .i64) (.pair (.int .i64) .unit))))) (.pair (.int .i64) .unit))) (.pair (.sl (.pair (.int .i64) (.pair (.int .i64) .unit))) (.pair (.sl (.pair (.int .i64) (.pair .bool (.pair (.sl (.int .i64)) (.pair (.int .i64) .unit))))) (.pair (.int .i64) .unit))))) a8 fun s5 => asCons r7 fun a9 r9 => asOne (.pair (.int .i64) (.pair (.sl (.pair (.pair (.int .i64) (.pair (.int .i64) (.pair (.int .i64) (.pair (.int .i64) (.pair (.int .i64) .unit))))) (.pair (.int .i64) .unit))) (.pair (.sl (.pair (.int .i64) (.pair (.int .i64) .unit))) (.pair (.sl (.pair (.int .i64) (.pair .bool (.pair (.sl (.int .i64)) (.pair (.int .i64) .unit))))) (.pair (.int .i64) .unit))))) a9 fun a10 => asD (.pair (.int .i64) (.pair (.sl (.pair (.pair (.int .i64) (.pair (.int .i64) (.pair (.int .i64) (.pair (.int .i64) (.pair (.int .i64) .unit))))) (.pair (.int .i64) .unit))) (.pair (.sl (.pair (.int .i64) (.pair (.int .i64) .unit))) (.pair (.sl (.pair (.int .i64) (.pair .bool (.pair (.sl (.int .i64)) (.pair (.int .i64) .unit))))) (.pair (.int .i64) .unit))))) a10 fun s6 => asNil r9 <| l121r4 (fun z1 => K .ret [(2, .undef), (3, .undef), (4, .undef), (5, .undef), (8, B z1)] []) (fun z1 z2 z3 z4 => K (.exit 0) [(2, .d (.sl .bool) z1), (3, I z2), (4, .ptr 0 0 []), (5, .ptr 1 0 []), (8, .undef)] [.one (.pair (.int .i64) (.pair (.sl (.pair (.pair (.int .i64) (.pair (.int .i64) (.pair (.int .i64) (.pair (.int .i64) (.pair (.int .i64) .unit))))) (.pair (.int .i64) .unit))) (.pair (.sl (.pair (.int .i64) (.pair (.int .i64) .unit))) (.pair (.sl (.pair (.int .i64) (.pair .bool (.pair (.sl (.int .i64)) (.pair (.int .i64) .unit))))) (.pair (.int .i64) .unit))))) (.d (.pair (.int .i64) (.pair (.sl (.pair (.pair (.int .i64) (.pair (.int .i64) (.pair (.int .i64) (.pair (.int .i64) (.pair (.int .i64) .unit))))) (.pair (.int .i64) .unit))) (.pair (.sl (.pair (.int .i64) (.pair (.int .i64) .unit))) (.pair (.sl (.pair (.int .i64) (.pair .bool (.pair (.sl (.int .i64)) (.pair (.int .i64) .unit))))) (.pair (.int .i64) .unit))))) z3), .one (.pair (.int .i64) (.pair (.sl (.pair (.pair (.int .i64) (.pair (.int .i64) (.pair (.int .i64) (.pair (.int .i64) (.pair (.int .i64) .unit))))) (.pair (.int .i64) .unit))) (.pair (.sl (.pair (.int .i64) (.pair (.int .i64) .unit))) (.pair (.sl (.pair (.int .i64) (.pair .bool (.pair (.sl (.int .i64)) (.pair (.int .i64) .unit))))) (.pair (.int .i64) .unit))))) (.d (.pair (.int .i64) (.pair (.sl (.pair (.pair (.int .i64) (.pair (.int .i64) (.pair (.int .i64) (.pair (.int .i64) (.pair (.int .i64) .unit))))) (.pair (.int .i64) .unit))) (.pair (.sl (.pair (.int .i64) (.pair (.int .i64) .unit))) (.pair (.sl (.pair (.int .i64) (.pair .bool (.pair (.sl (.int .i64)) (.pair (.int .i64) .unit))))) (.pair (.int .i64) .unit))))) z4)]) s1 s2 s3 s4 s5 s6
theorem l121r4v : LoopV E (inlF (PA (ACall E)) E 8) (E.info 121).keep 0 Try.f121.ntmps 122000004 (body Try.f121 4) ([2, 3, 4, 5, 48, 49], lsl121r4) := by
  intro vs σ K (h0 : lsl121r4 vs σ K)
  unfold lsl121r4 at h0
  obtain ⟨a1, r1, rfl, h1⟩ := asCons_inv h0; clear h0
  obtain ⟨s1, rfl, h2⟩ := asD_inv h1; clear h1
  obtain ⟨a2, r2, rfl, h3⟩ := asCons_inv h2; clear h2
  obtain ⟨s2, rfl, h4⟩ := asD_inv h3; clear h3
  obtain ⟨a3, r3, rfl, h5⟩ := asCons_inv h4; clear h4
  obtain ⟨rfl, h6⟩ := asP_inv h5; clear h5
  obtain ⟨a4, r4, rfl, h7⟩ := asCons_inv h6; clear h6
  obtain ⟨rfl, h8⟩ := asP_inv h7; clear h7
  obtain ⟨a5, r5, rfl, h9⟩ := asCons_inv h8; clear h8
  obtain ⟨s3, rfl, h10⟩ := asD_inv h9; clear h9
  obtain ⟨a6, r6, rfl, h11⟩ := asCons_inv h10; clear h10
  obtain ⟨s4, rfl, h12⟩ := asD_inv h11; clear h11
  obtain ⟨rfl, h13⟩ := asNil_inv h12; clear h12
  obtain ⟨a7, r7, rfl, h14⟩ := asCons_inv h13; clear h13
  obtain ⟨a8, rfl, h15⟩ := asOne_inv h14; clear h14
  obtain ⟨s5, rfl, h16⟩ := asD_inv h15; clear h15
  obtain ⟨a9, r9, rfl, h17⟩ := asCons_inv h16; clear h16
  obtain ⟨a10, rfl, h18⟩ := asOne_inv h17; clear h17
  obtain ⟨s6, rfl, h19⟩ := asD_inv h18; clear h18
  obtain ⟨rfl, h20⟩ := asNil_inv h19; clear h19
  intro J hJ
  have hp : ∀ c' ∈ subsOf (E.info 121).keep (body Try.f121 4), SubOK E (inlF (PA (ACall E)) E 8) (E.info 121).keep 0 Try.f121.ntmps (lofL Ll121r4) c' := all_eq (by kernel_rfl : subsOf (E.info 121).keep (body Try.f121 4) = []) (all_nil)
  exact h20.of (fun s1 s2 s3 s4 s5 s6 => J [(122000004, .undef), (2, .d (.sl .bool) s1), (3, I s2), (4, .ptr 0 0 []), (5, .ptr 1 0 []), (48, I s3), (49, I s4)] [.one (.pair (.int .i64) (.pair (.sl (.pair (.pair (.int .i64) (.pair (.int .i64) (.pair (.int .i64) (.pair (.int .i64) (.pair (.int .i64) .unit))))) (.pair (.int .i64) .unit))) (.pair (.sl (.pair (.int .i64) (.pair (.int .i64) .unit))) (.pair (.sl (.pair (.int .i64) (.pair .bool (.pair (.sl (.int .i64)) (.pair (.int .i64) .unit))))) (.pair (.int .i64) .unit))))) (.d (.pair (.int .i64) (.pair (.sl (.pair (.pair (.int .i64) (.pair (.int .i64) (.pair (.int .i64) (.pair (.int .i64) (.pair (.int .i64) .unit))))) (.pair (.int .i64) .unit))) (.pair (.sl (.pair (.int .i64) (.pair (.int .i64) .unit))) (.pair (.sl (.pair (.int .i64) (.pair .bool (.pair (.sl (.int .i64)) (.pair (.int .i64) .unit))))) (.pair (.int .i64) .unit))))) s5), .one (.pair (.int .i64) (.pair (.sl (.pair (.pair (.int .i64) (.pair (.int .i64) (.pair (.int .i64) (.pair (.int .i64) (.pair (.int .i64) .unit))))) (.pair (.int .i64) .unit))) (.pair (.sl (.pair (.int .i64) (.pair (.int .i64) .unit))) (.pair (.sl (.pair (.int .i64) (.pair .bool (.pair (.sl (.int .i64)) (.pair (.int .i64) .unit))))) (.pair (.int .i64) .unit))))) (.d (.pair (.int .i64) (.pair (.sl (.pair (.pair (.int .i64) (.pair (.int .i64) (.pair (.int .i64) (.pair (.int .i64) (.pair (.int .i64) .unit))))) (.pair (.int .i64) .unit))) (.pair (.sl (.pair (.int .i64) (.pair (.int .i64) .unit))) (.pair (.sl (.pair (.int .i64) (.pair .bool (.pair (.sl (.int .i64)) (.pair (.int .i64) .unit))))) (.pair (.int .i64) .unit))))) s6)]) (fun s1 s2 s3 s4 s5 s6 hb => loop_round2 (S := ofL Sl121r4) (L := lofL Ll121r4) hSl121r4 (inlOK _) hp hJ (by kernel_rfl) hb)

abbrev Sl121r10 : List (Nat × Pat × Sp) := []
theorem hSl121r10 : SpecOK E (ofL Sl121r10) := specOK_nil
abbrev Ll121r10 : List (Nat × List Nat × Pat × LSp) := []
def lsl121r10 : LSp := fun vs σ K => asCons vs fun a1 r1 => asD (.sl .bool) a1 fun s1 => asCons r1 fun a2 r2 => asD (.int .i64) a2 fun s2 => asCons r2 fun a3 r3 => asP (.ptr 0 0 []) a3 <| asCons r3 fun a4 r4 => asP (.ptr 1 0 []) a4 <| asCons r4 fun a5 r5 => asD (.int .i64) a5 fun s3 => asCons r5 fun a6 r6 => asD (.int .i64) a6 fun s4 => asNil r6 <| asCons σ fun a7 r7 => asOne (.pair (.int .i64) (.pair (.sl (.pair (.pair (.int .i64) (.pair (.int .i64) (.pair (.int .i64) (.pair (.int .i64) (.pair (.int .i64) .unit))))) (.pair (.int .i64) .unit))) (.pair (.sl (.pair (.int .i64) (.pair (.int .i64) .unit))) (.pair (.sl (.pair (.int .i64) (.pair .bool (.pair (.sl (.int .i64)) (.pair (.int .i64) .unit))))) (.pair (.int .i64) .unit))))) a7 fun a8 => asD (.pair (.int .i64) (.pair (.sl (.pair (.pair (.int .i64) (.pair (.int .i64) (.pair (.int .i64) (.pair (.int .i64) (.pair (.int .i64) .unit))))) (.pair (.int .i64) .unit))) (.pair (.sl (.pair (.int .i64) (.pair (.int .i64) .unit))) (.pair (.sl (.pair (.int .i64) (.pair .bool (.pair (.sl (.int .i64)) (.pair (.int .i64) .unit))))) (.pair (.int .i64) .unit))))) a8 fun s5 => asCons r7 fun a9 r9 => asOne (.pair (.int .i64) (.pair (.sl (.pair (.pair (.int .i64) (.pair (.int .i64) (.pair (.int .i64) (.pair (.int .i64) (.pair (.int .i64) .unit))))) (.pair (.int .i64) .unit))) (.pair (.sl (.pair (.int .i64) (.pair (.int .i64) .unit))) (.pair (.sl (.pair (.int .i64) (.pair .bool (.pair (.sl (.int .i64)) (.pair (.int .i64) .unit))))) (.pair (.int .i64) .unit))))) a9 fun a10 => asD (.pair (.int .i64) (.pair (.sl (.pair (.pair (.int .i64) (.pair (.int .i64) (.pair (.int .i64) (.pair (.int .i64) (.pair (.int .i64) .unit))))) (.pair (.int .i64) .unit))) (.pair (.sl (.pair (.int .i64) (.pair (.int .i64) .unit))) (.pair (.sl (.pair (.int .i64) (.pair .bool (.pair (.sl (.int .i64)) (.pair (.int .i64) .unit))))) (.pair (.int .i64) .unit))))) a10 fun s6 => asNil r9 <| l121r10 (fun z1 => K .ret [(4, .undef), (5, .undef), (8, B z1)] []) (fun z1 z2 => K (.exit 2) [(4, .ptr 0 0 []), (5, .ptr 1 0 []), (8, .undef)] [.one (.pair (.int .i64) (.pair (.sl (.pair (.pair (.int .i64) (.pair (.int .i64) (.pair (.int .i64) (.pair (.int .i64) (.pair (.int .i64) .unit))))) (.pair (.int .i64) .unit))) (.pair (.sl (.pair (.int .i64) (.pair (.int .i64) .unit))) (.pair (.sl (.pair (.int .i64) (.pair .bool (.pair (.sl (.int .i64)) (.pair (.int .i64) .unit))))) (.pair (.int .i64) .unit))))) (.d (.pair (.int .i64) (.pair (.sl (.pair (.pair (.int .i64) (.pair (.int .i64) (.pair (.int .i64) (.pair (.int .i64) (.pair (.int .i64) .unit))))) (.pair (.int .i64) .unit))) (.pair (.sl (.pair (.int .i64) (.pair (.int .i64) .unit))) (.pair (.sl (.pair (.int .i64) (.pair .bool (.pair (.sl (.int .i64)) (.pair (.int .i64) .unit))))) (.pair (.int .i64) .unit))))) z1), .one (.pair (.int .i64) (.pair (.sl (.pair (.pair (.int .i64) (.pair (.int .i64) (.pair (.int .i64) (.pair (.int .i64) (.pair (.int .i64) .unit))))) (.pair (.int .i64) .unit))) (.pair (.sl (.pair (.int .i64) (.pair (.int .i64) .unit))) (.pair (.sl (.pair (.int .i64) (.pair .bool (.pair (.sl (.int .i64)) (.pair (.int .i64) .unit))))) (.pair (.int .i64) .unit))))) (.d (.pair (.int .i64) (.pair (.sl (.pair (.pair (.int .i64) (.pair (.int .i64) (.pair (.int .i64) (.pair (.int .i64) (.pair (.int .i64) .unit))))) (.pair (.int .i64) .unit))) (.pair (.sl (.pair (.int .i64) (.pair (.int .i64) .unit))) (.pair (.sl (.pair (.int .i64) (.pair .bool (.pair (.sl (.int .i64)) (.pair (.int .i64) .unit))))) (.pair (.int .i64) .unit))))) z2)]) s1 s2 s3 s4 s5 s6
theorem l121r10v : LoopV E (inlF (PA (ACall E)) E 8) (E.info 121).keep 0 Try.f121.ntmps 122000010 (body Try.f121 10) ([2, 3, 4, 5, 66, 67], lsl121r10) := by
  intro vs σ K (h0 : lsl121r10 vs σ K)
  unfold lsl121r10 at h0
  obtain ⟨a1, r1, rfl, h1⟩ := asCons_inv h0; clear h0
  obtain ⟨s1, rfl, h2⟩ := asD_inv h1; clear h1
  obtain ⟨a2, r2, rfl, h3⟩ := asCons_inv h2; clear h2
  obtain ⟨s2, rfl, h4⟩ := asD_inv h3; clear h3
  obtain ⟨a3, r3, rfl, h5⟩ := asCons_inv h4; clear h4
  obtain ⟨rfl, h6⟩ := asP_inv h5; clear h5
  obtain ⟨a4, r4, rfl, h7⟩ := asCons_inv h6; clear h6
  obtain ⟨rfl, h8⟩ := asP_inv h7; clear h7
  obtain ⟨a5, r5, rfl, h9⟩ := asCons_inv h8; clear h8
  obtain ⟨s3, rfl, h10⟩ := asD_inv h9; clear h9
  obtain ⟨a6, r6, rfl, h11⟩ := asCons_inv h10; clear h10
  obtain ⟨s4, rfl, h12⟩ := asD_inv h11; clear h11
  obtain ⟨rfl, h13⟩ := asNil_inv h12; clear h12
  obtain ⟨a7, r7, rfl, h14⟩ := asCons_inv h13; clear h13
  obtain ⟨a8, rfl, h15⟩ := asOne_inv h14; clear h14
  obtain ⟨s5, rfl, h16⟩ := asD_inv h15; clear h15
  obtain ⟨a9, r9, rfl, h17⟩ := asCons_inv h16; clear h16
  obtain ⟨a10, rfl, h18⟩ := asOne_inv h17; clear h17
  obtain ⟨s6, rfl, h19⟩ := asD_inv h18; clear h18
  obtain ⟨rfl, h20⟩ := asNil_inv h19; clear h19
  intro J hJ
  have hp : ∀ c' ∈ subsOf (E.info 121).keep (body Try.f121 10), SubOK E (inlF (PA (ACall E)) E 8) (E.info 121).keep 0 Try.f121.ntmps (lofL Ll121r10) c' := all_eq (by kernel_rfl : subsOf (E.info 121).keep (body Try.f121 10) = []) (all_nil)
  exact h20.of (fun s1 s2 s3 s4 s5 s6 => J [(122000010, .undef), (2, .d (.sl .bool) s1), (3, I s2), (4, .ptr 0 0 []), (5, .ptr 1 0 []), (66, I s3), (67, I s4)] [.one (.pair (.int .i64) (.pair (.sl (.pair (.pair (.int .i64) (.pair (.int .i64) (.pair (.int .i64) (.pair (.int .i64) (.pair (.int .i64) .unit))))) (.pair (.int .i64) .unit))) (.pair (.sl (.pair (.int .i64) (.pair (.int .i64) .unit))) (.pair (.sl (.pair (.int .i64) (.pair .bool (.pair (.sl (.int .i64)) (.pair (.int .i64) .unit))))) (.pair (.int .i64) .unit))))) (.d (.pair (.int .i64) (.pair (.sl (.pair (.pair (.int .i64) (.pair (.int .i64) (.pair (.int .i64) (.pair (.int .i64) (.pair (.int .i64) .unit))))) (.pair (.int .i64) .unit))) (.pair (.sl (.pair (.int .i64) (.pair (.int .i64) .unit))) (.pair (.sl (.pair (.int .i64) (.pair .bool (.pair (.sl (.int .i64)) (.pair (.int .i64) .unit))))) (.pair (.int .i64) .unit))))) s5), .one (.pair (.int .i64) (.pair (.sl (.pair (.pair (.int .i64) (.pair (.int .i64) (.pair (.int .i64) (.pair (.int .i64) (.pair (.int .i64) .unit))))) (.pair (.int .i64) .unit))) (.pair (.sl (.pair (.int .i64) (.pair (.int .i64) .unit))) (.pair (.sl (.pair (.int .i64) (.pair .bool (.pair (.sl (.int .i64)) (.pair (.int .i64) .unit))))) (.pair (.int .i64) .unit))))) (.d (.pair (.int .i64) (.pair (.sl (.pair (.pair (.int .i64) (.pair (.int .i64) (.pair (.int .i64) (.pair (.int .i64) (.pair (.int .i64) .unit))))) (.pair (.int .i64) .unit))) (.pair (.sl (.pair (.int .i64) (.pair (.int .i64) .unit))) (.pair (.sl (.pair (.int .i64) (.pair .bool (.pair (.sl (.int .i64)) (.pair (.int .i64) .unit))))) (.pair (.int .i64) .unit))))) s6)]) (fun s1 s2 s3 s4 s5 s6 hb => loop_round2 (S := ofL Sl121r10) (L := lofL Ll121r10) hSl121r10 (inlOK _) hp hJ (by kernel_rfl) hb)

abbrev Sl121r16 : List (Nat × Pat × Sp) := [(32, none, sp32)]
theorem hSl121r16 : SpecOK E (ofL Sl121r16) := specOK_cons h32 (specOK_nil)
abbrev Ll121r16 : List (Nat × List Nat × Pat × LSp) := []
def lsl121r16 : LSp := fun vs σ K => asCons vs fun a1 r1 => asP (.ptr 0 0 []) a1 <| asCons r1 fun a2 r2 => asP (.ptr 1 0 []) a2 <| asCons r2 fun a3 r3 => asD (.int .i64) a3 fun s1 => asCons r3 fun a4 r4 => asD (.int .i64) a4 fun s2 => asNil r4 <| asCons σ fun a5 r5 => asOne (.pair (.int .i64) (.pair (.sl (.pair (.pair (.int .i64) (.pair (.int .i64) (.pair (.int .i64) (.pair (.int .i64) (.pair (.int .i64) .unit))))) (.pair (.int .i64) .unit))) (.pair (.sl (.pair (.int .i64) (.pair (.int .i64) .unit))) (.pair (.sl (.pair (.int .i64) (.pair .bool (.pair (.sl (.int .i64)) (.pair (.int .i64) .unit))))) (.pair (.int .i64) .unit))))) a5 fun a6 => asD (.pair (.int .i64) (.pair (.sl (.pair (.pair (.int .i64) (.pair (.int .i64) (.pair (.int .i64) (.pair (.int .i64) (.pair (.int .i64) .unit))))) (.pair (.int .i64) .unit))) (.pair (.sl (.pair (.int .i64) (.pair (.int .i64) .unit))) (.pair (.sl (.pair (.int .i64) (.pair .bool (.pair (.sl (.int .i64)) (.pair (.int .i64) .unit))))) (.pair (.int .i64) .unit))))) a6 fun s3 => asCons r5 fun a7 r7 => asOne (.pair (.int .i64) (.pair (.sl (.pair (.pair (.int .i64) (.pair (.int .i64) (.pair (.int .i64) (.pair (.int .i64) (.pair (.int .i64) .unit))))) (.pair (.int .i64) .unit))) (.pair (.sl (.pair (.int .i64) (.pair (.int .i64) .unit))) (.pair (.sl (.pair (.int .i64) (.pair .bool (.pair (.sl (.int .i64)) (.pair (.int .i64) .unit))))) (.pair (.int .i64) .unit))))) a7 fun a8 => asD (.pair (.int .i64) (.pair (.sl (.pair (.pair (.int .i64) (.pair (.int .i64) (.pair (.int .i64) (.pair (.int .i64) (.pair (.int .i64) .unit))))) (.pair (.int .i64) .unit))) (.pair (.sl (.pair (.int .i64) (.pair (.int .i64) .unit))) (.pair (.sl (.pair (.int .i64) (.pair .bool (.pair (.sl (.int .i64)) (.pair (.int .i64) .unit))))) (.pair (.int .i64) .unit))))) a8 fun s4 => asNil r7 <| l121r16 (fun z1 => K .ret [(8, B z1)] []) (K (.exit 4) [(8, .undef)] []) s1 s2 s3 s4
theorem l121r16v : LoopV E (inlF (PA (ACall E)) E 8) (E.info 121).keep 0 Try.f121.ntmps 122000016 (body Try.f121 16) ([4, 5, 107, 108], lsl121r16) := by
  intro vs σ K (h0 : lsl121r16 vs σ K)
  unfold lsl121r16 at h0
  obtain ⟨a1, r1, rfl, h1⟩ := asCons_inv h0; clear h0
  obtain ⟨rfl, h2⟩ := asP_inv h1; clear h1
  obtain ⟨a2, r2, rfl, h3⟩ := asCons_inv h2; clear h2
  obtain ⟨rfl, h4⟩ := asP_inv h3; clear h3
  obtain ⟨a3, r3, rfl, h5⟩ := asCons_inv h4; clear h4
  obtain ⟨s1, rfl, h6⟩ := asD_inv h5; clear h5
  obtain ⟨a4, r4, rfl, h7⟩ := asCons_inv h6; clear h6
  obtain ⟨s2, rfl, h8⟩ := asD_inv h7; clear h7
  obtain ⟨rfl, h9⟩ := asNil_inv h8; clear h8
  obtain ⟨a5, r5, rfl, h10⟩ := asCons_inv h9; clear h9
  obtain ⟨a6, rfl, h11⟩ := asOne_inv h10; clear h10
  obtain ⟨s3, rfl, h12⟩ := asD_inv h11; clear h11
  obtain ⟨a7, r7, rfl, h13⟩ := asCons_inv h12; clear h12
  obtain ⟨a8, rfl, h14⟩ := asOne_inv h13; clear h13
  obtain ⟨s4, rfl, h15⟩ := asD_inv h14; clear h14
  obtain ⟨rfl, h16⟩ := asNil_inv h15; clear h15
  intro J hJ
  have hp : ∀ c' ∈ subsOf (E.info 121).keep (body Try.f121 16), SubOK E (inlF (PA (ACall E)) E 8) (E.info 121).keep 0 Try.f121.ntmps (lofL Ll121r16) c' := all_eq (by kernel_rfl : subsOf (E.info 121).keep (body Try.f121 16) = []) (all_nil)
  exact h16.of (fun s1 s2 s3 s4 => J [(122000016, .undef), (4, .ptr 0 0 []), (5, .ptr 1 0 []), (107, I s1), (108, I s2)] [.one (.pair (.int .i64) (.pair (.sl (.pair (.pair (.int .i64) (.pair (.int .i64) (.pair (.int .i64) (.pair (.int .i64) (.pair (.int .i64) .unit))))) (.pair (.int .i64) .unit))) (.pair (.sl (.pair (.int .i64) (.pair (.int .i64) .unit))) (.pair (.sl (.pair (.int .i64) (.pair .bool (.pair (.sl (.int .i64)) (.pair (.int .i64) .unit))))) (.pair (.int .i64) .unit))))) (.d (.pair (.int .i64) (.pair (.sl (.pair (.pair (.int .i64) (.pair (.int .i64) (.pair (.int .i64) (.pair (.int .i64) (.pair (.int .i64) .unit))))) (.pair (.int .i64) .unit))) (.pair (.sl (.pair (.int .i64) (.pair (.int .i64) .unit))) (.pair (.sl (.pair (.int .i64) (.pair .bool (.pair (.sl (.int .i64)) (.pair (.int .i64) .unit))))) (.pair (.int .i64) .unit))))) s3), .one (.pair (.int .i64) (.pair (.sl (.pair (.pair (.int .i64) (.pair (.int .i64) (.pair (.int .i64) (.pair (.int .i64) (.pair (.int .i64) .unit))))) (.pair (.int .i64) .unit))) (.pair (.sl (.pair (.int .i64) (.pair (.int .i64) .unit))) (.pair (.sl (.pair (.int .i64) (.pair .bool (.pair (.sl (.int .i64)) (.pair (.int .i64) .unit))))) (.pair (.int .i64) .unit))))) (.d (.pair (.int .i64) (.pair (.sl (.pair (.pair (.int .i64) (.pair (.int .i64) (.pair (.int .i64) (.pair (.int .i64) (.pair (.int .i64) .unit))))) (.pair (.int .i64) .unit))) (.pair (.sl (.pair (.int .i64) (.pair (.int .i64) .unit))) (.pair (.sl (.pair (.int .i64) (.pair .bool (.pair (.sl (.int .i64)) (.pair (.int .i64) .unit))))) (.pair (.int .i64) .unit))))) s4)]) (fun s1 s2 s3 s4 hb => loop_round2 (S := ofL Sl121r16) (L := lofL Ll121r16) hSl121r16 (inlOK _) hp hJ (by kernel_rfl) hb)

abbrev S121 : List (Nat × Pat × Sp) := []
theorem hS121 : SpecOK E (ofL S121) := specOK_nil
abbrev L121 : List (Nat × List Nat × Pat × LSp) := [(122000004, [2, 3, 4, 5, 48, 49], none, lsl121r4), (122000010, [2, 3, 4, 5, 66, 67], none, lsl121r10), (122000016, [4, 5, 107, 108], none, lsl121r16)]
def sp121 : Sp := fun args τ K => asCons args fun a1 r1 => asD (.pair (.int .i64) (.pair (.sl (.pair (.pair (.int .i64) (.pair (.int .i64) (.pair (.int .i64) (.pair (.int .i64) (.pair (.int .i64) .unit))))) (.pair (.int .i64) .unit))) (.pair (.sl (.pair (.int .i64) (.pair (.int .i64) .unit))) (.pair (.sl (.pair (.int .i64) (.pair .bool (.pair (.sl (.int .i64)) (.pair (.int .i64) .unit))))) (.pair (.int .i64) .unit))))) a1 fun x1 => asCons r1 fun a2 r2 => asD (.pair (.int .i64) (.pair (.sl (.pair (.pair (.int .i64) (.pair (.int .i64) (.pair (.int .i64) (.pair (.int .i64) (.pair (.int .i64) .unit))))) (.pair (.int .i64) .unit))) (.pair (.sl (.pair (.int .i64) (.pair (.int .i64) .unit))) (.pair (.sl (.pair (.int .i64) (.pair .bool (.pair (.sl (.int .i64)) (.pair (.int .i64) .unit))))) (.pair (.int .i64) .unit))))) a2 fun x2 => asCons r2 fun a3 r3 => asD (.sl .bool) a3 fun x3 => asCons r3 fun a4 r4 => asD (.int .i64) a4 fun x4 => asNil r4 <| asNil τ <| c121 x1 x2 x3 x4 (fun z1 => K (B z1) [])
theorem h121 : ∀ args τ K, sp121 args τ K → ACall E 121 args τ K := by
  intro args τ K h0
  unfold sp121 at h0
  obtain ⟨a1, r1, rfl, h1⟩ := asCons_inv h0; clear h0
  obtain ⟨x1, rfl, h2⟩ := asD_inv h1; clear h1
  obtain ⟨a2, r2, rfl, h3⟩ := asCons_inv h2; clear h2
  obtain ⟨x2, rfl, h4⟩ := asD_inv h3; clear h3
  obtain ⟨a3, r3, rfl, h5⟩ := asCons_inv h4; clear h4
  obtain ⟨x3, rfl, h6⟩ := asD_inv h5; clear h5
  obtain ⟨a4, r4, rfl, h7⟩ := asCons_inv h6; clear h6
  obtain ⟨x4, rfl, h8⟩ := asD_inv h7; clear h7
  obtain ⟨rfl, h9⟩ := asNil_inv h8; clear h8
  obtain ⟨rfl, h10⟩ := asNil_inv h9; clear h9
  exact ACall.spec2 (fn := Try.f121) (c := codeOf Try.f121) (S := ofL S121) (L := lofL L121) hS121 (by kernel_rfl) (by kernel_rfl) (inlOK _) (all_eq (by kernel_rfl : subsOf (E.info 121).keep (codeOf Try.f121) = [.loop (body Try.f121 4), .loop (body Try.f121 10), .loop (body Try.f121 16)]) (all_cons (loopOK_of (mk := 122000004) (sl := [2, 3, 4, 5, 48, 49]) (ss := [([2, 3, 4, 5, 48, 49], lsl121r4)]) (by kernel_rfl) (by kernel_rfl) (all_cons l121r4v (all_nil))) (all_cons (loopOK_of (mk := 122000010) (sl := [2, 3, 4, 5, 66, 67]) (ss := [([2, 3, 4, 5, 66, 67], lsl121r10)]) (by kernel_rfl) (by kernel_rfl) (all_cons l121r10v (all_nil))) (all_cons (loopOK_of (mk := 122000016) (sl := [4, 5, 107, 108]) (ss := [([4, 5, 107, 108], lsl121r16)]) (by kernel_rfl) (by kernel_rfl) (all_cons l121r16v (all_nil))) (all_nil))))) (by kernel_rfl) h10.of

abbrev Sl57r15 : List (Nat × Pat × Sp) := [(121, none, sp121)]
theorem hSl57r15 : SpecOK E (ofL Sl57r15) := specOK_cons h121 (specOK_nil)
abbrev Ll57r15 : List (Nat × List Nat × Pat × LSp) := []
def lsl57r15 : LSp := fun vs σ K => asCons vs fun a1 r1 => asD (.sl (.pair (.int .i64) (.pair (.sl (.pair (.pair (.int .i64) (.pair (.int .i64) (.pair (.int .i64) (.pair (.int .i64) (.pair (.int .i64) .unit))))) (.pair (.int .i64) .unit))) (.pair (.sl (.pair (.int .i64) (.pair (.int .i64) .unit))) (.pair (.sl (.pair (.int .i64) (.pair .bool (.pair (.sl (.int .i64)) (.pair (.int .i64) .unit))))) (.pair (.int .i64) .unit)))))) a1 fun s1 => asCons r1 fun a2 r2 => asD (.int .i64) a2 fun s2 => asCons r2 fun a3 r3 => asP (.vec 0) a3 <| asCons r3 fun a4 r4 => asD .bool a4 fun s3 => asCons r4 fun a5 r5 => asD (.int .i64) a5 fun s4 => asCons r5 fun a6 r6 => asD (.int .i64) a6 fun s5 => asCons r6 fun a7 r7 => asD (.int .i64) a7 fun s6 => asCons r7 fun a8 r8 => asD (.int .i64) a8 fun s7 => asCons r8 fun a9 r9 => asD (.int .i64) a9 fun s8 => asNil r9 <| asCons σ fun a10 r10 => asRw .bool false a10 fun s9 => asNil r10 <| l57r15 (fun z1 z2 z3 z4 z5 z6 => K (.exit 6) [(0, .d (.sl (.pair (.int .i64) (.pair (.sl (.pair (.pair (.int .i64) (.pair (.int .i64) (.pair (.int .i64) (.pair (.int .i64) (.pair (.int .i64) .unit))))) (.pair (.int .i64) .unit))) (.pair (.sl (.pair (.int .i64) (.pair (.int .i64) .unit))) (.pair (.sl (.pair (.int .i64) (.pair .bool (.pair (.sl (.int .i64)) (.pair (.int .i64) .unit))))) (.pair (.int .i64) .unit)))))) z1), (3, I z2), (4, .vec 0), (6, B z3), (28, I z4), (29, I z5)] [.row .bool z6 false]) s1 s2 s3 s4 s5 s6 s7 s8 s9
theorem l57r15v : LoopV E (inlF (PA (ACall E)) E 8) (E.info 57).keep 0 Try.f57.ntmps 58000015 (body Try.f57 15) ([0, 3, 4, 6, 7, 28, 29, 32, 33], lsl57r15) := by
  intro vs σ K (h0 : lsl57r15 vs σ K)
  unfold lsl57r15 at h0
  obtain ⟨a1, r1, rfl, h1⟩ := asCons_inv h0; clear h0
  obtain ⟨s1, rfl, h2⟩ := asD_inv h1; clear h1
  obtain ⟨a2, r2, rfl, h3⟩ := asCons_inv h2; clear h2
  obtain ⟨s2, rfl, h4⟩ := asD_inv h3; clear h3
  obtain ⟨a3, r3, rfl, h5⟩ := asCons_inv h4; clear h4
  obtain ⟨rfl, h6⟩ := asP_inv h5; clear h5
  obtain ⟨a4, r4, rfl, h7⟩ := asCons_inv h6; clear h6
  obtain ⟨s3, rfl, h8⟩ := asD_inv h7; clear h7
  obtain ⟨a5, r5, rfl, h9⟩ := asCons_inv h8; clear h8
  obtain ⟨s4, rfl, h10⟩ := asD_inv h9; clear h9
  obtain ⟨a6, r6, rfl, h11⟩ := asCons_inv h10; clear h10
  obtain ⟨s5, rfl, h12⟩ := asD_inv h11; clear h11
  obtain ⟨a7, r7, rfl, h13⟩ := asCons_inv h12; clear h12
  obtain ⟨s6, rfl, h14⟩ := asD_inv h13; clear h13
  obtain ⟨a8, r8, rfl, h15⟩ := asCons_inv h14; clear h14
  obtain ⟨s7, rfl, h16⟩ := asD_inv h15; clear h15
  obtain ⟨a9, r9, rfl, h17⟩ := asCons_inv h16; clear h16
  obtain ⟨s8, rfl, h18⟩ := asD_inv h17; clear h17
  obtain ⟨rfl, h19⟩ := asNil_inv h18; clear h18
  obtain ⟨a10, r10, rfl, h20⟩ := asCons_inv h19; clear h19
  obtain ⟨s9, rfl, h21⟩ := asRw_inv h20; clear h20
  obtain ⟨rfl, h22⟩ := asNil_inv h21; clear h21
  intro J hJ
  have hp : ∀ c' ∈ subsOf (E.info 57).keep (body Try.f57 15), SubOK E (inlF (PA (ACall E)) E 8) (E.info 57).keep 0 Try.f57.ntmps (lofL Ll57r15) c' := all_eq (by kernel_rfl : subsOf (E.info 57).keep (body Try.f57 15) = []) (all_nil)
  exact h22.of (fun s1 s2 s3 s4 s5 s6 s7 s8 s9 => J [(58000015, .undef), (0, .d (.sl (.pair (.int .i64) (.pair (.sl (.pair (.pair (.int .i64) (.pair (.int .i64) (.pair (.int .i64) (.pair (.int .i64) (.pair (.int .i64) .unit))))) (.pair (.int .i64) .unit))) (.pair (.sl (.pair (.int .i64) (.pair (.int .i64) .unit))) (.pair (.sl (.pair (.int .i64) (.pair .bool (.pair (.sl (.int .i64)) (.pair (.int .i64) .unit))))) (.pair (.int .i64) .unit)))))) s1), (3, I s2), (4, .vec 0), (6, B s3), (7, I s4), (28, I s5), (29, I s6), (32, I s7), (33, I s8)] [.row .bool s9 false]) (fun s1 s2 s3 s4 s5 s6 s7 s8 s9 hb => loop_round2 (S := ofL Sl57r15) (L := lofL Ll57r15) hSl57r15 (inlOK _) hp hJ (by kernel_rfl) hb)

abbrev Sl57r12 : List (Nat × Pat × Sp) := []
theorem hSl57r12 : SpecOK E (ofL Sl57r12) := specOK_nil
abbrev Ll57r12 : List (Nat × List Nat × Pat × LSp) := [(58000015, [0, 3, 4, 6, 7, 28, 29, 32, 33], none, lsl57r15)]
def lsl57r12 : LSp := fun vs σ K => asCons vs fun a1 r1 => asD (.sl (.pair (.int .i64) (.pair (.sl (.pair (.pair (.int .i64) (.pair (.int .i64) (.pair (.int .i64) (.pair (.int .i64) (.pair (.int .i64) .unit))))) (.pair (.int .i64) .unit))) (.pair (.sl (.pair (.int .i64) (.pair (.int .i64) .unit))) (.pair (.sl (.pair (.int .i64) (.pair .bool (.pair (.sl (.int .i64)) (.pair (.int .i64) .unit))))) (.pair (.int .i64) .unit)))))) a1 fun s1 => asCons r1 fun a2 r2 => asD (.int .i64) a2 fun s2 => asCons r2 fun a3 r3 => asP (.vec 0) a3 <| asCons r3 fun a4 r4 => asD .bool a4 fun s3 => asCons r4 fun a5 r5 => asD (.int .i64) a5 fun s4 => asCons r5 fun a6 r6 => asD (.int .i64) a6 fun s5 => asNil r6 <| asCons σ fun a7 r7 => asRw .bool false a7 fun s6 => asNil r7 <| l57r12 (fun z1 z2 z3 z4 => K (.exit 4) [(0, .d (.sl (.pair (.int .i64) (.pair (.sl (.pair (.pair (.int .i64) (.pair (.int .i64) (.pair (.int .i64) (.pair (.int .i64) (.pair (.int .i64) .unit))))) (.pair (.int .i64) .unit))) (.pair (.sl (.pair (.int .i64) (.pair (.int .i64) .unit))) (.pair (.sl (.pair (.int .i64) (.pair .bool (.pair (.sl (.int .i64)) (.pair (.int .i64) .unit))))) (.pair (.int .i64) .unit)))))) z1), (3, I z2), (4, .vec 0), (6, B z3)] [.row .bool z4 false]) s1 s2 s3 s4 s5 s6
theorem l57r12v : LoopV E (inlF (PA (ACall E)) E 8) (E.info 57).keep 0 Try.f57.ntmps 58000012 (body Try.f57 12) ([0, 3, 4, 6, 28, 29], lsl57r12) := by
  intro vs σ K (h0 : lsl57r12 vs σ K)
  unfold lsl57r12 at h0
  obtain ⟨a1, r1, rfl, h1⟩ := asCons_inv h0; clear h0
  obtain ⟨s1, rfl, h2⟩ := asD_inv h1; clear h1
  obtain ⟨a2, r2, rfl, h3⟩ := asCons_inv h2; clear h2
  obtain ⟨s2, rfl, h4⟩ := asD_inv h3; clear h3
  obtain ⟨a3, r3, rfl, h5⟩ := asCons_inv h4; clear h4
  obtain ⟨rfl, h6⟩ := asP_inv h5; clear h5
  obtain ⟨a4, r4, rfl, h7⟩ := asCons_inv h6; clear h6
  obtain ⟨s3, rfl, h8⟩ := asD_inv h7; clear h7
  obtain ⟨a5, r5, rfl, h9⟩ := asCons_inv h8; clear h8
  obtain ⟨s4, rfl, h10⟩ := asD_inv h9; clear h9
  obtain ⟨a6, r6, rfl, h11⟩ := asCons_inv h10; clear h10
  obtain ⟨s5, rfl, h12⟩ := asD_inv h11; clear h11
  obtain ⟨rfl, h13⟩ := asNil_inv h12; clear h12
  obtain ⟨a7, r7, rfl, h14⟩ := asCons_inv h13; clear h13
  obtain ⟨s6, rfl, h15⟩ := asRw_inv h14; clear h14
  obtain ⟨rfl, h16⟩ := asNil_inv h15; clear h15
  intro J hJ
  have hp : ∀ c' ∈ subsOf (E.info 57).keep (body Try.f57 12), SubOK E (inlF (PA (ACall E)) E 8) (E.info 57).keep 0 Try.f57.ntmps (lofL Ll57r12) c' := all_eq (by kernel_rfl : subsOf (E.info 57).keep (body Try.f57 12) = [.loop (body Try.f57 15)]) (all_cons (loopOK_of (mk := 58000015) (sl := [0, 3, 4, 6, 7, 28, 29, 32, 33]) (ss := [([0, 3, 4, 6, 7, 28, 29, 32, 33], lsl57r15)]) (by kernel_rfl) (by kernel_rfl) (all_cons l57r15v (all_nil))) (all_nil))
  exact h16.of (fun s1 s2 s3 s4 s5 s6 => J [(58000012, .undef), (0, .d (.sl (.pair (.int .i64) (.pair (.sl (.pair (.pair (.int .i64) (.pair (.int .i64) (.pair (.int .i64) (.pair (.int .i64) (.pair (.int .i64) .unit))))) (.pair (.int .i64) .unit))) (.pair (.sl (.pair (.int .i64) (.pair (.int .i64) .unit))) (.pair (.sl (.pair (.int .i64) (.pair .bool (.pair (.sl (.int .i64)) (.pair (.int .i64) .unit))))) (.pair (.int .i64) .unit)))))) s1), (3, I s2), (4, .vec 0), (6, B s3), (28, I s4), (29, I s5)] [.row .bool s6 false]) (fun s1 s2 s3 s4 s5 s6 hb => loop_round2 (S := ofL Sl57r12) (L := lofL Ll57r12) hSl57r12 (inlOK _) hp hJ (by kernel_rfl) hb)

abbrev Sl57r9 : List (Nat × Pat × Sp) := []
theorem hSl57r9 : SpecOK E (ofL Sl57r9) := specOK_nil
abbrev Ll57r9 : List (Nat × List Nat × Pat × LSp) := [(58000012, [0, 3, 4, 6, 28, 29], none, lsl57r12)]
def lsl57r9 : LSp := fun vs σ K => asCons vs fun a1 r1 => asD (.sl (.pair (.int .i64) (.pair (.sl (.pair (.pair (.int .i64) (.pair (.int .i64) (.pair (.int .i64) (.pair (.int .i64) (.pair (.int .i64) .unit))))) (.pair (.int .i64) .unit))) (.pair (.sl (.pair (.int .i64) (.pair (.int .i64) .unit))) (.pair (.sl (.pair (.int .i64) (.pair .bool (.pair (.sl (.int .i64)) (.pair (.int .i64) .unit))))) (.pair (.int .i64) .unit)))))) a1 fun s1 => asCons r1 fun a2 r2 => asD (.int .i64) a2 fun s2 => asCons r2 fun a3 r3 => asP (.vec 0) a3 <| asCons r3 fun a4 r4 => asD .bool a4 fun s3 => asNil r4 <| asCons σ fun a5 r5 => asRw .bool false a5 fun s4 => asNil r5 <| l57r9 (fun z1 z2 => K (.exit 2) [(3, I z1), (4, .vec 0)] [.row .bool z2 false]) s1 s2 s3 s4
theorem l57r9v : LoopV E (inlF (PA (ACall E)) E 8) (E.info 57).keep 0 Try.f57.ntmps 58000009 (body Try.f57 9) ([0, 3, 4, 6], lsl57r9) := by
  intro vs σ K (h0 : lsl57r9 vs σ K)
  unfold lsl57r9 at h0
  obtain ⟨a1, r1, rfl, h1⟩ := asCons_inv h0; clear h0
  obtain ⟨s1, rfl, h2⟩ := asD_inv h1; clear h1
  obtain ⟨a2, r2, rfl, h3⟩ := asCons_inv h2; clear h2
  obtain ⟨s2, rfl, h4⟩ := asD_inv h3; clear h3
  obtain ⟨a3, r3, rfl, h5⟩ := asCons_inv h4; clear h4
  obtain ⟨rfl, h6⟩ := asP_inv h5; clear h5
  obtain ⟨a4, r4, rfl, h7⟩ := asCons_inv h6; clear h6
  obtain ⟨s3, rfl, h8⟩ := asD_inv h7; clear h7
  obtain ⟨rfl, h9⟩ := asNil_inv h8; clear h8
  obtain ⟨a5, r5, rfl, h10⟩ := asCons_inv h9; clear h9
  obtain ⟨s4, rfl, h11⟩ := asRw_inv h10; clear h10
  obtain ⟨rfl, h12⟩ := asNil_inv h11; clear h11
  intro J hJ
  have hp : ∀ c' ∈ subsOf (E.info 57).keep (body Try.f57 9), SubOK E (inlF (PA (ACall E)) E 8) (E.info 57).keep 0 Try.f57.ntmps (lofL Ll57r9) c' := all_eq (by kernel_rfl : subsOf (E.info 57).keep (body Try.f57 9) = [.loop (body Try.f57 12)]) (all_cons (loopOK_of (mk := 58000012) (sl := [0, 3, 4, 6, 28, 29]) (ss := [([0, 3, 4, 6, 28, 29], lsl57r12)]) (by kernel_rfl) (by kernel_rfl) (all_cons l57r12v (all_nil))) (all_nil))
  exact h12.of (fun s1 s2 s3 s4 => J [(58000009, .undef), (0, .d (.sl (.pair (.int .i64) (.pair (.sl (.pair (.pair (.int .i64) (.pair (.int .i64) (.pair (.int .i64) (.pair (.int .i64) (.pair (.int .i64) .unit))))) (.pair (.int .i64) .unit))) (.pair (.sl (.pair (.int .i64) (.pair (.int .i64) .unit))) (.pair (.sl (.pair (.int .i64) (.pair .bool (.pair (.sl (.int .i64)) (.pair (.int .i64) .unit))))) (.pair (.int .i64) .unit)))))) s1), (3, I s2), (4, .vec 0), (6, B s3)] [.row .bool s4 false]) (fun s1 s2 s3 s4 hb => loop_round2 (S := ofL Sl57r9) (L := lofL Ll57r9) hSl57r9 (inlOK _) hp hJ (by kernel_rfl) hb)

abbrev Sl57r26 : List (Nat × Pat × Sp) := []
theorem hSl57r26 : SpecOK E (ofL Sl57r26) := specOK_nil
abbrev Ll57r26 : List (Nat × List Nat × Pat × LSp) := []
def lsl57r26 : LSp := fun vs σ K => asCons vs fun a1 r1 => asD (.int .i64) a1 fun s1 => asCons r1 fun a2 r2 => asP (.vec 0) a2 <| asCons r2 fun a3 r3 => asP (.vec 1) a3 <| asCons r3 fun a4 r4 => asD (.int .i64) a4 fun s2 => asCons r4 fun a5 r5 => asD (.int .i64) a5 fun s3 => asCons r5 fun a6 r6 => asD (.int .i64) a6 fun s4 => asCons r6 fun a7 r7 => asD (.int .i64) a7 fun s5 => asNil r7 <| asCons σ fun a8 r8 => asRw .bool false a8 fun s6 => asCons r8 fun a9 r9 => asRw (.int .i64) false a9 fun s7 => asNil r9 <| l57r26 (fun z1 z2 z3 z4 z5 z6 => K (.exit 10) [(3, I z1), (4, .vec 0), (9, .vec 1), (11, I z2), (67, I z3), (68, I z4)] [.row .bool z5 false, .row (.int .i64) z6 false]) s1 s2 s3 s4 s5 s6 s7
theorem l57r26v : LoopV E (inlF (PA (ACall E)) E 8) (E.info 57).keep 0 Try.f57.ntmps 58000026 (body Try.f57 26) ([3, 4, 9, 10, 11, 67, 68], lsl57r26) := by
  intro vs σ K (h0 : lsl57r26 vs σ K)
  unfold lsl57r26 at h0
  obtain ⟨a1, r1, rfl, h1⟩ := asCons_inv h0; clear h0
  obtain ⟨s1, rfl, h2⟩ := asD_inv h1; clear h1
  obtain ⟨a2, r2, rfl, h3⟩ := asCons_inv h2; clear h2
  obtain ⟨rfl, h4⟩ := asP_inv h3; clear h3
  obtain ⟨a3, r3, rfl, h5⟩ := asCons_inv h4; clear h4
  obtain ⟨rfl, h6⟩ := asP_inv h5; clear h5
  obtain ⟨a4, r4, rfl, h7⟩ := asCons_inv h6; clear h6
  obtain ⟨s2, rfl, h8⟩ := asD_inv h7; clear h7
  obtain ⟨a5, r5, rfl, h9⟩ := asCons_inv h8; clear h8
  obtain ⟨s3, rfl, h10⟩ := asD_inv h9; clear h9
  obtain ⟨a6, r6, rfl, h11⟩ := asCons_inv h10; clear h10
  obtain ⟨s4, rfl, h12⟩ := asD_inv h11; clear h11
  obtain ⟨a7, r7, rfl, h13⟩ := asCons_inv h12; clear h12
  obtain ⟨s5, rfl, h14⟩ := asD_inv h13; clear h13
  obtain ⟨rfl, h15⟩ := asNil_inv h14; clear h14
  obtain ⟨a8, r8, rfl, h16⟩ := asCons_inv h15; clear h15
  obtain ⟨s6, rfl, h17⟩ := asRw_inv h16; clear h16
  obtain ⟨a9, r9, rfl, h18⟩ := asCons_inv h17; clear h17
  obtain ⟨s7, rfl, h19⟩ := asRw_inv h18; clear h18
  obtain ⟨rfl, h20⟩ := asNil_inv h19; clear h19
  intro J hJ
  have hp : ∀ c' ∈ subsOf (E.info 57).keep (body Try.f57 26), SubOK E (inlF (PA (ACall E)) E 8) (E.info 57).keep 0 Try.f57.ntmps (lofL Ll57r26) c' := all_eq (by kernel_rfl : subsOf (E.info 57).keep (body Try.f57 26) = []) (all_nil)
  exact h20.of (fun s1 s2 s3 s4 s5 s6 s7 => J [(58000026, .undef), (3, I s1), (4, .vec 0), (9, .vec 1), (10, I s2), (11, I s3), (67, I s4), (68, I s5)] [.row .bool s6 false, .row (.int .i64) s7 false]) (fun s1 s2 s3 s4 s5 s6 s7 hb => loop_round2 (S := ofL Sl57r26) (L := lofL Ll57r26) hSl57r26 (inlOK _) hp hJ (by kernel_rfl) hb)

abbrev Sl57r23 : List (Nat × Pat × Sp) := []
theorem hSl57r23 : SpecOK E (ofL Sl57r23) := specOK_nil
abbrev Ll57r23 : List (Nat × List Nat × Pat × LSp) := [(58000026, [3, 4, 9, 10, 11, 67, 68], none, lsl57r26)]
def lsl57r23 : LSp := fun vs σ K => asCons vs fun a1 r1 => asD (.int .i64) a1 fun s1 => asCons r1 fun a2 r2 => asP (.vec 0) a2 <| asCons r2 fun a3 r3 => asP (.vec 1) a3 <| asCons r3 fun a4 r4 => asD (.int .i64) a4 fun s2 => asCons r4 fun a5 r5 => asD (.int .i64) a5 fun s3 => asNil r5 <| asCons σ fun a6 r6 => asRw .bool false a6 fun s4 => asCons r6 fun a7 r7 => asRw (.int .i64) false a7 fun s5 => asNil r7 <| l57r23 (fun z1 => K (.exit 8) [(9, .vec 0)] [.row (.int .i64) z1 false]) s1 s2 s3 s4 s5
theorem l57r23v : LoopV E (inlF (PA (ACall E)) E 8) (E.info 57).keep 0 Try.f57.ntmps 58000023 (body Try.f57 23) ([3, 4, 9, 67, 68], lsl57r23) := by
  intro vs σ K (h0 : lsl57r23 vs σ K)
  unfold lsl57r23 at h0
  obtain ⟨a1, r1, rfl, h1⟩ := asCons_inv h0; clear h0
  obtain ⟨s1, rfl, h2⟩ := asD_inv h1; clear h1
  obtain ⟨a2, r2, rfl, h3⟩ := asCons_inv h2; clear h2
  obtain ⟨rfl, h4⟩ := asP_inv h3; clear h3
  obtain ⟨a3, r3, rfl, h5⟩ := asCons_inv h4; clear h4
  obtain ⟨rfl, h6⟩ := asP_inv h5; clear h5
  obtain ⟨a4, r4, rfl, h7⟩ := asCons_inv h6; clear h6
  obtain ⟨s2, rfl, h8⟩ := asD_inv h7; clear h7
  obtain ⟨a5, r5, rfl, h9⟩ := asCons_inv h8; clear h8
  obtain ⟨s3, rfl, h10⟩ := asD_inv h9; clear h9
  obtain ⟨rfl, h11⟩ := asNil_inv h10; clear h10
  obtain ⟨a6, r6, rfl, h12⟩ := asCons_inv h11; clear h11
  obtain ⟨s4, rfl, h13⟩ := asRw_inv h12; clear h12
  obtain ⟨a7, r7, rfl, h14⟩ := asCons_inv h13; clear h13
  obtain ⟨s5, rfl, h15⟩ := asRw_inv h14; clear h14
  obtain ⟨rfl, h16⟩ := asNil_inv h15; clear h15
  intro J hJ
  have hp : ∀ c' ∈ subsOf (E.info 57).keep (body Try.f57 23), SubOK E (inlF (PA (ACall E)) E 8) (E.info 57).keep 0 Try.f57.ntmps (lofL Ll57r23) c' := all_eq (by kernel_rfl : subsOf (E.info 57).keep (body Try.f57 23) = [.loop (body Try.f57 26)]) (all_cons (loopOK_of (mk := 58000026) (sl := [3, 4, 9, 10, 11, 67, 68]) (ss := [([3, 4, 9, 10, 11, 67, 68], lsl57r26)]) (by kernel_rfl) (by kernel_rfl) (all_cons l57r26v (all_nil))) (all_nil))
  exact h16.of (fun s1 s2 s3 s4 s5 => J [(58000023, .undef), (3, I s1), (4, .vec 0), (9, .vec 1), (67, I s2), (68, I s3)] [.row .bool s4 false, .row (.int .i64) s5 false]) (fun s1 s2 s3 s4 s5 hb => loop_round2 (S := ofL Sl57r23) (L := lofL Ll57r23) hSl57r23 (inlOK _) hp hJ (by kernel_rfl) hb)

abbrev S57 : List (Nat × Pat × Sp) := []
theorem hS57 : SpecOK E (ofL S57) := specOK_nil
abbrev L57 : List (Nat × List Nat × Pat × LSp) := [(58000004, [0, 3, 4, 19, 20], none, lsl57r4), (58000009, [0, 3, 4, 6], none, lsl57r9), (58000023, [3, 4, 9, 67, 68], none, lsl57r23)]
def sp57 : Sp := fun args τ K => asCons args fun a1 r1 => asD (.sl (.pair (.int .i64) (.pair (.sl (.pair (.pair (.int .i64) (.pair (.int .i64) (.pair (.int .i64) (.pair (.int .i64) (.pair (.int .i64) .unit))))) (.pair (.int .i64) .unit))) (.pair (.sl (.pair (.int .i64) (.pair (.int .i64) .unit))) (.pair (.sl (.pair (.int .i64) (.pair .bool (.pair (.sl (.int .i64)) (.pair (.int .i64) .unit))))) (.pair (.int .i64) .unit)))))) a1 fun x1 => asNil r1 <| asNil τ <| c57 x1 (fun z1 => K (.vec 0) [.row (.int .i64) z1 false])
theorem h57 : ∀ args τ K, sp57 args τ K → ACall E 57 args τ K := by
  intro args τ K h0
  unfold sp57 at h0
  obtain ⟨a1, r1, rfl, h1⟩ := asCons_inv h0; clear h0
  obtain ⟨x1, rfl, h2⟩ := asD_inv h1; clear h1
  obtain ⟨rfl, h3⟩ := asNil_inv h2; clear h2
  obtain ⟨rfl, h4⟩ := asNil_inv h3; clear h3
  exact ACall.spec2 (fn := Try.f57) (c := codeOf Try.f57) (S := ofL S57) (L := lofL L57) hS57 (by kernel_rfl) (by kernel_rfl) (inlOK _) (all_eq (by kernel_rfl : subsOf (E.info 57).keep (codeOf Try.f57) = [.loop (body Try.f57 4), .loop (body Try.f57 9), .loop (body Try.f57 23)]) (all_cons (loopOK_of (mk := 58000004) (sl := [0, 3, 4, 19, 20]) (ss := [([0, 3, 4, 19, 20], lsl57r4)]) (by kernel_rfl) (by kernel_rfl) (all_cons l57r4v (all_nil))) (all_cons (loopOK_of (mk := 58000009) (sl := [0, 3, 4, 6]) (ss := [([0, 3, 4, 6], lsl57r9)]) (by kernel_rfl) (by kernel_rfl) (all_cons l57r9v (all_nil))) (all_cons (loopOK_of (mk := 58000023) (sl := [3, 4, 9, 67, 68]) (ss := [([3, 4, 9, 67, 68], lsl57r23)]) (by kernel_rfl) (by kernel_rfl) (all_cons l57r23v (all_nil))) (all_nil))))) (by kernel_rfl) h4.of

abbrev S10 : List (Nat × Pat × Sp) := [(54, none, sp54), (55, none, sp55), (56, none, sp56), (57, none, sp57), (32, none, sp32)]
theorem hS10 : SpecOK E (ofL S10) := specOK_cons h54 (specOK_cons h55 (specOK_cons h56 (specOK_cons h57 (specOK_cons h32 (specOK_nil)))))
abbrev L10 : List (Nat × List Nat × Pat × LSp) := []
def sp10 : Sp := fun args τ K => asCons args fun a1 r1 => asD (.sl (.pair (.int .i64) (.pair (.sl (.pair (.pair (.int .i64) (.pair (.int .i64) (.pair (.int .i64) (.pair (.int .i64) (.pair (.int .i64) .unit))))) (.pair (.int .i64) .unit))) (.pair (.sl (.pair (.int .i64) (.pair (.int .i64) .unit))) (.pair (.sl (.pair (.int .i64) (.pair .bool (.pair (.sl (.int .i64)) (.pair (.int .i64) .unit))))) (.pair (.int .i64) .unit)))))) a1 fun x1 => asNil r1 <| asNil τ <| c10 x1 (fun z1 => K (B z1) [])
theorem h10 : ∀ args τ K, sp10 args τ K → ACall E 10 args τ K := by
  intro args τ K h0
  unfold sp10 at h0
  obtain ⟨a1, r1, rfl, h1⟩ := asCons_inv h0; clear h0
  obtain ⟨x1, rfl, h2⟩ := asD_inv h1; clear h1
  obtain ⟨rfl, h3⟩ := asNil_inv h2; clear h2
  obtain ⟨rfl, h4⟩ := asNil_inv h3; clear h3
  exact ACall.spec2 (fn := Try.f10) (c := codeOf Try.f10) (S := ofL S10) (L := lofL L10) hS10 (by kernel_rfl) (by kernel_rfl) (inlOK _) (all_eq (by kernel_rfl : subsOf (E.info 10).keep (codeOf Try.f10) = []) (all_nil)) (by kernel_rfl) h4.of

end Go.Proofs.Ytfdoaacapkopmaa
