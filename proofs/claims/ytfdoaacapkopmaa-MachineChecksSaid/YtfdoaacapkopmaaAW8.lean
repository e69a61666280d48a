/- The functions compute that (printed by a program). -/
import Derived.Test.YtfdoaacapkopmaaAD8
import Derived.Test.YtfdoaacapkopmaaAEnvC
import Derived.KernelRfl
namespace Go.Proofs.Ytfdoaacapkopmaa
open Go.Abs
set_option maxRecDepth 100000
set_option maxHeartbeats 4000000
set_option linter.unusedVariables false
abbrev S43 : List (Nat × Pat × Sp) := []
theorem hS43 : SpecOK E (ofL S43) := specOK_nil
abbrev L43 : List (Nat × List Nat × Pat × LSp) := []
def sp43 : Sp := fun args τ K => asCons args fun a1 r1 => asD (.int .i64) a1 fun x1 => asNil r1 <| asNil τ <| c43 x1 (fun z1 => K (.d (.pair (.int .i64) (.pair (.int .i64) (.pair (.int .i64) (.pair (.int .i64) (.pair (.pair (.int .i64) (.pair (.int .i64) (.pair (.int .i64) (.pair (.int .i64) .unit)))) (.pair (.pair (.int .i64) (.pair (.int .i64) (.pair (.int .i64) (.pair (.int .i64) .unit)))) (.pair (.int .i64) .unit))))))) z1) [])
theorem h43 : ∀ args τ K, sp43 args τ K → ACall E 43 args τ K := by
  intro args τ K h0
  unfold sp43 at h0
  obtain ⟨a1, r1, rfl, h1⟩ := asCons_inv h0; clear h0
  obtain ⟨x1, rfl, h2⟩ := asD_inv h1; clear h1
  obtain ⟨rfl, h3⟩ := asNil_inv h2; clear h2
  obtain ⟨rfl, h4⟩ := asNil_inv h3; clear h3
  exact ACall.spec2 (fn := Try.f43) (c := codeOf Try.f43) (S := ofL S43) (L := lofL L43) hS43 (by kernel_rfl) (by kernel_rfl) (inlOK _) (all_eq (by kernel_rfl : subsOf (E.info 43).keep (codeOf Try.f43) = []) (all_nil)) (by kernel_rfl) h4.of

abbrev S127 : List (Nat × Pat × Sp) := []
theorem hS127 : SpecOK E (ofL S127) := specOK_nil
abbrev L127 : List (Nat × List Nat × Pat × LSp) := []
def sp127 : Sp := fun args τ K => asCons args fun a1 r1 => asD (.int .i64) a1 fun x1 => asCons r1 fun a2 r2 => asD (.int .i64) a2 fun x2 => asCons r2 fun a3 r3 => asD (.int .i64) a3 fun x3 => asNil r3 <| asNil τ <| c127 x1 x2 x3 (fun z1 => K (B z1) [])
theorem h127 : ∀ args τ K, sp127 args τ K → ACall E 127 args τ K := by
  intro args τ K h0
  unfold sp127 at h0
  obtain ⟨a1, r1, rfl, h1⟩ := asCons_inv h0; clear h0
  obtain ⟨x1, rfl, h2⟩ := asD_inv h1; clear h1
  obtain ⟨a2, r2, rfl, h3⟩ := asCons_inv h2; clear h2
  obtain ⟨x2, rfl, h4⟩ := asD_inv h3; clear h3
  obtain ⟨a3, r3, rfl, h5⟩ := asCons_inv h4; clear h4
  obtain ⟨x3, rfl, h6⟩ := asD_inv h5; clear h5
  obtain ⟨rfl, h7⟩ := asNil_inv h6; clear h6
  obtain ⟨rfl, h8⟩ := asNil_inv h7; clear h7
  exact ACall.spec2 (fn := Try.f127) (c := codeOf Try.f127) (S := ofL S127) (L := lofL L127) hS127 (by kernel_rfl) (by kernel_rfl) (inlOK _) (all_eq (by kernel_rfl : subsOf (E.info 127).keep (codeOf Try.f127) = []) (all_nil)) (by kernel_rfl) h8.of

abbrev S66 : List (Nat × Pat × Sp) := [(127, none, sp127)]
theorem hS66 : SpecOK E (ofL S66) := specOK_cons h127 (specOK_nil)
abbrev L66 : List (Nat × List Nat × Pat × LSp) := []
def sp66 : Sp := fun args τ K => asCons args fun a1 r1 => asD (.int .i64) a1 fun x1 => asCons r1 fun a2 r2 => asD (.int .i64) a2 fun x2 => asCons r2 fun a3 r3 => asD (.int .i64) a3 fun x3 => asNil r3 <| asNil τ <| c66 x1 x2 x3 (fun z1 z2 => K (.tup [.d (.opq .ptr) z1, I z2]) []) (fun z1 z2 z3 z4 z5 z6 z7 z8 => K (.tup [.ptr 0 0 [], I z1]) [.one (.pair (.sl (.int .i64)) (.pair (.int .i64) (.pair (.int .i64) (.pair (.int .i64) (.pair (.int .i64) (.pair (.int .i64) (.pair (.int .i64) (.pair (.sl (.int .i64)) .unit)))))))) (.agg [.vec 1, I z2, I z3, I z4, I z5, I z6, I z7, .nils (.int .i64)]), .row (.int .i64) z8 false])
theorem h66 : ∀ args τ K, sp66 args τ K → ACall E 66 args τ K := by
  intro args τ K h0
  unfold sp66 at h0
  obtain ⟨a1, r1, rfl, h1⟩ := asCons_inv h0; clear h0
  obtain ⟨x1, rfl, h2⟩ := asD_inv h1; clear h1
  obtain ⟨a2, r2, rfl, h3⟩ := asCons_inv h2; clear h2
  obtain ⟨x2, rfl, h4⟩ := asD_inv h3; clear h3
  obtain ⟨a3, r3, rfl, h5⟩ := asCons_inv h4; clear h4
  obtain ⟨x3, rfl, h6⟩ := asD_inv h5; clear h5
  obtain ⟨rfl, h7⟩ := asNil_inv h6; clear h6
  obtain ⟨rfl, h8⟩ := asNil_inv h7; clear h7
  exact ACall.spec2 (fn := Try.f66) (c := codeOf Try.f66) (S := ofL S66) (L := lofL L66) hS66 (by kernel_rfl) (by kernel_rfl) (inlOK _) (all_eq (by kernel_rfl : subsOf (E.info 66).keep (codeOf Try.f66) = []) (all_nil)) (by kernel_rfl) h8.of

abbrev S124 : List (Nat × Pat × Sp) := []
theorem hS124 : SpecOK E (ofL S124) := specOK_nil
abbrev L124 : List (Nat × List Nat × Pat × LSp) := []
def sp124 : Sp := fun args τ K => asCons args fun a1 r1 => asD (.int .i64) a1 fun x1 => asCons r1 fun a2 r2 => asD (.int .i64) a2 fun x2 => asCons r2 fun a3 r3 => asD (.int .i64) a3 fun x3 => asNil r3 <| asNil τ <| c124 x1 x2 x3 (fun z1 => K (B z1) [])
theorem h124 : ∀ args τ K, sp124 args τ K → ACall E 124 args τ K := by
  intro args τ K h0
  unfold sp124 at h0
  obtain ⟨a1, r1, rfl, h1⟩ := asCons_inv h0; clear h0
  obtain ⟨x1, rfl, h2⟩ := asD_inv h1; clear h1
  obtain ⟨a2, r2, rfl, h3⟩ := asCons_inv h2; clear h2
  obtain ⟨x2, rfl, h4⟩ := asD_inv h3; clear h3
  obtain ⟨a3, r3, rfl, h5⟩ := asCons_inv h4; clear h4
  obtain ⟨x3, rfl, h6⟩ := asD_inv h5; clear h5
  obtain ⟨rfl, h7⟩ := asNil_inv h6; clear h6
  obtain ⟨rfl, h8⟩ := asNil_inv h7; clear h7
  exact ACall.spec2 (fn := Try.f124) (c := codeOf Try.f124) (S := ofL S124) (L := lofL L124) hS124 (by kernel_rfl) (by kernel_rfl) (inlOK _) (all_eq (by kernel_rfl : subsOf (E.info 124).keep (codeOf Try.f124) = []) (all_nil)) (by kernel_rfl) h8.of

abbrev S122 : List (Nat × Pat × Sp) := [(124, none, sp124)]
theorem hS122 : SpecOK E (ofL S122) := specOK_cons h124 (specOK_nil)
abbrev L122 : List (Nat × List Nat × Pat × LSp) := []
def sp122 : Sp := fun args τ K => asCons args fun a1 r1 => asD (.pair (.int .i64) (.pair (.int .i64) (.pair (.int .i64) (.pair (.int .i64) .unit)))) a1 fun x1 => asNil r1 <| asNil τ <| c122 x1 (fun z1 => K (I z1) [])
theorem h122 : ∀ args τ K, sp122 args τ K → ACall E 122 args τ K := by
  intro args τ K h0
  unfold sp122 at h0
  obtain ⟨a1, r1, rfl, h1⟩ := asCons_inv h0; clear h0
  obtain ⟨x1, rfl, h2⟩ := asD_inv h1; clear h1
  obtain ⟨rfl, h3⟩ := asNil_inv h2; clear h2
  obtain ⟨rfl, h4⟩ := asNil_inv h3; clear h3
  exact ACall.spec2 (fn := Try.f122) (c := codeOf Try.f122) (S := ofL S122) (L := lofL L122) hS122 (by kernel_rfl) (by kernel_rfl) (inlOK _) (all_eq (by kernel_rfl : subsOf (E.info 122).keep (codeOf Try.f122) = []) (all_nil)) (by kernel_rfl) h4.of

abbrev S123 : List (Nat × Pat × Sp) := []
theorem hS123 : SpecOK E (ofL S123) := specOK_nil
abbrev L123 : List (Nat × List Nat × Pat × LSp) := []
def sp123 : Sp := fun args τ K => asCons args fun a1 r1 => asD (.pair (.int .i64) (.pair (.int .i64) (.pair (.int .i64) (.pair (.int .i64) .unit)))) a1 fun x1 => asNil r1 <| asNil τ <| c123 x1 (fun z1 z2 => K (.ptr 0 0 []) [.one (.pair (.pair (.int .i64) (.pair (.int .i64) (.pair (.int .i64) (.pair (.int .i64) .unit)))) (.pair (.sl (.sl (.pair (.int .i64) (.pair .bool .unit)))) .unit)) (.agg [.d (.pair (.int .i64) (.pair (.int .i64) (.pair (.int .i64) (.pair (.int .i64) .unit)))) z1, .vec 1]), .row (.sl (.pair (.int .i64) (.pair .bool .unit))) z2 false])
theorem h123 : ∀ args τ K, sp123 args τ K → ACall E 123 args τ K := by
  intro args τ K h0
  unfold sp123 at h0
  obtain ⟨a1, r1, rfl, h1⟩ := asCons_inv h0; clear h0
  obtain ⟨x1, rfl, h2⟩ := asD_inv h1; clear h1
  obtain ⟨rfl, h3⟩ := asNil_inv h2; clear h2
  obtain ⟨rfl, h4⟩ := asNil_inv h3; clear h3
  exact ACall.spec2 (fn := Try.f123) (c := codeOf Try.f123) (S := ofL S123) (L := lofL L123) hS123 (by kernel_rfl) (by kernel_rfl) (inlOK _) (all_eq (by kernel_rfl : subsOf (E.info 123).keep (codeOf Try.f123) = []) (all_nil)) (by kernel_rfl) h4.of

abbrev S59 : List (Nat × Pat × Sp) := [(122, none, sp122), (123, none, sp123)]
theorem hS59 : SpecOK E (ofL S59) := specOK_cons h122 (specOK_cons h123 (specOK_nil))
abbrev L59 : List (Nat × List Nat × Pat × LSp) := []
def sp59 : Sp := fun args τ K => asCons args fun a1 r1 => asD (.pair (.int .i64) (.pair (.int .i64) (.pair (.int .i64) (.pair (.int .i64) .unit)))) a1 fun x1 => asCons r1 fun a2 r2 => asD (.pair (.int .i64) (.pair (.int .i64) (.pair (.int .i64) (.pair (.int .i64) .unit)))) a2 fun x2 => asNil r2 <| asNil τ <| c59 x1 x2 (fun z1 z2 => K (.tup [.d (.opq .ptr) z1, I z2]) []) (fun z1 z2 z3 z4 z5 z6 => K (.tup [.ptr 0 0 [], I z1]) [.one (.pair (.opq .ptr) (.pair (.opq .ptr) (.pair (.int .i64) .unit))) (.agg [.ptr 1 0 [], .ptr 3 0 [], I z2]), .one (.pair (.pair (.int .i64) (.pair (.int .i64) (.pair (.int .i64) (.pair (.int .i64) .unit)))) (.pair (.sl (.sl (.pair (.int .i64) (.pair .bool .unit)))) .unit)) (.agg [.d (.pair (.int .i64) (.pair (.int .i64) (.pair (.int .i64) (.pair (.int .i64) .unit)))) z3, .vec 2]), .row (.sl (.pair (.int .i64) (.pair .bool .unit))) z4 false, .one (.pair (.pair (.int .i64) (.pair (.int .i64) (.pair (.int .i64) (.pair (.int .i64) .unit)))) (.pair (.sl (.sl (.pair (.int .i64) (.pair .bool .unit)))) .unit)) (.agg [.d (.pair (.int .i64) (.pair (.int .i64) (.pair (.int .i64) (.pair (.int .i64) .unit)))) z5, .vec 4]), .row (.sl (.pair (.int .i64) (.pair .bool .unit))) z6 false])
theorem h59 : ∀ args τ K, sp59 args τ K → ACall E 59 args τ K := by
  intro args τ K h0
  unfold sp59 at h0
  obtain ⟨a1, r1, rfl, h1⟩ := asCons_inv h0; clear h0
  obtain ⟨x1, rfl, h2⟩ := asD_inv h1; clear h1
  obtain ⟨a2, r2, rfl, h3⟩ := asCons_inv h2; clear h2
  obtain ⟨x2, rfl, h4⟩ := asD_inv h3; clear h3
  obtain ⟨rfl, h5⟩ := asNil_inv h4; clear h4
  obtain ⟨rfl, h6⟩ := asNil_inv h5; clear h5
  exact ACall.spec2 (fn := Try.f59) (c := codeOf Try.f59) (S := ofL S59) (L := lofL L59) hS59 (by kernel_rfl) (by kernel_rfl) (inlOK _) (all_eq (by kernel_rfl : subsOf (E.info 59).keep (codeOf Try.f59) = []) (all_nil)) (by kernel_rfl) h6.of

abbrev Sl15r5 : List (Nat × Pat × Sp) := []
theorem hSl15r5 : SpecOK E (ofL Sl15r5) := specOK_nil
abbrev Ll15r5 : List (Nat × List Nat × Pat × LSp) := []
def lsl15r5 : LSp := fun vs σ K => asCons vs fun a1 r1 => asP (.ptr 0 0 []) a1 <| asCons r1 fun a2 r2 => asD (.int .i64) a2 fun s1 => asCons r2 fun a3 r3 => asD (.int .i64) a3 fun s2 => asNil r3 <| asCons σ fun a4 r4 => asOne (.pair (.sl (.int .i64)) (.pair (.int .i64) .unit)) a4 fun a5 => asAgL a5 fun l6 => asCons l6 fun a7 r7 => asP (.vec 1) a7 <| asCons r7 fun a8 r8 => asD (.int .i64) a8 fun s3 => asNil r8 <| asCons r4 fun a9 r9 => asRw (.int .i64) false a9 fun s4 => asNil r9 <| l15r5 (fun z1 z2 => K (.exit 0) [(4, .ptr 0 0 [])] [.one (.pair (.sl (.int .i64)) (.pair (.int .i64) .unit)) (.agg [.vec 1, I z1]), .row (.int .i64) z2 false]) s1 s2 s3 s4
theorem l15r5v : LoopV E (inlF (PA (ACall E)) E 8) (E.info 15).keep 0 Try.f15.ntmps 16000005 (body Try.f15 5) ([4, 20, 21], lsl15r5) := by
  intro vs σ K (h0 : lsl15r5 vs σ K)
  unfold lsl15r5 at h0
  obtain ⟨a1, r1, rfl, h1⟩ := asCons_inv h0; clear h0
  obtain ⟨rfl, h2⟩ := asP_inv h1; clear h1
  obtain ⟨a2, r2, rfl, h3⟩ := asCons_inv h2; clear h2
  obtain ⟨s1, rfl, h4⟩ := asD_inv h3; clear h3
  obtain ⟨a3, r3, rfl, h5⟩ := asCons_inv h4; clear h4
  obtain ⟨s2, rfl, h6⟩ := asD_inv h5; clear h5
  obtain ⟨rfl, h7⟩ := asNil_inv h6; clear h6
  obtain ⟨a4, r4, rfl, h8⟩ := asCons_inv h7; clear h7
  obtain ⟨a5, rfl, h9⟩ := asOne_inv h8; clear h8
  obtain ⟨l6, rfl, h10⟩ := asAgL_inv h9; clear h9
  obtain ⟨a7, r7, rfl, h11⟩ := asCons_inv h10; clear h10
  obtain ⟨rfl, h12⟩ := asP_inv h11; clear h11
  obtain ⟨a8, r8, rfl, h13⟩ := asCons_inv h12; clear h12
  obtain ⟨s3, rfl, h14⟩ := asD_inv h13; clear h13
  obtain ⟨rfl, h15⟩ := asNil_inv h14; clear h14
  obtain ⟨a9, r9, rfl, h16⟩ := asCons_inv h15; clear h15
  obtain ⟨s4, rfl, h17⟩ := asRw_inv h16; clear h16
  obtain ⟨rfl, h18⟩ := asNil_inv h17; clear h17
  intro J hJ
  have hp : ∀ c' ∈ subsOf (E.info 15).keep (body Try.f15 5), SubOK E (inlF (PA (ACall E)) E 8) (E.info 15).keep 0 Try.f15.ntmps (lofL Ll15r5) c' := all_eq (by kernel_rfl : subsOf (E.info 15).keep (body Try.f15 5) = []) (all_nil)
  exact h18.of (fun s1 s2 s3 s4 => J [(16000005, .undef), (4, .ptr 0 0 []), (20, I s1), (21, I s2)] [.one (.pair (.sl (.int .i64)) (.pair (.int .i64) .unit)) (.agg [.vec 1, I s3]), .row (.int .i64) s4 false]) (fun s1 s2 s3 s4 hb => loop_round2 (S := ofL Sl15r5) (L := lofL Ll15r5) hSl15r5 (inlOK _) hp hJ (by kernel_rfl) hb)

abbrev S15 : List (Nat × Pat × Sp) := []
theorem hS15 : SpecOK E (ofL S15) := specOK_nil
abbrev L15 : List (Nat × List Nat × Pat × LSp) := [(16000005, [4, 20, 21], none, lsl15r5)]
def sp15 : Sp := fun args τ K => asCons args fun a1 r1 => asD (.int .i64) a1 fun x1 => asNil r1 <| asNil τ <| c15 x1 (fun z1 z2 => K (.tup [.d (.opq .ptr) z1, I z2]) []) (fun z1 z2 z3 => K (.tup [.ptr 0 0 [], I z1]) [.one (.pair (.sl (.int .i64)) (.pair (.int .i64) .unit)) (.agg [.vec 1, I z2]), .row (.int .i64) z3 false])
theorem h15 : ∀ args τ K, sp15 args τ K → ACall E 15 args τ K := by
  intro args τ K h0
  unfold sp15 at h0
  obtain ⟨a1, r1, rfl, h1⟩ := asCons_inv h0; clear h0
  obtain ⟨x1, rfl, h2⟩ := asD_inv h1; clear h1
  obtain ⟨rfl, h3⟩ := asNil_inv h2; clear h2
  obtain ⟨rfl, h4⟩ := asNil_inv h3; clear h3
  exact ACall.spec2 (fn := Try.f15) (c := codeOf Try.f15) (S := ofL S15) (L := lofL L15) hS15 (by kernel_rfl) (by kernel_rfl) (inlOK _) (all_eq (by kernel_rfl : subsOf (E.info 15).keep (codeOf Try.f15) = [.loop (body Try.f15 5)]) (all_cons (loopOK_of (mk := 16000005) (sl := [4, 20, 21]) (ss := [([4, 20, 21], lsl15r5)]) (by kernel_rfl) (by kernel_rfl) (all_cons l15r5v (all_nil))) (all_nil))) (by kernel_rfl) h4.of

abbrev S42 : List (Nat × Pat × Sp) := [(66, none, sp66), (59, none, sp59), (15, none, sp15)]
theorem hS42 : SpecOK E (ofL S42) := specOK_cons h66 (specOK_cons h59 (specOK_cons h15 (specOK_nil)))
abbrev L42 : List (Nat × List Nat × Pat × LSp) := []
def sp42 : Sp := fun args τ K => asCons args fun a1 r1 => asD (.pair (.int .i64) (.pair (.int .i64) (.pair (.int .i64) (.pair (.int .i64) (.pair (.pair (.int .i64) (.pair (.int .i64) (.pair (.int .i64) (.pair (.int .i64) .unit)))) (.pair (.pair (.int .i64) (.pair (.int .i64) (.pair (.int .i64) (.pair (.int .i64) .unit)))) (.pair (.int .i64) .unit))))))) a1 fun x1 => asNil r1 <| asNil τ <| c42 x1 (fun z1 => K (I z1) [])
theorem h42 : ∀ args τ K, sp42 args τ K → ACall E 42 args τ K := by
  intro args τ K h0
  unfold sp42 at h0
  obtain ⟨a1, r1, rfl, h1⟩ := asCons_inv h0; clear h0
  obtain ⟨x1, rfl, h2⟩ := asD_inv h1; clear h1
  obtain ⟨rfl, h3⟩ := asNil_inv h2; clear h2
  obtain ⟨rfl, h4⟩ := asNil_inv h3; clear h3
  exact ACall.spec2 (fn := Try.f42) (c := codeOf Try.f42) (S := ofL S42) (L := lofL L42) hS42 (by kernel_rfl) (by kernel_rfl) (inlOK _) (all_eq (by kernel_rfl : subsOf (E.info 42).keep (codeOf Try.f42) = []) (all_nil)) (by kernel_rfl) h4.of

abbrev Sl145r2 : List (Nat × Pat × Sp) := []
theorem hSl145r2 : SpecOK E (ofL Sl145r2) := specOK_nil
abbrev Ll145r2 : List (Nat × List Nat × Pat × LSp) := []
def lsl145r2 : LSp := fun vs σ K => asCons vs fun a1 r1 => asD (.int .i64) a1 fun s1 => asCons r1 fun a2 r2 => asD (.int .i64) a2 fun s2 => asCons r2 fun a3 r3 => asD (.sl (.int .i64)) a3 fun s3 => asCons r3 fun a4 r4 => asD (.int .i64) a4 fun s4 => asCons r4 fun a5 r5 => asD (.int .i64) a5 fun s5 => asNil r5 <| asNil σ <| l145r2 (fun z1 => K .ret [(6, B z1)] []) (K (.exit 0) [(6, .undef)] []) s1 s2 s3 s4 s5
theorem l145r2v : LoopV E (inlF (PA (ACall E)) E 8) (E.info 145).keep 0 Try.f145.ntmps 146000002 (body Try.f145 2) ([1, 2, 9, 10, 11], lsl145r2) := by
  intro vs σ K (h0 : lsl145r2 vs σ K)
  unfold lsl145r2 at h0
  obtain ⟨a1, r1, rfl, h1⟩ := asCons_inv h0; clear h0
  obtain ⟨s1, rfl, h2⟩ := asD_inv h1; clear h1
  obtain ⟨a2, r2, rfl, h3⟩ := asCons_inv h2; clear h2
  obtain ⟨s2, rfl, h4⟩ := asD_inv h3; clear h3
  obtain ⟨a3, r3, rfl, h5⟩ := asCons_inv h4; clear h4
  obtain ⟨s3, rfl, h6⟩ := asD_inv h5; clear h5
  obtain ⟨a4, r4, rfl, h7⟩ := asCons_inv h6; clear h6
  obtain ⟨s4, rfl, h8⟩ := asD_inv h7; clear h7
  obtain ⟨a5, r5, rfl, h9⟩ := asCons_inv h8; clear h8
  obtain ⟨s5, rfl, h10⟩ := asD_inv h9; clear h9
  obtain ⟨rfl, h11⟩ := asNil_inv h10; clear h10
  obtain ⟨rfl, h12⟩ := asNil_inv h11; clear h11
  intro J hJ
  have hp : ∀ c' ∈ subsOf (E.info 145).keep (body Try.f145 2), SubOK E (inlF (PA (ACall E)) E 8) (E.info 145).keep 0 Try.f145.ntmps (lofL Ll145r2) c' := all_eq (by kernel_rfl : subsOf (E.info 145).keep (body Try.f145 2) = []) (all_nil)
  exact h12.of (fun s1 s2 s3 s4 s5 => J [(146000002, .undef), (1, I s1), (2, I s2), (9, .d (.sl (.int .i64)) s3), (10, I s4), (11, I s5)] []) (fun s1 s2 s3 s4 s5 hb => loop_round2 (S := ofL Sl145r2) (L := lofL Ll145r2) hSl145r2 (inlOK _) hp hJ (by kernel_rfl) hb)

abbrev S145 : List (Nat × Pat × Sp) := []
theorem hS145 : SpecOK E (ofL S145) := specOK_nil
abbrev L145 : List (Nat × List Nat × Pat × LSp) := [(146000002, [1, 2, 9, 10, 11], none, lsl145r2)]
def sp145 : Sp := fun args τ K => asCons args fun a1 r1 => asD (.sl (.int .i64)) a1 fun x1 => asCons r1 fun a2 r2 => asD (.int .i64) a2 fun x2 => asCons r2 fun a3 r3 => asD (.int .i64) a3 fun x3 => asNil r3 <| asNil τ <| c145 x1 x2 x3 (fun z1 => K (B z1) [])
theorem h145 : ∀ args τ K, sp145 args τ K → ACall E 145 args τ K := by
  intro args τ K h0
  unfold sp145 at h0
  obtain ⟨a1, r1, rfl, h1⟩ := asCons_inv h0; clear h0
  obtain ⟨x1, rfl, h2⟩ := asD_inv h1; clear h1
  obtain ⟨a2, r2, rfl, h3⟩ := asCons_inv h2; clear h2
  obtain ⟨x2, rfl, h4⟩ := asD_inv h3; clear h3
  obtain ⟨a3, r3, rfl, h5⟩ := asCons_inv h4; clear h4
  obtain ⟨x3, rfl, h6⟩ := asD_inv h5; clear h5
  obtain ⟨rfl, h7⟩ := asNil_inv h6; clear h6
  obtain ⟨rfl, h8⟩ := asNil_inv h7; clear h7
  exact ACall.spec2 (fn := Try.f145) (c := codeOf Try.f145) (S := ofL S145) (L := lofL L145) hS145 (by kernel_rfl) (by kernel_rfl) (inlOK _) (all_eq (by kernel_rfl : subsOf (E.info 145).keep (codeOf Try.f145) = [.loop (body Try.f145 2)]) (all_cons (loopOK_of (mk := 146000002) (sl := [1, 2, 9, 10, 11]) (ss := [([1, 2, 9, 10, 11], lsl145r2)]) (by kernel_rfl) (by kernel_rfl) (all_cons l145r2v (all_nil))) (all_nil))) (by kernel_rfl) h8.of

abbrev Sl112r9 : List (Nat × Pat × Sp) := [(145, none, sp145)]
theorem hSl112r9 : SpecOK E (ofL Sl112r9) := specOK_cons h145 (specOK_nil)
abbrev Ll112r9 : List (Nat × List Nat × Pat × LSp) := []
def lsl112r9 : LSp := fun vs σ K => asCons vs fun a1 r1 => asP (.ptr 0 0 []) a1 <| asCons r1 fun a2 r2 => asD (.int .i64) a2 fun s1 => asCons r2 fun a3 r3 => asD (.sl (.pair (.int .i64) (.pair (.int .i64) (.pair (.sl (.int .i64)) (.pair (.int .i64) .unit))))) a3 fun s2 => asCons r3 fun a4 r4 => asD (.int .i64) a4 fun s3 => asCons r4 fun a5 r5 => asD (.int .i64) a5 fun s4 => asNil r5 <| asCons σ fun a6 r6 => asOne (.pair (.sl (.int .i64)) (.pair (.int .i64) (.pair (.sl (.int .i64)) (.pair (.sl (.pair (.int .i64) (.pair (.int .i64) (.pair (.sl (.int .i64)) (.pair (.int .i64) .unit))))) (.pair (.sl (.pair (.int .i64) (.pair (.int .i64) (.pair (.int .i64) (.pair (.sl (.pair .str (.pair (.int .i64) (.pair (.int .i64) .unit)))) .unit))))) .unit))))) a6 fun a7 => asD (.pair (.sl (.int .i64)) (.pair (.int .i64) (.pair (.sl (.int .i64)) (.pair (.sl (.pair (.int .i64) (.pair (.int .i64) (.pair (.sl (.int .i64)) (.pair (.int .i64) .unit))))) (.pair (.sl (.pair (.int .i64) (.pair (.int .i64) (.pair (.int .i64) (.pair (.sl (.pair .str (.pair (.int .i64) (.pair (.int .i64) .unit)))) .unit))))) .unit))))) a7 fun s5 => asNil r6 <| l112r9 (fun z1 => K .ret [(2, I z1)] []) (K (.exit 0) [(2, .undef)] []) s1 s2 s3 s4 s5
theorem l112r9v : LoopV E (inlF (PA (ACall E)) E 8) (E.info 112).keep 0 Try.f112.ntmps 113000009 (body Try.f112 9) ([1, 3, 42, 43, 44], lsl112r9) := by
  intro vs σ K (h0 : lsl112r9 vs σ K)
  unfold lsl112r9 at h0
  obtain ⟨a1, r1, rfl, h1⟩ := asCons_inv h0; clear h0
  obtain ⟨rfl, h2⟩ := asP_inv h1; clear h1
  obtain ⟨a2, r2, rfl, h3⟩ := asCons_inv h2; clear h2
  obtain ⟨s1, rfl, h4⟩ := asD_inv h3; clear h3
  obtain ⟨a3, r3, rfl, h5⟩ := asCons_inv h4; clear h4
  obtain ⟨s2, rfl, h6⟩ := asD_inv h5; clear h5
  obtain ⟨a4, r4, rfl, h7⟩ := asCons_inv h6; clear h6
  obtain ⟨s3, rfl, h8⟩ := asD_inv h7; clear h7
  obtain ⟨a5, r5, rfl, h9⟩ := asCons_inv h8; clear h8
  obtain ⟨s4, rfl, h10⟩ := asD_inv h9; clear h9
  obtain ⟨rfl, h11⟩ := asNil_inv h10; clear h10
  obtain ⟨a6, r6, rfl, h12⟩ := asCons_inv h11; clear h11
  obtain ⟨a7, rfl, h13⟩ := asOne_inv h12; clear h12
  obtain ⟨s5, rfl, h14⟩ := asD_inv h13; clear h13
  obtain ⟨rfl, h15⟩ := asNil_inv h14; clear h14
  intro J hJ
  have hp : ∀ c' ∈ subsOf (E.info 112).keep (body Try.f112 9), SubOK E (inlF (PA (ACall E)) E 8) (E.info 112).keep 0 Try.f112.ntmps (lofL Ll112r9) c' := all_eq (by kernel_rfl : subsOf (E.info 112).keep (body Try.f112 9) = []) (all_nil)
  exact h15.of (fun s1 s2 s3 s4 s5 => J [(113000009, .undef), (1, .ptr 0 0 []), (3, I s1), (42, .d (.sl (.pair (.int .i64) (.pair (.int .i64) (.pair (.sl (.int .i64)) (.pair (.int .i64) .unit))))) s2), (43, I s3), (44, I s4)] [.one (.pair (.sl (.int .i64)) (.pair (.int .i64) (.pair (.sl (.int .i64)) (.pair (.sl (.pair (.int .i64) (.pair (.int .i64) (.pair (.sl (.int .i64)) (.pair (.int .i64) .unit))))) (.pair (.sl (.pair (.int .i64) (.pair (.int .i64) (.pair (.int .i64) (.pair (.sl (.pair .str (.pair (.int .i64) (.pair (.int .i64) .unit)))) .unit))))) .unit))))) (.d (.pair (.sl (.int .i64)) (.pair (.int .i64) (.pair (.sl (.int .i64)) (.pair (.sl (.pair (.int .i64) (.pair (.int .i64) (.pair (.sl (.int .i64)) (.pair (.int .i64) .unit))))) (.pair (.sl (.pair (.int .i64) (.pair (.int .i64) (.pair (.int .i64) (.pair (.sl (.pair .str (.pair (.int .i64) (.pair (.int .i64) .unit)))) .unit))))) .unit))))) s5)]) (fun s1 s2 s3 s4 s5 hb => loop_round2 (S := ofL Sl112r9) (L := lofL Ll112r9) hSl112r9 (inlOK _) hp hJ (by kernel_rfl) hb)

abbrev S112 : List (Nat × Pat × Sp) := [(145, none, sp145)]
theorem hS112 : SpecOK E (ofL S112) := specOK_cons h145 (specOK_nil)
abbrev L112 : List (Nat × List Nat × Pat × LSp) := [(113000009, [1, 3, 42, 43, 44], none, lsl112r9)]
def sp112 : Sp := fun args τ K => asCons args fun a1 r1 => asD (.pair (.sl (.int .i64)) (.pair (.int .i64) (.pair (.sl (.int .i64)) (.pair (.sl (.pair (.int .i64) (.pair (.int .i64) (.pair (.sl (.int .i64)) (.pair (.int .i64) .unit))))) (.pair (.sl (.pair (.int .i64) (.pair (.int .i64) (.pair (.int .i64) (.pair (.sl (.pair .str (.pair (.int .i64) (.pair (.int .i64) .unit)))) .unit))))) .unit))))) a1 fun x1 => asNil r1 <| asNil τ <| c112 x1 (fun z1 => K (I z1) [])
theorem h112 : ∀ args τ K, sp112 args τ K → ACall E 112 args τ K := by
  intro args τ K h0
  unfold sp112 at h0
  obtain ⟨a1, r1, rfl, h1⟩ := asCons_inv h0; clear h0
  obtain ⟨x1, rfl, h2⟩ := asD_inv h1; clear h1
  obtain ⟨rfl, h3⟩ := asNil_inv h2; clear h2
  obtain ⟨rfl, h4⟩ := asNil_inv h3; clear h3
  exact ACall.spec2 (fn := Try.f112) (c := codeOf Try.f112) (S := ofL S112) (L := lofL L112) hS112 (by kernel_rfl) (by kernel_rfl) (inlOK _) (all_eq (by kernel_rfl : subsOf (E.info 112).keep (codeOf Try.f112) = [.loop (body Try.f112 9)]) (all_cons (loopOK_of (mk := 113000009) (sl := [1, 3, 42, 43, 44]) (ss := [([1, 3, 42, 43, 44], lsl112r9)]) (by kernel_rfl) (by kernel_rfl) (all_cons l112r9v (all_nil))) (all_nil))) (by kernel_rfl) h4.of

abbrev S113 : List (Nat × Pat × Sp) := []
theorem hS113 : SpecOK E (ofL S113) := specOK_nil
abbrev L113 : List (Nat × List Nat × Pat × LSp) := []
def sp113 : Sp := fun args τ K => asNil args <| asNil τ <| c113  (fun z1 z2 z3 z4 z5 => K (.ptr 0 0 []) [.one (.pair (.pair (.int .i64) (.pair (.int .i64) (.pair (.int .i64) (.pair (.arr 16 (.int .i64)) (.pair (.sl (.int .i64)) .unit))))) (.pair (.int .i64) .unit)) (.agg [.agg [I z1, I z2, I z3, .d (.arr 16 (.int .i64)) z4, .nils (.int .i64)], I z5])])
theorem h113 : ∀ args τ K, sp113 args τ K → ACall E 113 args τ K := by
  intro args τ K h0
  unfold sp113 at h0
  obtain ⟨rfl, h1⟩ := asNil_inv h0; clear h0
  obtain ⟨rfl, h2⟩ := asNil_inv h1; clear h1
  exact ACall.spec2 (fn := Try.f113) (c := codeOf Try.f113) (S := ofL S113) (L := lofL L113) hS113 (by kernel_rfl) (by kernel_rfl) (inlOK _) (all_eq (by kernel_rfl : subsOf (E.info 113).keep (codeOf Try.f113) = []) (all_nil)) (by kernel_rfl) h2.of

abbrev S114 : List (Nat × Pat × Sp) := []
theorem hS114 : SpecOK E (ofL S114) := specOK_nil
abbrev L114 : List (Nat × List Nat × Pat × LSp) := []
def sp114 : Sp := fun args τ K => asCons args fun a1 r1 => asD (.sl (.int .i64)) a1 fun x1 => asNil r1 <| asNil τ <| c114 x1 (fun z1 => K (.vec 0) [.row (.int .i64) z1 false])
theorem h114 : ∀ args τ K, sp114 args τ K → ACall E 114 args τ K := by
  intro args τ K h0
  unfold sp114 at h0
  obtain ⟨a1, r1, rfl, h1⟩ := asCons_inv h0; clear h0
  obtain ⟨x1, rfl, h2⟩ := asD_inv h1; clear h1
  obtain ⟨rfl, h3⟩ := asNil_inv h2; clear h2
  obtain ⟨rfl, h4⟩ := asNil_inv h3; clear h3
  exact ACall.spec2 (fn := Try.f114) (c := codeOf Try.f114) (S := ofL S114) (L := lofL L114) hS114 (by kernel_rfl) (by kernel_rfl) (inlOK _) (all_eq (by kernel_rfl : subsOf (E.info 114).keep (codeOf Try.f114) = []) (all_nil)) (by kernel_rfl) h4.of

abbrev S115 : List (Nat × Pat × Sp) := []
theorem hS115 : SpecOK E (ofL S115) := specOK_nil
abbrev L115 : List (Nat × List Nat × Pat × LSp) := []
def sp115 : Sp := fun args τ K => asCons args fun a1 r1 => asP (.vec 0) a1 <| asNil r1 <| asCons τ fun a2 r2 => asRw (.pair (.int .i64) (.pair (.int .i64) (.pair (.sl (.int .i64)) (.pair (.int .i64) .unit)))) false a2 fun x1 => asNil r2 <| c115 x1 (fun z1 z2 => K (.vec 1) [.row (.pair (.int .i64) (.pair (.int .i64) (.pair (.sl (.int .i64)) (.pair (.int .i64) .unit)))) z1 false, .row (.pair (.int .i64) (.pair (.int .i64) (.pair (.sl (.int .i64)) (.pair (.int .i64) .unit)))) z2 false])
theorem h115 : ∀ args τ K, sp115 args τ K → ACall E 115 args τ K := by
  intro args τ K h0
  unfold sp115 at h0
  obtain ⟨a1, r1, rfl, h1⟩ := asCons_inv h0; clear h0
  obtain ⟨rfl, h2⟩ := asP_inv h1; clear h1
  obtain ⟨rfl, h3⟩ := asNil_inv h2; clear h2
  obtain ⟨a2, r2, rfl, h4⟩ := asCons_inv h3; clear h3
  obtain ⟨x1, rfl, h5⟩ := asRw_inv h4; clear h4
  obtain ⟨rfl, h6⟩ := asNil_inv h5; clear h5
  exact ACall.spec2 (fn := Try.f115) (c := codeOf Try.f115) (S := ofL S115) (L := lofL L115) hS115 (by kernel_rfl) (by kernel_rfl) (inlOK _) (all_eq (by kernel_rfl : subsOf (E.info 115).keep (codeOf Try.f115) = []) (all_nil)) (by kernel_rfl) h6.of

abbrev Sj45r10 : List (Nat × Pat × Sp) := [(59, none, sp59), (15, none, sp15)]
theorem hSj45r10 : SpecOK E (ofL Sj45r10) := specOK_cons h59 (specOK_cons h15 (specOK_nil))
abbrev Lj45r10 : List (Nat × List Nat × Pat × LSp) := []
def lsj45r10 : LSp := fun vs σ K => asCons vs fun a1 r1 => asP (.ptr 4 0 []) a1 <| asCons r1 fun a2 r2 => asP (.ptr 5 0 []) a2 <| asNil r2 <| asCons σ fun a3 r3 => asRw (.int .i64) false a3 fun s1 => asCons r3 fun a4 r4 => asRw (.int .i64) false a4 fun s2 => asCons r4 fun a5 r5 => asRw (.pair (.int .i64) (.pair (.int .i64) (.pair (.sl (.int .i64)) (.pair (.int .i64) .unit)))) false a5 fun s3 => asCons r5 fun a6 r6 => asRw (.pair (.int .i64) (.pair (.int .i64) (.pair (.int .i64) (.pair (.sl (.pair .str (.pair (.int .i64) (.pair (.int .i64) .unit)))) .unit)))) false a6 fun s4 => asCons r6 fun a7 r7 => asOne (.pair (.int .i64) (.pair (.int .i64) (.pair (.int .i64) (.pair (.int .i64) (.pair (.pair (.int .i64) (.pair (.int .i64) (.pair (.int .i64) (.pair (.int .i64) .unit)))) (.pair (.pair (.int .i64) (.pair (.int .i64) (.pair (.int .i64) (.pair (.int .i64) .unit)))) (.pair (.int .i64) .unit))))))) a7 fun a8 => asD (.pair (.int .i64) (.pair (.int .i64) (.pair (.int .i64) (.pair (.int .i64) (.pair (.pair (.int .i64) (.pair (.int .i64) (.pair (.int .i64) (.pair (.int .i64) .unit)))) (.pair (.pair (.int .i64) (.pair (.int .i64) (.pair (.int .i64) (.pair (.int .i64) .unit)))) (.pair (.int .i64) .unit))))))) a8 fun s5 => asCons r7 fun a9 r9 => asOne (.pair (.pair (.sl (.int .i64)) (.pair (.int .i64) (.pair (.sl (.int .i64)) (.pair (.sl (.pair (.int .i64) (.pair (.int .i64) (.pair (.sl (.int .i64)) (.pair (.int .i64) .unit))))) (.pair (.sl (.pair (.int .i64) (.pair (.int .i64) (.pair (.int .i64) (.pair (.sl (.pair .str (.pair (.int .i64) (.pair (.int .i64) .unit)))) .unit))))) .unit))))) (.pair (.opq .ptr) (.pair (.opq .ptr) (.pair (.opq .ptr) (.pair (.opq .ptr) (.pair (.int .i64) (.pair (.arr 16 (.int .i64)) (.pair (.int .i64) (.pair (.int .i64) (.pair (.int .i64) (.pair (.pair (.sl (.int .i64)) (.pair (.int .i64) (.pair (.int .i64) .unit))) (.pair .bool (.pair (.pair (.int .i64) (.pair (.int .i64) (.pair (.int .i64) (.pair (.int .i64) (.pair (.int .i64) .unit))))) (.pair (.int .i64) (.pair (.int .i64) .unit))))))))))))))) a9 fun a10 => asAgL a10 fun l11 => asCons l11 fun a12 r12 => asAgL a12 fun l13 => asCons l13 fun a14 r14 => asP (.vec 6) a14 <| asCons r14 fun a15 r15 => asD (.int .i64) a15 fun s6 => asCons r15 fun a16 r16 => asP (.vec 7) a16 <| asCons r16 fun a17 r17 => asP (.vec 8) a17 <| asCons r17 fun a18 r18 => asP (.vec 3) a18 <| asNil r18 <| asCons r12 fun a19 r19 => asD (.opq .ptr) a19 fun s7 => asCons r19 fun a20 r20 => asD (.opq .ptr) a20 fun s8 => asCons r20 fun a21 r21 => asD (.opq .ptr) a21 fun s9 => asCons r21 fun a22 r22 => asP (.ptr 9 0 []) a22 <| asCons r22 fun a23 r23 => asD (.int .i64) a23 fun s10 => asCons r23 fun a24 r24 => asD (.arr 16 (.int .i64)) a24 fun s11 => asCons r24 fun a25 r25 => asD (.int .i64) a25 fun s12 => asCons r25 fun a26 r26 => asD (.int .i64) a26 fun s13 => asCons r26 fun a27 r27 => asD (.int .i64) a27 fun s14 => asCons r27 fun a28 r28 => asAgL a28 fun l29 => asCons l29 fun a30 r30 => asP (.vec 11) a30 <| asCons r30 fun a31 r31 => asD (.int .i64) a31 fun s15 => asCons r31 fun a32 r32 => asD (.int .i64) a32 fun s16 => asNil r32 <| asCons r28 fun a33 r33 => asD .bool a33 fun s17 => asCons r33 fun a34 r34 => asD opT a34 fun s18 => asCons r34 fun a35 r35 => asD (.int .i64) a35 fun s19 => asCons r35 fun a36 r36 => asD (.int .i64) a36 fun s20 => asNil r36 <| asCons r9 fun a37 r37 => asRw (.int .i64) false a37 fun s21 => asCons r37 fun a38 r38 => asRw (.int .i64) false a38 fun s22 => asCons r38 fun a39 r39 => asRw (.pair (.int .i64) (.pair (.int .i64) (.pair (.sl (.int .i64)) (.pair (.int .i64) .unit)))) false a39 fun s23 => asCons r39 fun a40 r40 => asOne (.pair (.pair (.int .i64) (.pair (.int .i64) (.pair (.int .i64) (.pair (.arr 16 (.int .i64)) (.pair (.sl (.int .i64)) .unit))))) (.pair (.int .i64) .unit)) a40 fun a41 => asAgL a41 fun l42 => asCons l42 fun a43 r43 => asAgL a43 fun l44 => asCons l44 fun a45 r45 => asD (.int .i64) a45 fun s24 => asCons r45 fun a46 r46 => asD (.int .i64) a46 fun s25 => asCons r46 fun a47 r47 => asD (.int .i64) a47 fun s26 => asCons r47 fun a48 r48 => asD (.arr 16 (.int .i64)) a48 fun s27 => asCons r48 fun a49 r49 => asP (.vec 10) a49 <| asNil r49 <| asCons r43 fun a50 r50 => asD (.int .i64) a50 fun s28 => asNil r50 <| asCons r40 fun a51 r51 => asRw (.int .i64) false a51 fun s29 => asCons r51 fun a52 r52 => asRw (.int .i64) false a52 fun s30 => asNil r52 <| j45r10 (fun z1 z2 z3 z4 z5 z6 z7 z8 z9 z10 z11 z12 z13 z14 z15 z16 z17 z18 z19 z20 z21 z22 z23 z24 z25 z26 z27 z28 z29 z30 => K .ret [(4, .ptr 4 0 []), (5, I z1)] [.row (.int .i64) z2 false, .row (.int .i64) z3 false, .row (.pair (.int .i64) (.pair (.int .i64) (.pair (.sl (.int .i64)) (.pair (.int .i64) .unit)))) z4 false, .row (.pair (.int .i64) (.pair (.int .i64) (.pair (.int .i64) (.pair (.sl (.pair .str (.pair (.int .i64) (.pair (.int .i64) .unit)))) .unit)))) z5 false, .one (.pair (.pair (.sl (.int .i64)) (.pair (.int .i64) (.pair (.sl (.int .i64)) (.pair (.sl (.pair (.int .i64) (.pair (.int .i64) (.pair (.sl (.int .i64)) (.pair (.int .i64) .unit))))) (.pair (.sl (.pair (.int .i64) (.pair (.int .i64) (.pair (.int .i64) (.pair (.sl (.pair .str (.pair (.int .i64) (.pair (.int .i64) .unit)))) .unit))))) .unit))))) (.pair (.opq .ptr) (.pair (.opq .ptr) (.pair (.opq .ptr) (.pair (.opq .ptr) (.pair (.int .i64) (.pair (.arr 16 (.int .i64)) (.pair (.int .i64) (.pair (.int .i64) (.pair (.int .i64) (.pair (.pair (.sl (.int .i64)) (.pair (.int .i64) (.pair (.int .i64) .unit))) (.pair .bool (.pair (.pair (.int .i64) (.pair (.int .i64) (.pair (.int .i64) (.pair (.int .i64) (.pair (.int .i64) .unit))))) (.pair (.int .i64) (.pair (.int .i64) .unit))))))))))))))) (.agg [.agg [.vec 5, I z6, .vec 6, .vec 7, .vec 3], .d (.opq .ptr) z7, .d (.opq .ptr) z8, .d (.opq .ptr) z9, .ptr 8 0 [], I z10, .d (.arr 16 (.int .i64)) z11, I z12, I z13, I z14, .agg [.vec 10, I z15, I z16], B z17, .d opT z18, I z19, I z20]), .row (.int .i64) z21 false, .row (.int .i64) z22 false, .row (.pair (.int .i64) (.pair (.int .i64) (.pair (.sl (.int .i64)) (.pair (.int .i64) .unit)))) z23 false, .one (.pair (.pair (.int .i64) (.pair (.int .i64) (.pair (.int .i64) (.pair (.arr 16 (.int .i64)) (.pair (.sl (.int .i64)) .unit))))) (.pair (.int .i64) .unit)) (.agg [.agg [I z24, I z25, I z26, .d (.arr 16 (.int .i64)) z27, .vec 9], I z28]), .row (.int .i64) z29 false, .row (.int .i64) z30 false]) (fun z1 z2 z3 z4 z5 z6 z7 z8 z9 z10 z11 z12 z13 z14 z15 z16 z17 z18 z19 z20 z21 z22 z23 z24 z25 z26 z27 z28 z29 z30 z31 => K .ret [(4, .ptr 4 0 []), (5, I z1)] [.row (.int .i64) z2 false, .row (.int .i64) z3 false, .row (.pair (.int .i64) (.pair (.int .i64) (.pair (.sl (.int .i64)) (.pair (.int .i64) .unit)))) z4 false, .row (.pair (.int .i64) (.pair (.int .i64) (.pair (.int .i64) (.pair (.sl (.pair .str (.pair (.int .i64) (.pair (.int .i64) .unit)))) .unit)))) z5 false, .one (.pair (.pair (.sl (.int .i64)) (.pair (.int .i64) (.pair (.sl (.int .i64)) (.pair (.sl (.pair (.int .i64) (.pair (.int .i64) (.pair (.sl (.int .i64)) (.pair (.int .i64) .unit))))) (.pair (.sl (.pair (.int .i64) (.pair (.int .i64) (.pair (.int .i64) (.pair (.sl (.pair .str (.pair (.int .i64) (.pair (.int .i64) .unit)))) .unit))))) .unit))))) (.pair (.opq .ptr) (.pair (.opq .ptr) (.pair (.opq .ptr) (.pair (.opq .ptr) (.pair (.int .i64) (.pair (.arr 16 (.int .i64)) (.pair (.int .i64) (.pair (.int .i64) (.pair (.int .i64) (.pair (.pair (.sl (.int .i64)) (.pair (.int .i64) (.pair (.int .i64) .unit))) (.pair .bool (.pair (.pair (.int .i64) (.pair (.int .i64) (.pair (.int .i64) (.pair (.int .i64) (.pair (.int .i64) .unit))))) (.pair (.int .i64) (.pair (.int .i64) .unit))))))))))))))) (.agg [.agg [.vec 5, I z6, .vec 6, .vec 7, .vec 3], .d (.opq .ptr) z7, .d (.opq .ptr) z8, .ptr 8 0 [], .ptr 10 0 [], I z9, .d (.arr 16 (.int .i64)) z10, I z11, I z12, I z13, .agg [.vec 12, I z14, I z15], B z16, .d opT z17, I z18, I z19]), .row (.int .i64) z20 false, .row (.int .i64) z21 false, .row (.pair (.int .i64) (.pair (.int .i64) (.pair (.sl (.int .i64)) (.pair (.int .i64) .unit)))) z22 false, .one (.pair (.sl (.int .i64)) (.pair (.int .i64) .unit)) (.agg [.vec 9, I z23]), .row (.int .i64) z24 false, .one (.pair (.pair (.int .i64) (.pair (.int .i64) (.pair (.int .i64) (.pair (.arr 16 (.int .i64)) (.pair (.sl (.int .i64)) .unit))))) (.pair (.int .i64) .unit)) (.agg [.agg [I z25, I z26, I z27, .d (.arr 16 (.int .i64)) z28, .vec 11], I z29]), .row (.int .i64) z30 false, .row (.int .i64) z31 false]) (fun z1 z2 z3 z4 z5 z6 z7 z8 z9 z10 z11 z12 z13 z14 z15 z16 z17 z18 z19 z20 z21 z22 z23 z24 z25 z26 z27 z28 z29 z30 z31 z32 z33 z34 => K .ret [(4, .ptr 4 0 []), (5, I z1)] [.row (.int .i64) z2 false, .row (.int .i64) z3 false, .row (.pair (.int .i64) (.pair (.int .i64) (.pair (.sl (.int .i64)) (.pair (.int .i64) .unit)))) z4 false, .row (.pair (.int .i64) (.pair (.int .i64) (.pair (.int .i64) (.pair (.sl (.pair .str (.pair (.int .i64) (.pair (.int .i64) .unit)))) .unit)))) z5 false, .one (.pair (.pair (.sl (.int .i64)) (.pair (.int .i64) (.pair (.sl (.int .i64)) (.pair (.sl (.pair (.int .i64) (.pair (.int .i64) (.pair (.sl (.int .i64)) (.pair (.int .i64) .unit))))) (.pair (.sl (.pair (.int .i64) (.pair (.int .i64) (.pair (.int .i64) (.pair (.sl (.pair .str (.pair (.int .i64) (.pair (.int .i64) .unit)))) .unit))))) .unit))))) (.pair (.opq .ptr) (.pair (.opq .ptr) (.pair (.opq .ptr) (.pair (.opq .ptr) (.pair (.int .i64) (.pair (.arr 16 (.int .i64)) (.pair (.int .i64) (.pair (.int .i64) (.pair (.int .i64) (.pair (.pair (.sl (.int .i64)) (.pair (.int .i64) (.pair (.int .i64) .unit))) (.pair .bool (.pair (.pair (.int .i64) (.pair (.int .i64) (.pair (.int .i64) (.pair (.int .i64) (.pair (.int .i64) .unit))))) (.pair (.int .i64) (.pair (.int .i64) .unit))))))))))))))) (.agg [.agg [.vec 5, I z6, .vec 6, .vec 7, .vec 3], .d (.opq .ptr) z7, .ptr 8 0 [], .d (.opq .ptr) z8, .ptr 13 0 [], I z9, .d (.arr 16 (.int .i64)) z10, I z11, I z12, I z13, .agg [.vec 15, I z14, I z15], B z16, .d opT z17, I z18, I z19]), .row (.int .i64) z20 false, .row (.int .i64) z21 false, .row (.pair (.int .i64) (.pair (.int .i64) (.pair (.sl (.int .i64)) (.pair (.int .i64) .unit)))) z22 false, .one (.pair (.opq .ptr) (.pair (.opq .ptr) (.pair (.int .i64) .unit))) (.agg [.ptr 9 0 [], .ptr 11 0 [], I z23]), .one (.pair (.pair (.int .i64) (.pair (.int .i64) (.pair (.int .i64) (.pair (.int .i64) .unit)))) (.pair (.sl (.sl (.pair (.int .i64) (.pair .bool .unit)))) .unit)) (.agg [.d (.pair (.int .i64) (.pair (.int .i64) (.pair (.int .i64) (.pair (.int .i64) .unit)))) z24, .vec 10]), .row (.sl (.pair (.int .i64) (.pair .bool .unit))) z25 false, .one (.pair (.pair (.int .i64) (.pair (.int .i64) (.pair (.int .i64) (.pair (.int .i64) .unit)))) (.pair (.sl (.sl (.pair (.int .i64) (.pair .bool .unit)))) .unit)) (.agg [.d (.pair (.int .i64) (.pair (.int .i64) (.pair (.int .i64) (.pair (.int .i64) .unit)))) z26, .vec 12]), .row (.sl (.pair (.int .i64) (.pair .bool .unit))) z27 false, .one (.pair (.pair (.int .i64) (.pair (.int .i64) (.pair (.int .i64) (.pair (.arr 16 (.int .i64)) (.pair (.sl (.int .i64)) .unit))))) (.pair (.int .i64) .unit)) (.agg [.agg [I z28, I z29, I z30, .d (.arr 16 (.int .i64)) z31, .vec 14], I z32]), .row (.int .i64) z33 false, .row (.int .i64) z34 false]) (fun z1 z2 z3 z4 z5 z6 z7 z8 z9 z10 z11 z12 z13 z14 z15 z16 z17 z18 z19 z20 z21 z22 z23 z24 z25 z26 z27 z28 z29 z30 z31 z32 z33 z34 z35 => K .ret [(4, .ptr 4 0 []), (5, I z1)] [.row (.int .i64) z2 false, .row (.int .i64) z3 false, .row (.pair (.int .i64) (.pair (.int .i64) (.pair (.sl (.int .i64)) (.pair (.int .i64) .unit)))) z4 false, .row (.pair (.int .i64) (.pair (.int .i64) (.pair (.int .i64) (.pair (.sl (.pair .str (.pair (.int .i64) (.pair (.int .i64) .unit)))) .unit)))) z5 false, .one (.pair (.pair (.sl (.int .i64)) (.pair (.int .i64) (.pair (.sl (.int .i64)) (.pair (.sl (.pair (.int .i64) (.pair (.int .i64) (.pair (.sl (.int .i64)) (.pair (.int .i64) .unit))))) (.pair (.sl (.pair (.int .i64) (.pair (.int .i64) (.pair (.int .i64) (.pair (.sl (.pair .str (.pair (.int .i64) (.pair (.int .i64) .unit)))) .unit))))) .unit))))) (.pair (.opq .ptr) (.pair (.opq .ptr) (.pair (.opq .ptr) (.pair (.opq .ptr) (.pair (.int .i64) (.pair (.arr 16 (.int .i64)) (.pair (.int .i64) (.pair (.int .i64) (.pair (.int .i64) (.pair (.pair (.sl (.int .i64)) (.pair (.int .i64) (.pair (.int .i64) .unit))) (.pair .bool (.pair (.pair (.int .i64) (.pair (.int .i64) (.pair (.int .i64) (.pair (.int .i64) (.pair (.int .i64) .unit))))) (.pair (.int .i64) (.pair (.int .i64) .unit))))))))))))))) (.agg [.agg [.vec 5, I z6, .vec 6, .vec 7, .vec 3], .d (.opq .ptr) z7, .ptr 8 0 [], .ptr 13 0 [], .ptr 15 0 [], I z8, .d (.arr 16 (.int .i64)) z9, I z10, I z11, I z12, .agg [.vec 17, I z13, I z14], B z15, .d opT z16, I z17, I z18]), .row (.int .i64) z19 false, .row (.int .i64) z20 false, .row (.pair (.int .i64) (.pair (.int .i64) (.pair (.sl (.int .i64)) (.pair (.int .i64) .unit)))) z21 false, .one (.pair (.opq .ptr) (.pair (.opq .ptr) (.pair (.int .i64) .unit))) (.agg [.ptr 9 0 [], .ptr 11 0 [], I z22]), .one (.pair (.pair (.int .i64) (.pair (.int .i64) (.pair (.int .i64) (.pair (.int .i64) .unit)))) (.pair (.sl (.sl (.pair (.int .i64) (.pair .bool .unit)))) .unit)) (.agg [.d (.pair (.int .i64) (.pair (.int .i64) (.pair (.int .i64) (.pair (.int .i64) .unit)))) z23, .vec 10]), .row (.sl (.pair (.int .i64) (.pair .bool .unit))) z24 false, .one (.pair (.pair (.int .i64) (.pair (.int .i64) (.pair (.int .i64) (.pair (.int .i64) .unit)))) (.pair (.sl (.sl (.pair (.int .i64) (.pair .bool .unit)))) .unit)) (.agg [.d (.pair (.int .i64) (.pair (.int .i64) (.pair (.int .i64) (.pair (.int .i64) .unit)))) z25, .vec 12]), .row (.sl (.pair (.int .i64) (.pair .bool .unit))) z26 false, .one (.pair (.sl (.int .i64)) (.pair (.int .i64) .unit)) (.agg [.vec 14, I z27]), .row (.int .i64) z28 false, .one (.pair (.pair (.int .i64) (.pair (.int .i64) (.pair (.int .i64) (.pair (.arr 16 (.int .i64)) (.pair (.sl (.int .i64)) .unit))))) (.pair (.int .i64) .unit)) (.agg [.agg [I z29, I z30, I z31, .d (.arr 16 (.int .i64)) z32, .vec 16], I z33]), .row (.int .i64) z34 false, .row (.int .i64) z35 false]) s1 s2 s3 s4 s5 s6 s7 s8 s9 s10 s11 s12 s13 s14 s15 s16 s17 s18 s19 s20 s21 s22 s23 s24 s25 s26 s27 s28 s29 s30
theorem j45r10v : JoinV E (inlF (PA (ACall E)) E 8) (E.info 45).keep 4 Try.f45.ntmps 46400010 4000010 (jbody Try.f45 4000010) ([3, 8], lsj45r10) := by
  intro vs σ K (h0 : lsj45r10 vs σ K)
  unfold lsj45r10 at h0
  obtain ⟨a1, r1, rfl, h1⟩ := asCons_inv h0; clear h0
  obtain ⟨rfl, h2⟩ := asP_inv h1; clear h1
  obtain ⟨a2, r2, rfl, h3⟩ := asCons_inv h2; clear h2
  obtain ⟨rfl, h4⟩ := asP_inv h3; clear h3
  obtain ⟨rfl, h5⟩ := asNil_inv h4; clear h4
  obtain ⟨a3, r3, rfl, h6⟩ := asCons_inv h5; clear h5
  obtain ⟨s1, rfl, h7⟩ := asRw_inv h6; clear h6
  obtain ⟨a4, r4, rfl, h8⟩ := asCons_inv h7; clear h7
  obtain ⟨s2, rfl, h9⟩ := asRw_inv h8; clear h8
  obtain ⟨a5, r5, rfl, h10⟩ := asCons_inv h9; clear h9
  obtain ⟨s3, rfl, h11⟩ := asRw_inv h10; clear h10
  obtain ⟨a6, r6, rfl, h12⟩ := asCons_inv h11; clear h11
  obtain ⟨s4, rfl, h13⟩ := asRw_inv h12; clear h12
  obtain ⟨a7, r7, rfl, h14⟩ := asCons_inv h13; clear h13
  obtain ⟨a8, rfl, h15⟩ := asOne_inv h14; clear h14
  obtain ⟨s5, rfl, h16⟩ := asD_inv h15; clear h15
  obtain ⟨a9, r9, rfl, h17⟩ := asCons_inv h16; clear h16
  obtain ⟨a10, rfl, h18⟩ := asOne_inv h17; clear h17
  obtain ⟨l11, rfl, h19⟩ := asAgL_inv h18; clear h18
  obtain ⟨a12, r12, rfl, h20⟩ := asCons_inv h19; clear h19
  obtain ⟨l13, rfl, h21⟩ := asAgL_inv h20; clear h20
  obtain ⟨a14, r14, rfl, h22⟩ := asCons_inv h21; clear h21
  obtain ⟨rfl, h23⟩ := asP_inv h22; clear h22
  obtain ⟨a15, r15, rfl, h24⟩ := asCons_inv h23; clear h23
  obtain ⟨s6, rfl, h25⟩ := asD_inv h24; clear h24
  obtain ⟨a16, r16, rfl, h26⟩ := asCons_inv h25; clear h25
  obtain ⟨rfl, h27⟩ := asP_inv h26; clear h26
  obtain ⟨a17, r17, rfl, h28⟩ := asCons_inv h27; clear h27
  obtain ⟨rfl, h29⟩ := asP_inv h28; clear h28
  obtain ⟨a18, r18, rfl, h30⟩ := asCons_inv h29; clear h29
  obtain ⟨rfl, h31⟩ := asP_inv h30; clear h30
  obtain ⟨rfl, h32⟩ := asNil_inv h31; clear h31
  obtain ⟨a19, r19, rfl, h33⟩ := asCons_inv h32; clear h32
  obtain ⟨s7, rfl, h34⟩ := asD_inv h33; clear h33
  obtain ⟨a20, r20, rfl, h35⟩ := asCons_inv h34; clear h34
  obtain ⟨s8, rfl, h36⟩ := asD_inv h35; clear h35
  obtain ⟨a21, r21, rfl, h37⟩ := asCons_inv h36; clear h36
  obtain ⟨s9, rfl, h38⟩ := asD_inv h37; clear h37
  obtain ⟨a22, r22, rfl, h39⟩ := asCons_inv h38; clear h38
  obtain ⟨rfl, h40⟩ := asP_inv h39; clear h39
  obtain ⟨a23, r23, rfl, h41⟩ := asCons_inv h40; clear h40
  obtain ⟨s10, rfl, h42⟩ := asD_inv h41; clear h41
  obtain ⟨a24, r24, rfl, h43⟩ := asCons_inv h42; clear h42
  obtain ⟨s11, rfl, h44⟩ := asD_inv h43; clear h43
  obtain ⟨a25, r25, rfl, h45⟩ := asCons_inv h44; clear h44
  obtain ⟨s12, rfl, h46⟩ := asD_inv h45; clear h45
  obtain ⟨a26, r26, rfl, h47⟩ := asCons_inv h46; clear h46
  obtain ⟨s13, rfl, h48⟩ := asD_inv h47; clear h47
  obtain ⟨a27, r27, rfl, h49⟩ := asCons_inv h48; clear h48
  obtain ⟨s14, rfl, h50⟩ := asD_inv h49; clear h49
  obtain ⟨a28, r28, rfl, h51⟩ := asCons_inv h50; clear h50
  obtain ⟨l29, rfl, h52⟩ := asAgL_inv h51; clear h51
  obtain ⟨a30, r30, rfl, h53⟩ := asCons_inv h52; clear h52
  obtain ⟨rfl, h54⟩ := asP_inv h53; clear h53
  obtain ⟨a31, r31, rfl, h55⟩ := asCons_inv h54; clear h54
  obtain ⟨s15, rfl, h56⟩ := asD_inv h55; clear h55
  obtain ⟨a32, r32, rfl, h57⟩ := asCons_inv h56; clear h56
  obtain ⟨s16, rfl, h58⟩ := asD_inv h57; clear h57
  obtain ⟨rfl, h59⟩ := asNil_inv h58; clear h58
  obtain ⟨a33, r33, rfl, h60⟩ := asCons_inv h59; clear h59
  obtain ⟨s17, rfl, h61⟩ := asD_inv h60; clear h60
  obtain ⟨a34, r34, rfl, h62⟩ := asCons_inv h61; clear h61
  obtain ⟨s18, rfl, h63⟩ := asD_inv h62; clear h62
  obtain ⟨a35, r35, rfl, h64⟩ := asCons_inv h63; clear h63
  obtain ⟨s19, rfl, h65⟩ := asD_inv h64; clear h64
  obtain ⟨a36, r36, rfl, h66⟩ := asCons_inv h65; clear h65
  obtain ⟨s20, rfl, h67⟩ := asD_inv h66; clear h66
  obtain ⟨rfl, h68⟩ := asNil_inv h67; clear h67
  obtain ⟨a37, r37, rfl, h69⟩ := asCons_inv h68; clear h68
  obtain ⟨s21, rfl, h70⟩ := asRw_inv h69; clear h69
  obtain ⟨a38, r38, rfl, h71⟩ := asCons_inv h70; clear h70
  obtain ⟨s22, rfl, h72⟩ := asRw_inv h71; clear h71
  obtain ⟨a39, r39, rfl, h73⟩ := asCons_inv h72; clear h72
  obtain ⟨s23, rfl, h74⟩ := asRw_inv h73; clear h73
  obtain ⟨a40, r40, rfl, h75⟩ := asCons_inv h74; clear h74
  obtain ⟨a41, rfl, h76⟩ := asOne_inv h75; clear h75
  obtain ⟨l42, rfl, h77⟩ := asAgL_inv h76; clear h76
  obtain ⟨a43, r43, rfl, h78⟩ := asCons_inv h77; clear h77
  obtain ⟨l44, rfl, h79⟩ := asAgL_inv h78; clear h78
  obtain ⟨a45, r45, rfl, h80⟩ := asCons_inv h79; clear h79
  obtain ⟨s24, rfl, h81⟩ := asD_inv h80; clear h80
  obtain ⟨a46, r46, rfl, h82⟩ := asCons_inv h81; clear h81
  obtain ⟨s25, rfl, h83⟩ := asD_inv h82; clear h82
  obtain ⟨a47, r47, rfl, h84⟩ := asCons_inv h83; clear h83
  obtain ⟨s26, rfl, h85⟩ := asD_inv h84; clear h84
  obtain ⟨a48, r48, rfl, h86⟩ := asCons_inv h85; clear h85
  obtain ⟨s27, rfl, h87⟩ := asD_inv h86; clear h86
  obtain ⟨a49, r49, rfl, h88⟩ := asCons_inv h87; clear h87
  obtain ⟨rfl, h89⟩ := asP_inv h88; clear h88
  obtain ⟨rfl, h90⟩ := asNil_inv h89; clear h89
  obtain ⟨a50, r50, rfl, h91⟩ := asCons_inv h90; clear h90
  obtain ⟨s28, rfl, h92⟩ := asD_inv h91; clear h91
  obtain ⟨rfl, h93⟩ := asNil_inv h92; clear h92
  obtain ⟨a51, r51, rfl, h94⟩ := asCons_inv h93; clear h93
  obtain ⟨s29, rfl, h95⟩ := asRw_inv h94; clear h94
  obtain ⟨a52, r52, rfl, h96⟩ := asCons_inv h95; clear h95
  obtain ⟨s30, rfl, h97⟩ := asRw_inv h96; clear h96
  obtain ⟨rfl, h98⟩ := asNil_inv h97; clear h97
  exact join_round2 (S := ofL Sj45r10) (L := lofL Lj45r10) hSj45r10 (inlOK _) (all_eq (by kernel_rfl : subsOf (E.info 45).keep (jbody Try.f45 4000010) = []) (all_nil)) (by kernel_rfl) h98.of

abbrev Sj45r10v2 : List (Nat × Pat × Sp) := [(59, none, sp59), (15, none, sp15)]
theorem hSj45r10v2 : SpecOK E (ofL Sj45r10v2) := specOK_cons h59 (specOK_cons h15 (specOK_nil))
abbrev Lj45r10v2 : List (Nat × List Nat × Pat × LSp) := []
def lsj45r10v2 : LSp := fun vs σ K => asCons vs fun a1 r1 => asP (.ptr 4 0 []) a1 <| asCons r1 fun a2 r2 => asP (.ptr 5 0 []) a2 <| asNil r2 <| asCons σ fun a3 r3 => asRw (.int .i64) false a3 fun s1 => asCons r3 fun a4 r4 => asRw (.int .i64) false a4 fun s2 => asCons r4 fun a5 r5 => asRw (.pair (.int .i64) (.pair (.int .i64) (.pair (.sl (.int .i64)) (.pair (.int .i64) .unit)))) false a5 fun s3 => asCons r5 fun a6 r6 => asRw (.pair (.int .i64) (.pair (.int .i64) (.pair (.int .i64) (.pair (.sl (.pair .str (.pair (.int .i64) (.pair (.int .i64) .unit)))) .unit)))) false a6 fun s4 => asCons r6 fun a7 r7 => asOne (.pair (.int .i64) (.pair (.int .i64) (.pair (.int .i64) (.pair (.int .i64) (.pair (.pair (.int .i64) (.pair (.int .i64) (.pair (.int .i64) (.pair (.int .i64) .unit)))) (.pair (.pair (.int .i64) (.pair (.int .i64) (.pair (.int .i64) (.pair (.int .i64) .unit)))) (.pair (.int .i64) .unit))))))) a7 fun a8 => asD (.pair (.int .i64) (.pair (.int .i64) (.pair (.int .i64) (.pair (.int .i64) (.pair (.pair (.int .i64) (.pair (.int .i64) (.pair (.int .i64) (.pair (.int .i64) .unit)))) (.pair (.pair (.int .i64) (.pair (.int .i64) (.pair (.int .i64) (.pair (.int .i64) .unit)))) (.pair (.int .i64) .unit))))))) a8 fun s5 => asCons r7 fun a9 r9 => asOne (.pair (.pair (.sl (.int .i64)) (.pair (.int .i64) (.pair (.sl (.int .i64)) (.pair (.sl (.pair (.int .i64) (.pair (.int .i64) (.pair (.sl (.int .i64)) (.pair (.int .i64) .unit))))) (.pair (.sl (.pair (.int .i64) (.pair (.int .i64) (.pair (.int .i64) (.pair (.sl (.pair .str (.pair (.int .i64) (.pair (.int .i64) .unit)))) .unit))))) .unit))))) (.pair (.opq .ptr) (.pair (.opq .ptr) (.pair (.opq .ptr) (.pair (.opq .ptr) (.pair (.int .i64) (.pair (.arr 16 (.int .i64)) (.pair (.int .i64) (.pair (.int .i64) (.pair (.int .i64) (.pair (.pair (.sl (.int .i64)) (.pair (.int .i64) (.pair (.int .i64) .unit))) (.pair .bool (.pair (.pair (.int .i64) (.pair (.int .i64) (.pair (.int .i64) (.pair (.int .i64) (.pair (.int .i64) .unit))))) (.pair (.int .i64) (.pair (.int .i64) .unit))))))))))))))) a9 fun a10 => asAgL a10 fun l11 => asCons l11 fun a12 r12 => asAgL a12 fun l13 => asCons l13 fun a14 r14 => asP (.vec 6) a14 <| asCons r14 fun a15 r15 => asD (.int .i64) a15 fun s6 => asCons r15 fun a16 r16 => asP (.vec 7) a16 <| asCons r16 fun a17 r17 => asP (.vec 8) a17 <| asCons r17 fun a18 r18 => asP (.vec 3) a18 <| asNil r18 <| asCons r12 fun a19 r19 => asP (.ptr 9 0 []) a19 <| asCons r19 fun a20 r20 => asD (.opq .ptr) a20 fun s7 => asCons r20 fun a21 r21 => asD (.opq .ptr) a21 fun s8 => asCons r21 fun a22 r22 => asP (.ptr 12 0 []) a22 <| asCons r22 fun a23 r23 => asD (.int .i64) a23 fun s9 => asCons r23 fun a24 r24 => asD (.arr 16 (.int .i64)) a24 fun s10 => asCons r24 fun a25 r25 => asD (.int .i64) a25 fun s11 => asCons r25 fun a26 r26 => asD (.int .i64) a26 fun s12 => asCons r26 fun a27 r27 => asD (.int .i64) a27 fun s13 => asCons r27 fun a28 r28 => asAgL a28 fun l29 => asCons l29 fun a30 r30 => asP (.vec 14) a30 <| asCons r30 fun a31 r31 => asD (.int .i64) a31 fun s14 => asCons r31 fun a32 r32 => asD (.int .i64) a32 fun s15 => asNil r32 <| asCons r28 fun a33 r33 => asD .bool a33 fun s16 => asCons r33 fun a34 r34 => asD opT a34 fun s17 => asCons r34 fun a35 r35 => asD (.int .i64) a35 fun s18 => asCons r35 fun a36 r36 => asD (.int .i64) a36 fun s19 => asNil r36 <| asCons r9 fun a37 r37 => asRw (.int .i64) false a37 fun s20 => asCons r37 fun a38 r38 => asRw (.int .i64) false a38 fun s21 => asCons r38 fun a39 r39 => asRw (.pair (.int .i64) (.pair (.int .i64) (.pair (.sl (.int .i64)) (.pair (.int .i64) .unit)))) false a39 fun s22 => asCons r39 fun a40 r40 => asOne (.pair (.sl (.int .i64)) (.pair (.int .i64) (.pair (.int .i64) (.pair (.int .i64) (.pair (.int .i64) (.pair (.int .i64) (.pair (.int .i64) (.pair (.sl (.int .i64)) .unit)))))))) a40 fun a41 => asAgL a41 fun l42 => asCons l42 fun a43 r43 => asP (.vec 10) a43 <| asCons r43 fun a44 r44 => asD (.int .i64) a44 fun s23 => asCons r44 fun a45 r45 => asD (.int .i64) a45 fun s24 => asCons r45 fun a46 r46 => asD (.int .i64) a46 fun s25 => asCons r46 fun a47 r47 => asD (.int .i64) a47 fun s26 => asCons r47 fun a48 r48 => asD (.int .i64) a48 fun s27 => asCons r48 fun a49 r49 => asD (.int .i64) a49 fun s28 => asCons r49 fun a50 r50 => asP (.vec 11) a50 <| asNil r50 <| asCons r40 fun a51 r51 => asRw (.int .i64) false a51 fun s29 => asCons r51 fun a52 r52 => asRw (.int .i64) false a52 fun s30 => asCons r52 fun a53 r53 => asOne (.pair (.pair (.int .i64) (.pair (.int .i64) (.pair (.int .i64) (.pair (.arr 16 (.int .i64)) (.pair (.sl (.int .i64)) .unit))))) (.pair (.int .i64) .unit)) a53 fun a54 => asAgL a54 fun l55 => asCons l55 fun a56 r56 => asAgL a56 fun l57 => asCons l57 fun a58 r58 => asD (.int .i64) a58 fun s31 => asCons r58 fun a59 r59 => asD (.int .i64) a59 fun s32 => asCons r59 fun a60 r60 => asD (.int .i64) a60 fun s33 => asCons r60 fun a61 r61 => asD (.arr 16 (.int .i64)) a61 fun s34 => asCons r61 fun a62 r62 => asP (.vec 13) a62 <| asNil r62 <| asCons r56 fun a63 r63 => asD (.int .i64) a63 fun s35 => asNil r63 <| asCons r53 fun a64 r64 => asRw (.int .i64) false a64 fun s36 => asCons r64 fun a65 r65 => asRw (.int .i64) false a65 fun s37 => asNil r65 <| j45r10v2 (fun z1 z2 z3 z4 z5 z6 z7 z8 z9 z10 z11 z12 z13 z14 z15 z16 z17 z18 z19 z20 z21 z22 z23 z24 z25 z26 z27 z28 z29 z30 z31 z32 z33 z34 z35 z36 z37 => K .ret [(4, .ptr 4 0 []), (5, I z1)] [.row (.int .i64) z2 false, .row (.int .i64) z3 false, .row (.pair (.int .i64) (.pair (.int .i64) (.pair (.sl (.int .i64)) (.pair (.int .i64) .unit)))) z4 false, .row (.pair (.int .i64) (.pair (.int .i64) (.pair (.int .i64) (.pair (.sl (.pair .str (.pair (.int .i64) (.pair (.int .i64) .unit)))) .unit)))) z5 false, .one (.pair (.pair (.sl (.int .i64)) (.pair (.int .i64) (.pair (.sl (.int .i64)) (.pair (.sl (.pair (.int .i64) (.pair (.int .i64) (.pair (.sl (.int .i64)) (.pair (.int .i64) .unit))))) (.pair (.sl (.pair (.int .i64) (.pair (.int .i64) (.pair (.int .i64) (.pair (.sl (.pair .str (.pair (.int .i64) (.pair (.int .i64) .unit)))) .unit))))) .unit))))) (.pair (.opq .ptr) (.pair (.opq .ptr) (.pair (.opq .ptr) (.pair (.opq .ptr) (.pair (.int .i64) (.pair (.arr 16 (.int .i64)) (.pair (.int .i64) (.pair (.int .i64) (.pair (.int .i64) (.pair (.pair (.sl (.int .i64)) (.pair (.int .i64) (.pair (.int .i64) .unit))) (.pair .bool (.pair (.pair (.int .i64) (.pair (.int .i64) (.pair (.int .i64) (.pair (.int .i64) (.pair (.int .i64) .unit))))) (.pair (.int .i64) (.pair (.int .i64) .unit))))))))))))))) (.agg [.agg [.vec 5, I z6, .vec 6, .vec 7, .vec 3], .ptr 8 0 [], .d (.opq .ptr) z7, .d (.opq .ptr) z8, .ptr 11 0 [], I z9, .d (.arr 16 (.int .i64)) z10, I z11, I z12, I z13, .agg [.vec 13, I z14, I z15], B z16, .d opT z17, I z18, I z19]), .row (.int .i64) z20 false, .row (.int .i64) z21 false, .row (.pair (.int .i64) (.pair (.int .i64) (.pair (.sl (.int .i64)) (.pair (.int .i64) .unit)))) z22 false, .one (.pair (.sl (.int .i64)) (.pair (.int .i64) (.pair (.int .i64) (.pair (.int .i64) (.pair (.int .i64) (.pair (.int .i64) (.pair (.int .i64) (.pair (.sl (.int .i64)) .unit)))))))) (.agg [.vec 9, I z23, I z24, I z25, I z26, I z27, I z28, .vec 10]), .row (.int .i64) z29 false, .row (.int .i64) z30 false, .one (.pair (.pair (.int .i64) (.pair (.int .i64) (.pair (.int .i64) (.pair (.arr 16 (.int .i64)) (.pair (.sl (.int .i64)) .unit))))) (.pair (.int .i64) .unit)) (.agg [.agg [I z31, I z32, I z33, .d (.arr 16 (.int .i64)) z34, .vec 12], I z35]), .row (.int .i64) z36 false, .row (.int .i64) z37 false]) (fun z1 z2 z3 z4 z5 z6 z7 z8 z9 z10 z11 z12 z13 z14 z15 z16 z17 z18 z19 z20 z21 z22 z23 z24 z25 z26 z27 z28 z29 z30 z31 z32 z33 z34 z35 z36 z37 z38 => K .ret [(4, .ptr 4 0 []), (5, I z1)] [.row (.int .i64) z2 false, .row (.int .i64) z3 false, .row (.pair (.int .i64) (.pair (.int .i64) (.pair (.sl (.int .i64)) (.pair (.int .i64) .unit)))) z4 false, .row (.pair (.int .i64) (.pair (.int .i64) (.pair (.int .i64) (.pair (.sl (.pair .str (.pair (.int .i64) (.pair (.int .i64) .unit)))) .unit)))) z5 false, .one (.pair (.pair (.sl (.int .i64)) (.pair (.int .i64) (.pair (.sl (.int .i64)) (.pair (.sl (.pair (.int .i64) (.pair (.int .i64) (.pair (.sl (.int .i64)) (.pair (.int .i64) .unit))))) (.pair (.sl (.pair (.int .i64) (.pair (.int .i64) (.pair (.int .i64) (.pair (.sl (.pair .str (.pair (.int .i64) (.pair (.int .i64) .unit)))) .unit))))) .unit))))) (.pair (.opq .ptr) (.pair (.opq .ptr) (.pair (.opq .ptr) (.pair (.opq .ptr) (.pair (.int .i64) (.pair (.arr 16 (.int .i64)) (.pair (.int .i64) (.pair (.int .i64) (.pair (.int .i64) (.pair (.pair (.sl (.int .i64)) (.pair (.int .i64) (.pair (.int .i64) .unit))) (.pair .bool (.pair (.pair (.int .i64) (.pair (.int .i64) (.pair (.int .i64) (.pair (.int .i64) (.pair (.int .i64) .unit))))) (.pair (.int .i64) (.pair (.int .i64) .unit))))))))))))))) (.agg [.agg [.vec 5, I z6, .vec 6, .vec 7, .vec 3], .ptr 8 0 [], .d (.opq .ptr) z7, .ptr 11 0 [], .ptr 13 0 [], I z8, .d (.arr 16 (.int .i64)) z9, I z10, I z11, I z12, .agg [.vec 15, I z13, I z14], B z15, .d opT z16, I z17, I z18]), .row (.int .i64) z19 false, .row (.int .i64) z20 false, .row (.pair (.int .i64) (.pair (.int .i64) (.pair (.sl (.int .i64)) (.pair (.int .i64) .unit)))) z21 false, .one (.pair (.sl (.int .i64)) (.pair (.int .i64) (.pair (.int .i64) (.pair (.int .i64) (.pair (.int .i64) (.pair (.int .i64) (.pair (.int .i64) (.pair (.sl (.int .i64)) .unit)))))))) (.agg [.vec 9, I z22, I z23, I z24, I z25, I z26, I z27, .vec 10]), .row (.int .i64) z28 false, .row (.int .i64) z29 false, .one (.pair (.sl (.int .i64)) (.pair (.int .i64) .unit)) (.agg [.vec 12, I z30]), .row (.int .i64) z31 false, .one (.pair (.pair (.int .i64) (.pair (.int .i64) (.pair (.int .i64) (.pair (.arr 16 (.int .i64)) (.pair (.sl (.int .i64)) .unit))))) (.pair (.int .i64) .unit)) (.agg [.agg [I z32, I z33, I z34, .d (.arr 16 (.int .i64)) z35, .vec 14], I z36]), .row (.int .i64) z37 false, .row (.int .i64) z38 false]) (fun z1 z2 z3 z4 z5 z6 z7 z8 z9 z10 z11 z12 z13 z14 z15 z16 z17 z18 z19 z20 z21 z22 z23 z24 z25 z26 z27 z28 z29 z30 z31 z32 z33 z34 z35 z36 z37 z38 z39 z40 z41 => K .ret [(4, .ptr 4 0 []), (5, I z1)] [.row (.int .i64) z2 false, .row (.int .i64) z3 false, .row (.pair (.int .i64) (.pair (.int .i64) (.pair (.sl (.int .i64)) (.pair (.int .i64) .unit)))) z4 false, .row (.pair (.int .i64) (.pair (.int .i64) (.pair (.int .i64) (.pair (.sl (.pair .str (.pair (.int .i64) (.pair (.int .i64) .unit)))) .unit)))) z5 false, .one (.pair (.pair (.sl (.int .i64)) (.pair (.int .i64) (.pair (.sl (.int .i64)) (.pair (.sl (.pair (.int .i64) (.pair (.int .i64) (.pair (.sl (.int .i64)) (.pair (.int .i64) .unit))))) (.pair (.sl (.pair (.int .i64) (.pair (.int .i64) (.pair (.int .i64) (.pair (.sl (.pair .str (.pair (.int .i64) (.pair (.int .i64) .unit)))) .unit))))) .unit))))) (.pair (.opq .ptr) (.pair (.opq .ptr) (.pair (.opq .ptr) (.pair (.opq .ptr) (.pair (.int .i64) (.pair (.arr 16 (.int .i64)) (.pair (.int .i64) (.pair (.int .i64) (.pair (.int .i64) (.pair (.pair (.sl (.int .i64)) (.pair (.int .i64) (.pair (.int .i64) .unit))) (.pair .bool (.pair (.pair (.int .i64) (.pair (.int .i64) (.pair (.int .i64) (.pair (.int .i64) (.pair (.int .i64) .unit))))) (.pair (.int .i64) (.pair (.int .i64) .unit))))))))))))))) (.agg [.agg [.vec 5, I z6, .vec 6, .vec 7, .vec 3], .ptr 8 0 [], .ptr 11 0 [], .d (.opq .ptr) z7, .ptr 16 0 [], I z8, .d (.arr 16 (.int .i64)) z9, I z10, I z11, I z12, .agg [.vec 18, I z13, I z14], B z15, .d opT z16, I z17, I z18]), .row (.int .i64) z19 false, .row (.int .i64) z20 false, .row (.pair (.int .i64) (.pair (.int .i64) (.pair (.sl (.int .i64)) (.pair (.int .i64) .unit)))) z21 false, .one (.pair (.sl (.int .i64)) (.pair (.int .i64) (.pair (.int .i64) (.pair (.int .i64) (.pair (.int .i64) (.pair (.int .i64) (.pair (.int .i64) (.pair (.sl (.int .i64)) .unit)))))))) (.agg [.vec 9, I z22, I z23, I z24, I z25, I z26, I z27, .vec 10]), .row (.int .i64) z28 false, .row (.int .i64) z29 false, .one (.pair (.opq .ptr) (.pair (.opq .ptr) (.pair (.int .i64) .unit))) (.agg [.ptr 12 0 [], .ptr 14 0 [], I z30]), .one (.pair (.pair (.int .i64) (.pair (.int .i64) (.pair (.int .i64) (.pair (.int .i64) .unit)))) (.pair (.sl (.sl (.pair (.int .i64) (.pair .bool .unit)))) .unit)) (.agg [.d (.pair (.int .i64) (.pair (.int .i64) (.pair (.int .i64) (.pair (.int .i64) .unit)))) z31, .vec 13]), .row (.sl (.pair (.int .i64) (.pair .bool .unit))) z32 false, .one (.pair (.pair (.int .i64) (.pair (.int .i64) (.pair (.int .i64) (.pair (.int .i64) .unit)))) (.pair (.sl (.sl (.pair (.int .i64) (.pair .bool .unit)))) .unit)) (.agg [.d (.pair (.int .i64) (.pair (.int .i64) (.pair (.int .i64) (.pair (.int .i64) .unit)))) z33, .vec 15]), .row (.sl (.pair (.int .i64) (.pair .bool .unit))) z34 false, .one (.pair (.pair (.int .i64) (.pair (.int .i64) (.pair (.int .i64) (.pair (.arr 16 (.int .i64)) (.pair (.sl (.int .i64)) .unit))))) (.pair (.int .i64) .unit)) (.agg [.agg [I z35, I z36, I z37, .d (.arr 16 (.int .i64)) z38, .vec 17], I z39]), .row (.int .i64) z40 false, .row (.int .i64) z41 false]) (fun z1 z2 z3 z4 z5 z6 z7 z8 z9 z10 z11 z12 z13 z14 z15 z16 z17 z18 z19 z20 z21 z22 z23 z24 z25 z26 z27 z28 z29 z30 z31 z32 z33 z34 z35 z36 z37 z38 z39 z40 z41 z42 => K .ret [(4, .ptr 4 0 []), (5, I z1)] [.row (.int .i64) z2 false, .row (.int .i64) z3 false, .row (.pair (.int .i64) (.pair (.int .i64) (.pair (.sl (.int .i64)) (.pair (.int .i64) .unit)))) z4 false, .row (.pair (.int .i64) (.pair (.int .i64) (.pair (.int .i64) (.pair (.sl (.pair .str (.pair (.int .i64) (.pair (.int .i64) .unit)))) .unit)))) z5 false, .one (.pair (.pair (.sl (.int .i64)) (.pair (.int .i64) (.pair (.sl (.int .i64)) (.pair (.sl (.pair (.int .i64) (.pair (.int .i64) (.pair (.sl (.int .i64)) (.pair (.int .i64) .unit))))) (.pair (.sl (.pair (.int .i64) (.pair (.int .i64) (.pair (.int .i64) (.pair (.sl (.pair .str (.pair (.int .i64) (.pair (.int .i64) .unit)))) .unit))))) .unit))))) (.pair (.opq .ptr) (.pair (.opq .ptr) (.pair (.opq .ptr) (.pair (.opq .ptr) (.pair (.int .i64) (.pair (.arr 16 (.int .i64)) (.pair (.int .i64) (.pair (.int .i64) (.pair (.int .i64) (.pair (.pair (.sl (.int .i64)) (.pair (.int .i64) (.pair (.int .i64) .unit))) (.pair .bool (.pair (.pair (.int .i64) (.pair (.int .i64) (.pair (.int .i64) (.pair (.int .i64) (.pair (.int .i64) .unit))))) (.pair (.int .i64) (.pair (.int .i64) .unit))))))))))))))) (.agg [.agg [.vec 5, I z6, .vec 6, .vec 7, .vec 3], .ptr 8 0 [], .ptr 11 0 [], .ptr 16 0 [], .ptr 18 0 [], I z7, .d (.arr 16 (.int .i64)) z8, I z9, I z10, I z11, .agg [.vec 20, I z12, I z13], B z14, .d opT z15, I z16, I z17]), .row (.int .i64) z18 false, .row (.int .i64) z19 false, .row (.pair (.int .i64) (.pair (.int .i64) (.pair (.sl (.int .i64)) (.pair (.int .i64) .unit)))) z20 false, .one (.pair (.sl (.int .i64)) (.pair (.int .i64) (.pair (.int .i64) (.pair (.int .i64) (.pair (.int .i64) (.pair (.int .i64) (.pair (.int .i64) (.pair (.sl (.int .i64)) .unit)))))))) (.agg [.vec 9, I z21, I z22, I z23, I z24, I z25, I z26, .vec 10]), .row (.int .i64) z27 false, .row (.int .i64) z28 false, .one (.pair (.opq .ptr) (.pair (.opq .ptr) (.pair (.int .i64) .unit))) (.agg [.ptr 12 0 [], .ptr 14 0 [], I z29]), .one (.pair (.pair (.int .i64) (.pair (.int .i64) (.pair (.int .i64) (.pair (.int .i64) .unit)))) (.pair (.sl (.sl (.pair (.int .i64) (.pair .bool .unit)))) .unit)) (.agg [.d (.pair (.int .i64) (.pair (.int .i64) (.pair (.int .i64) (.pair (.int .i64) .unit)))) z30, .vec 13]), .row (.sl (.pair (.int .i64) (.pair .bool .unit))) z31 false, .one (.pair (.pair (.int .i64) (.pair (.int .i64) (.pair (.int .i64) (.pair (.int .i64) .unit)))) (.pair (.sl (.sl (.pair (.int .i64) (.pair .bool .unit)))) .unit)) (.agg [.d (.pair (.int .i64) (.pair (.int .i64) (.pair (.int .i64) (.pair (.int .i64) .unit)))) z32, .vec 15]), .row (.sl (.pair (.int .i64) (.pair .bool .unit))) z33 false, .one (.pair (.sl (.int .i64)) (.pair (.int .i64) .unit)) (.agg [.vec 17, I z34]), .row (.int .i64) z35 false, .one (.pair (.pair (.int .i64) (.pair (.int .i64) (.pair (.int .i64) (.pair (.arr 16 (.int .i64)) (.pair (.sl (.int .i64)) .unit))))) (.pair (.int .i64) .unit)) (.agg [.agg [I z36, I z37, I z38, .d (.arr 16 (.int .i64)) z39, .vec 19], I z40]), .row (.int .i64) z41 false, .row (.int .i64) z42 false]) s1 s2 s3 s4 s5 s6 s7 s8 s9 s10 s11 s12 s13 s14 s15 s16 s17 s18 s19 s20 s21 s22 s23 s24 s25 s26 s27 s28 s29 s30 s31 s32 s33 s34 s35 s36 s37
theorem j45r10v2v : JoinV E (inlF (PA (ACall E)) E 8) (E.info 45).keep 4 Try.f45.ntmps 46400010 4000010 (jbody Try.f45 4000010) ([3, 8], lsj45r10v2) := by
  intro vs σ K (h0 : lsj45r10v2 vs σ K)
  unfold lsj45r10v2 at h0
  obtain ⟨a1, r1, rfl, h1⟩ := asCons_inv h0; clear h0
  obtain ⟨rfl, h2⟩ := asP_inv h1; clear h1
  obtain ⟨a2, r2, rfl, h3⟩ := asCons_inv h2; clear h2
  obtain ⟨rfl, h4⟩ := asP_inv h3; clear h3
  obtain ⟨rfl, h5⟩ := asNil_inv h4; clear h4
  obtain ⟨a3, r3, rfl, h6⟩ := asCons_inv h5; clear h5
  obtain ⟨s1, rfl, h7⟩ := asRw_inv h6; clear h6
  obtain ⟨a4, r4, rfl, h8⟩ := asCons_inv h7; clear h7
  obtain ⟨s2, rfl, h9⟩ := asRw_inv h8; clear h8
  obtain ⟨a5, r5, rfl, h10⟩ := asCons_inv h9; clear h9
  obtain ⟨s3, rfl, h11⟩ := asRw_inv h10; clear h10
  obtain ⟨a6, r6, rfl, h12⟩ := asCons_inv h11; clear h11
  obtain ⟨s4, rfl, h13⟩ := asRw_inv h12; clear h12
  obtain ⟨a7, r7, rfl, h14⟩ := asCons_inv h13; clear h13
  obtain ⟨a8, rfl, h15⟩ := asOne_inv h14; clear h14
  obtain ⟨s5, rfl, h16⟩ := asD_inv h15; clear h15
  obtain ⟨a9, r9, rfl, h17⟩ := asCons_inv h16; clear h16
  obtain ⟨a10, rfl, h18⟩ := asOne_inv h17; clear h17
  obtain ⟨l11, rfl, h19⟩ := asAgL_inv h18; clear h18
  obtain ⟨a12, r12, rfl, h20⟩ := asCons_inv h19; clear h19
  obtain ⟨l13, rfl, h21⟩ := asAgL_inv h20; clear h20
  obtain ⟨a14, r14, rfl, h22⟩ := asCons_inv h21; clear h21
  obtain ⟨rfl, h23⟩ := asP_inv h22; clear h22
  obtain ⟨a15, r15, rfl, h24⟩ := asCons_inv h23; clear h23
  obtain ⟨s6, rfl, h25⟩ := asD_inv h24; clear h24
  obtain ⟨a16, r16, rfl, h26⟩ := asCons_inv h25; clear h25
  obtain ⟨rfl, h27⟩ := asP_inv h26; clear h26
  obtain ⟨a17, r17, rfl, h28⟩ := asCons_inv h27; clear h27
  obtain ⟨rfl, h29⟩ := asP_inv h28; clear h28
  obtain ⟨a18, r18, rfl, h30⟩ := asCons_inv h29; clear h29
  obtain ⟨rfl, h31⟩ := asP_inv h30; clear h30
  obtain ⟨rfl, h32⟩ := asNil_inv h31; clear h31
  obtain ⟨a19, r19, rfl, h33⟩ := asCons_inv h32; clear h32
  obtain ⟨rfl, h34⟩ := asP_inv h33; clear h33
  obtain ⟨a20, r20, rfl, h35⟩ := asCons_inv h34; clear h34
  obtain ⟨s7, rfl, h36⟩ := asD_inv h35; clear h35
  obtain ⟨a21, r21, rfl, h37⟩ := asCons_inv h36; clear h36
  obtain ⟨s8, rfl, h38⟩ := asD_inv h37; clear h37
  obtain ⟨a22, r22, rfl, h39⟩ := asCons_inv h38; clear h38
  obtain ⟨rfl, h40⟩ := asP_inv h39; clear h39
  obtain ⟨a23, r23, rfl, h41⟩ := asCons_inv h40; clear h40
  obtain ⟨s9, rfl, h42⟩ := asD_inv h41; clear h41
  obtain ⟨a24, r24, rfl, h43⟩ := asCons_inv h42; clear h42
  obtain ⟨s10, rfl, h44⟩ := asD_inv h43; clear h43
  obtain ⟨a25, r25, rfl, h45⟩ := asCons_inv h44; clear h44
  obtain ⟨s11, rfl, h46⟩ := asD_inv h45; clear h45
  obtain ⟨a26, r26, rfl, h47⟩ := asCons_inv h46; clear h46
  obtain ⟨s12, rfl, h48⟩ := asD_inv h47; clear h47
  obtain ⟨a27, r27, rfl, h49⟩ := asCons_inv h48; clear h48
  obtain ⟨s13, rfl, h50⟩ := asD_inv h49; clear h49
  obtain ⟨a28, r28, rfl, h51⟩ := asCons_inv h50; clear h50
  obtain ⟨l29, rfl, h52⟩ := asAgL_inv h51; clear h51
  obtain ⟨a30, r30, rfl, h53⟩ := asCons_inv h52; clear h52
  obtain ⟨rfl, h54⟩ := asP_inv h53; clear h53
  obtain ⟨a31, r31, rfl, h55⟩ := asCons_inv h54; clear h54
  obtain ⟨s14, rfl, h56⟩ := asD_inv h55; clear h55
  obtain ⟨a32, r32, rfl, h57⟩ := asCons_inv h56; clear h56
  obtain ⟨s15, rfl, h58⟩ := asD_inv h57; clear h57
  obtain ⟨rfl, h59⟩ := asNil_inv h58; clear h58
  obtain ⟨a33, r33, rfl, h60⟩ := asCons_inv h59; clear h59
  obtain ⟨s16, rfl, h61⟩ := asD_inv h60; clear h60
  obtain ⟨a34, r34, rfl, h62⟩ := asCons_inv h61; clear h61
  obtain ⟨s17, rfl, h63⟩ := asD_inv h62; clear h62
  obtain ⟨a35, r35, rfl, h64⟩ := asCons_inv h63; clear h63
  obtain ⟨s18, rfl, h65⟩ := asD_inv h64; clear h64
  obtain ⟨a36, r36, rfl, h66⟩ := asCons_inv h65; clear h65
  obtain ⟨s19, rfl, h67⟩ := asD_inv h66; clear h66
  obtain ⟨rfl, h68⟩ := asNil_inv h67; clear h67
  obtain ⟨a37, r37, rfl, h69⟩ := asCons_inv h68; clear h68
  obtain ⟨s20, rfl, h70⟩ := asRw_inv h69; clear h69
  obtain ⟨a38, r38, rfl, h71⟩ := asCons_inv h70; clear h70
  obtain ⟨s21, rfl, h72⟩ := asRw_inv h71; clear h71
  obtain ⟨a39, r39, rfl, h73⟩ := asCons_inv h72; clear h72
  obtain ⟨s22, rfl, h74⟩ := asRw_inv h73; clear h73
  obtain ⟨a40, r40, rfl, h75⟩ := asCons_inv h74; clear h74
  obtain ⟨a41, rfl, h76⟩ := asOne_inv h75; clear h75
  obtain ⟨l42, rfl, h77⟩ := asAgL_inv h76; clear h76
  obtain ⟨a43, r43, rfl, h78⟩ := asCons_inv h77; clear h77
  obtain ⟨rfl, h79⟩ := asP_inv h78; clear h78
  obtain ⟨a44, r44, rfl, h80⟩ := asCons_inv h79; clear h79
  obtain ⟨s23, rfl, h81⟩ := asD_inv h80; clear h80
  obtain ⟨a45, r45, rfl, h82⟩ := asCons_inv h81; clear h81
  obtain ⟨s24, rfl, h83⟩ := asD_inv h82; clear h82
  obtain ⟨a46, r46, rfl, h84⟩ := asCons_inv h83; clear h83
  obtain ⟨s25, rfl, h85⟩ := asD_inv h84; clear h84
  obtain ⟨a47, r47, rfl, h86⟩ := asCons_inv h85; clear h85
  obtain ⟨s26, rfl, h87⟩ := asD_inv h86; clear h86
  obtain ⟨a48, r48, rfl, h88⟩ := asCons_inv h87; clear h87
  obtain ⟨s27, rfl, h89⟩ := asD_inv h88; clear h88
  obtain ⟨a49, r49, rfl, h90⟩ := asCons_inv h89; clear h89
  obtain ⟨s28, rfl, h91⟩ := asD_inv h90; clear h90
  obtain ⟨a50, r50, rfl, h92⟩ := asCons_inv h91; clear h91
  obtain ⟨rfl, h93⟩ := asP_inv h92; clear h92
  obtain ⟨rfl, h94⟩ := asNil_inv h93; clear h93
  obtain ⟨a51, r51, rfl, h95⟩ := asCons_inv h94; clear h94
  obtain ⟨s29, rfl, h96⟩ := asRw_inv h95; clear h95
  obtain ⟨a52, r52, rfl, h97⟩ := asCons_inv h96; clear h96
  obtain ⟨s30, rfl, h98⟩ := asRw_inv h97; clear h97
  obtain ⟨a53, r53, rfl, h99⟩ := asCons_inv h98; clear h98
  obtain ⟨a54, rfl, h100⟩ := asOne_inv h99; clear h99
  obtain ⟨l55, rfl, h101⟩ := asAgL_inv h100; clear h100
  obtain ⟨a56, r56, rfl, h102⟩ := asCons_inv h101; clear h101
  obtain ⟨l57, rfl, h103⟩ := asAgL_inv h102; clear h102
  obtain ⟨a58, r58, rfl, h104⟩ := asCons_inv h103; clear h103
  obtain ⟨s31, rfl, h105⟩ := asD_inv h104; clear h104
  obtain ⟨a59, r59, rfl, h106⟩ := asCons_inv h105; clear h105
  obtain ⟨s32, rfl, h107⟩ := asD_inv h106; clear h106
  obtain ⟨a60, r60, rfl, h108⟩ := asCons_inv h107; clear h107
  obtain ⟨s33, rfl, h109⟩ := asD_inv h108; clear h108
  obtain ⟨a61, r61, rfl, h110⟩ := asCons_inv h109; clear h109
  obtain ⟨s34, rfl, h111⟩ := asD_inv h110; clear h110
  obtain ⟨a62, r62, rfl, h112⟩ := asCons_inv h111; clear h111
  obtain ⟨rfl, h113⟩ := asP_inv h112; clear h112
  obtain ⟨rfl, h114⟩ := asNil_inv h113; clear h113
  obtain ⟨a63, r63, rfl, h115⟩ := asCons_inv h114; clear h114
  obtain ⟨s35, rfl, h116⟩ := asD_inv h115; clear h115
  obtain ⟨rfl, h117⟩ := asNil_inv h116; clear h116
  obtain ⟨a64, r64, rfl, h118⟩ := asCons_inv h117; clear h117
  obtain ⟨s36, rfl, h119⟩ := asRw_inv h118; clear h118
  obtain ⟨a65, r65, rfl, h120⟩ := asCons_inv h119; clear h119
  obtain ⟨s37, rfl, h121⟩ := asRw_inv h120; clear h120
  obtain ⟨rfl, h122⟩ := asNil_inv h121; clear h121
  exact join_round2 (S := ofL Sj45r10v2) (L := lofL Lj45r10v2) hSj45r10v2 (inlOK _) (all_eq (by kernel_rfl : subsOf (E.info 45).keep (jbody Try.f45 4000010) = []) (all_nil)) (by kernel_rfl) h122.of

abbrev Sj45r8 : List (Nat × Pat × Sp) := [(114, none, sp114), (115, none, sp115), (66, none, sp66)]
theorem hSj45r8 : SpecOK E (ofL Sj45r8) := specOK_cons h114 (specOK_cons h115 (specOK_cons h66 (specOK_nil)))
abbrev Lj45r8 : List (Nat × List Nat × Pat × LSp) := [(46400010, [3, 8], some ([.fix (.ptr 4 0 []), .fix (.ptr 5 0 [])], [.row (.int .i64) false, .row (.int .i64) false, .row (.pair (.int .i64) (.pair (.int .i64) (.pair (.sl (.int .i64)) (.pair (.int .i64) .unit)))) false, .row (.pair (.int .i64) (.pair (.int .i64) (.pair (.int .i64) (.pair (.sl (.pair .str (.pair (.int .i64) (.pair (.int .i64) .unit)))) .unit)))) false, .one (.pair (.int .i64) (.pair (.int .i64) (.pair (.int .i64) (.pair (.int .i64) (.pair (.pair (.int .i64) (.pair (.int .i64) (.pair (.int .i64) (.pair (.int .i64) .unit)))) (.pair (.pair (.int .i64) (.pair (.int .i64) (.pair (.int .i64) (.pair (.int .i64) .unit)))) (.pair (.int .i64) .unit))))))) (.d (.pair (.int .i64) (.pair (.int .i64) (.pair (.int .i64) (.pair (.int .i64) (.pair (.pair (.int .i64) (.pair (.int .i64) (.pair (.int .i64) (.pair (.int .i64) .unit)))) (.pair (.pair (.int .i64) (.pair (.int .i64) (.pair (.int .i64) (.pair (.int .i64) .unit)))) (.pair (.int .i64) .unit)))))))), .one (.pair (.pair (.sl (.int .i64)) (.pair (.int .i64) (.pair (.sl (.int .i64)) (.pair (.sl (.pair (.int .i64) (.pair (.int .i64) (.pair (.sl (.int .i64)) (.pair (.int .i64) .unit))))) (.pair (.sl (.pair (.int .i64) (.pair (.int .i64) (.pair (.int .i64) (.pair (.sl (.pair .str (.pair (.int .i64) (.pair (.int .i64) .unit)))) .unit))))) .unit))))) (.pair (.opq .ptr) (.pair (.opq .ptr) (.pair (.opq .ptr) (.pair (.opq .ptr) (.pair (.int .i64) (.pair (.arr 16 (.int .i64)) (.pair (.int .i64) (.pair (.int .i64) (.pair (.int .i64) (.pair (.pair (.sl (.int .i64)) (.pair (.int .i64) (.pair (.int .i64) .unit))) (.pair .bool (.pair (.pair (.int .i64) (.pair (.int .i64) (.pair (.int .i64) (.pair (.int .i64) (.pair (.int .i64) .unit))))) (.pair (.int .i64) (.pair (.int .i64) .unit))))))))))))))) (.agg [.agg [.fix (.vec 6), .d (.int .i64), .fix (.vec 7), .fix (.vec 8), .fix (.vec 3)], .d (.opq .ptr), .d (.opq .ptr), .d (.opq .ptr), .fix (.ptr 9 0 []), .d (.int .i64), .d (.arr 16 (.int .i64)), .d (.int .i64), .d (.int .i64), .d (.int .i64), .agg [.fix (.vec 11), .d (.int .i64), .d (.int .i64)], .d .bool, .d opT, .d (.int .i64), .d (.int .i64)]), .row (.int .i64) false, .row (.int .i64) false, .row (.pair (.int .i64) (.pair (.int .i64) (.pair (.sl (.int .i64)) (.pair (.int .i64) .unit)))) false, .one (.pair (.pair (.int .i64) (.pair (.int .i64) (.pair (.int .i64) (.pair (.arr 16 (.int .i64)) (.pair (.sl (.int .i64)) .unit))))) (.pair (.int .i64) .unit)) (.agg [.agg [.d (.int .i64), .d (.int .i64), .d (.int .i64), .d (.arr 16 (.int .i64)), .fix (.vec 10)], .d (.int .i64)]), .row (.int .i64) false, .row (.int .i64) false]), lsj45r10), (46400010, [3, 8], some ([.fix (.ptr 4 0 []), .fix (.ptr 5 0 [])], [.row (.int .i64) false, .row (.int .i64) false, .row (.pair (.int .i64) (.pair (.int .i64) (.pair (.sl (.int .i64)) (.pair (.int .i64) .unit)))) false, .row (.pair (.int .i64) (.pair (.int .i64) (.pair (.int .i64) (.pair (.sl (.pair .str (.pair (.int .i64) (.pair (.int .i64) .unit)))) .unit)))) false, .one (.pair (.int .i64) (.pair (.int .i64) (.pair (.int .i64) (.pair (.int .i64) (.pair (.pair (.int .i64) (.pair (.int .i64) (.pair (.int .i64) (.pair (.int .i64) .unit)))) (.pair (.pair (.int .i64) (.pair (.int .i64) (.pair (.int .i64) (.pair (.int .i64) .unit)))) (.pair (.int .i64) .unit))))))) (.d (.pair (.int .i64) (.pair (.int .i64) (.pair (.int .i64) (.pair (.int .i64) (.pair (.pair (.int .i64) (.pair (.int .i64) (.pair (.int .i64) (.pair (.int .i64) .unit)))) (.pair (.pair (.int .i64) (.pair (.int .i64) (.pair (.int .i64) (.pair (.int .i64) .unit)))) (.pair (.int .i64) .unit)))))))), .one (.pair (.pair (.sl (.int .i64)) (.pair (.int .i64) (.pair (.sl (.int .i64)) (.pair (.sl (.pair (.int .i64) (.pair (.int .i64) (.pair (.sl (.int .i64)) (.pair (.int .i64) .unit))))) (.pair (.sl (.pair (.int .i64) (.pair (.int .i64) (.pair (.int .i64) (.pair (.sl (.pair .str (.pair (.int .i64) (.pair (.int .i64) .unit)))) .unit))))) .unit))))) (.pair (.opq .ptr) (.pair (.opq .ptr) (.pair (.opq .ptr) (.pair (.opq .ptr) (.pair (.int .i64) (.pair (.arr 16 (.int .i64)) (.pair (.int .i64) (.pair (.int .i64) (.pair (.int .i64) (.pair (.pair (.sl (.int .i64)) (.pair (.int .i64) (.pair (.int .i64) .unit))) (.pair .bool (.pair (.pair (.int .i64) (.pair (.int .i64) (.pair (.int .i64) (.pair (.int .i64) (.pair (.int .i64) .unit))))) (.pair (.int .i64) (.pair (.int .i64) .unit))))))))))))))) (.agg [.agg [.fix (.vec 6), .d (.int .i64), .fix (.vec 7), .fix (.vec 8), .fix (.vec 3)], .fix (.ptr 9 0 []), .d (.opq .ptr), .d (.opq .ptr), .fix (.ptr 12 0 []), .d (.int .i64), .d (.arr 16 (.int .i64)), .d (.int .i64), .d (.int .i64), .d (.int .i64), .agg [.fix (.vec 14), .d (.int .i64), .d (.int .i64)], .d .bool, .d opT, .d (.int .i64), .d (.int .i64)]), .row (.int .i64) false, .row (.int .i64) false, .row (.pair (.int .i64) (.pair (.int .i64) (.pair (.sl (.int .i64)) (.pair (.int .i64) .unit)))) false, .one (.pair (.sl (.int .i64)) (.pair (.int .i64) (.pair (.int .i64) (.pair (.int .i64) (.pair (.int .i64) (.pair (.int .i64) (.pair (.int .i64) (.pair (.sl (.int .i64)) .unit)))))))) (.agg [.fix (.vec 10), .d (.int .i64), .d (.int .i64), .d (.int .i64), .d (.int .i64), .d (.int .i64), .d (.int .i64), .fix (.vec 11)]), .row (.int .i64) false, .row (.int .i64) false, .one (.pair (.pair (.int .i64) (.pair (.int .i64) (.pair (.int .i64) (.pair (.arr 16 (.int .i64)) (.pair (.sl (.int .i64)) .unit))))) (.pair (.int .i64) .unit)) (.agg [.agg [.d (.int .i64), .d (.int .i64), .d (.int .i64), .d (.arr 16 (.int .i64)), .fix (.vec 13)], .d (.int .i64)]), .row (.int .i64) false, .row (.int .i64) false]), lsj45r10v2)]
def lsj45r8 : LSp := fun vs σ K => asCons vs fun a1 r1 => asP (.ptr 4 0 []) a1 <| asCons r1 fun a2 r2 => asP (.ptr 5 0 []) a2 <| asCons r2 fun a3 r3 => asP (.ptr 6 0 []) a3 <| asNil r3 <| asCons σ fun a4 r4 => asRw (.int .i64) false a4 fun s1 => asCons r4 fun a5 r5 => asRw (.int .i64) false a5 fun s2 => asCons r5 fun a6 r6 => asRw (.pair (.int .i64) (.pair (.int .i64) (.pair (.sl (.int .i64)) (.pair (.int .i64) .unit)))) false a6 fun s3 => asCons r6 fun a7 r7 => asRw (.pair (.int .i64) (.pair (.int .i64) (.pair (.int .i64) (.pair (.sl (.pair .str (.pair (.int .i64) (.pair (.int .i64) .unit)))) .unit)))) false a7 fun s4 => asCons r7 fun a8 r8 => asOne (.pair (.sl (.int .i64)) (.pair (.int .i64) (.pair (.sl (.int .i64)) (.pair (.sl (.pair (.int .i64) (.pair (.int .i64) (.pair (.sl (.int .i64)) (.pair (.int .i64) .unit))))) (.pair (.sl (.pair (.int .i64) (.pair (.int .i64) (.pair (.int .i64) (.pair (.sl (.pair .str (.pair (.int .i64) (.pair (.int .i64) .unit)))) .unit))))) .unit))))) a8 fun a9 => asAgL a9 fun l10 => asCons l10 fun a11 r11 => asP (.vec 0) a11 <| asCons r11 fun a12 r12 => asD (.int .i64) a12 fun s5 => asCons r12 fun a13 r13 => asP (.vec 1) a13 <| asCons r13 fun a14 r14 => asP (.vec 2) a14 <| asCons r14 fun a15 r15 => asP (.vec 3) a15 <| asNil r15 <| asCons r8 fun a16 r16 => asOne (.pair (.int .i64) (.pair (.int .i64) (.pair (.int .i64) (.pair (.int .i64) (.pair (.pair (.int .i64) (.pair (.int .i64) (.pair (.int .i64) (.pair (.int .i64) .unit)))) (.pair (.pair (.int .i64) (.pair (.int .i64) (.pair (.int .i64) (.pair (.int .i64) .unit)))) (.pair (.int .i64) .unit))))))) a16 fun a17 => asD (.pair (.int .i64) (.pair (.int .i64) (.pair (.int .i64) (.pair (.int .i64) (.pair (.pair (.int .i64) (.pair (.int .i64) (.pair (.int .i64) (.pair (.int .i64) .unit)))) (.pair (.pair (.int .i64) (.pair (.int .i64) (.pair (.int .i64) (.pair (.int .i64) .unit)))) (.pair (.int .i64) .unit))))))) a17 fun s6 => asCons r16 fun a18 r18 => asOne (.pair (.pair (.sl (.int .i64)) (.pair (.int .i64) (.pair (.sl (.int .i64)) (.pair (.sl (.pair (.int .i64) (.pair (.int .i64) (.pair (.sl (.int .i64)) (.pair (.int .i64) .unit))))) (.pair (.sl (.pair (.int .i64) (.pair (.int .i64) (.pair (.int .i64) (.pair (.sl (.pair .str (.pair (.int .i64) (.pair (.int .i64) .unit)))) .unit))))) .unit))))) (.pair (.opq .ptr) (.pair (.opq .ptr) (.pair (.opq .ptr) (.pair (.opq .ptr) (.pair (.int .i64) (.pair (.arr 16 (.int .i64)) (.pair (.int .i64) (.pair (.int .i64) (.pair (.int .i64) (.pair (.pair (.sl (.int .i64)) (.pair (.int .i64) (.pair (.int .i64) .unit))) (.pair .bool (.pair (.pair (.int .i64) (.pair (.int .i64) (.pair (.int .i64) (.pair (.int .i64) (.pair (.int .i64) .unit))))) (.pair (.int .i64) (.pair (.int .i64) .unit))))))))))))))) a18 fun a19 => asAgL a19 fun l20 => asCons l20 fun a21 r21 => asAgL a21 fun l22 => asCons l22 fun a23 r23 => asP (.vec 0) a23 <| asCons r23 fun a24 r24 => asD (.int .i64) a24 fun s7 => asCons r24 fun a25 r25 => asP (.vec 1) a25 <| asCons r25 fun a26 r26 => asP (.vec 2) a26 <| asCons r26 fun a27 r27 => asP (.vec 3) a27 <| asNil r27 <| asCons r21 fun a28 r28 => asD (.opq .ptr) a28 fun s8 => asCons r28 fun a29 r29 => asD (.opq .ptr) a29 fun s9 => asCons r29 fun a30 r30 => asD (.opq .ptr) a30 fun s10 => asCons r30 fun a31 r31 => asP (.ptr 7 0 []) a31 <| asCons r31 fun a32 r32 => asD (.int .i64) a32 fun s11 => asCons r32 fun a33 r33 => asD (.arr 16 (.int .i64)) a33 fun s12 => asCons r33 fun a34 r34 => asD (.int .i64) a34 fun s13 => asCons r34 fun a35 r35 => asD (.int .i64) a35 fun s14 => asCons r35 fun a36 r36 => asD (.int .i64) a36 fun s15 => asCons r36 fun a37 r37 => asAgL a37 fun l38 => asCons l38 fun a39 r39 => asP (.vec 9) a39 <| asCons r39 fun a40 r40 => asD (.int .i64) a40 fun s16 => asCons r40 fun a41 r41 => asD (.int .i64) a41 fun s17 => asNil r41 <| asCons r37 fun a42 r42 => asD .bool a42 fun s18 => asCons r42 fun a43 r43 => asD opT a43 fun s19 => asCons r43 fun a44 r44 => asD (.int .i64) a44 fun s20 => asCons r44 fun a45 r45 => asD (.int .i64) a45 fun s21 => asNil r45 <| asCons r18 fun a46 r46 => asOne (.pair (.pair (.int .i64) (.pair (.int .i64) (.pair (.int .i64) (.pair (.arr 16 (.int .i64)) (.pair (.sl (.int .i64)) .unit))))) (.pair (.int .i64) .unit)) a46 fun a47 => asAgL a47 fun l48 => asCons l48 fun a49 r49 => asAgL a49 fun l50 => asCons l50 fun a51 r51 => asD (.int .i64) a51 fun s22 => asCons r51 fun a52 r52 => asD (.int .i64) a52 fun s23 => asCons r52 fun a53 r53 => asD (.int .i64) a53 fun s24 => asCons r53 fun a54 r54 => asD (.arr 16 (.int .i64)) a54 fun s25 => asCons r54 fun a55 r55 => asP (.vec 8) a55 <| asNil r55 <| asCons r49 fun a56 r56 => asD (.int .i64) a56 fun s26 => asNil r56 <| asCons r46 fun a57 r57 => asRw (.int .i64) false a57 fun s27 => asCons r57 fun a58 r58 => asRw (.int .i64) false a58 fun s28 => asNil r58 <| j45r8 (fun z1 z2 z3 z4 z5 z6 z7 z8 z9 z10 z11 z12 z13 z14 z15 z16 z17 z18 z19 z20 z21 z22 z23 z24 z25 z26 z27 z28 z29 z30 => K .ret [(4, .ptr 4 0 []), (5, I z1)] [.row (.int .i64) z2 false, .row (.int .i64) z3 false, .row (.pair (.int .i64) (.pair (.int .i64) (.pair (.sl (.int .i64)) (.pair (.int .i64) .unit)))) z4 false, .row (.pair (.int .i64) (.pair (.int .i64) (.pair (.int .i64) (.pair (.sl (.pair .str (.pair (.int .i64) (.pair (.int .i64) .unit)))) .unit)))) z5 false, .one (.pair (.pair (.sl (.int .i64)) (.pair (.int .i64) (.pair (.sl (.int .i64)) (.pair (.sl (.pair (.int .i64) (.pair (.int .i64) (.pair (.sl (.int .i64)) (.pair (.int .i64) .unit))))) (.pair (.sl (.pair (.int .i64) (.pair (.int .i64) (.pair (.int .i64) (.pair (.sl (.pair .str (.pair (.int .i64) (.pair (.int .i64) .unit)))) .unit))))) .unit))))) (.pair (.opq .ptr) (.pair (.opq .ptr) (.pair (.opq .ptr) (.pair (.opq .ptr) (.pair (.int .i64) (.pair (.arr 16 (.int .i64)) (.pair (.int .i64) (.pair (.int .i64) (.pair (.int .i64) (.pair (.pair (.sl (.int .i64)) (.pair (.int .i64) (.pair (.int .i64) .unit))) (.pair .bool (.pair (.pair (.int .i64) (.pair (.int .i64) (.pair (.int .i64) (.pair (.int .i64) (.pair (.int .i64) .unit))))) (.pair (.int .i64) (.pair (.int .i64) .unit))))))))))))))) (.agg [.agg [.vec 5, I z6, .vec 6, .vec 7, .vec 3], .d (.opq .ptr) z7, .d (.opq .ptr) z8, .d (.opq .ptr) z9, .ptr 8 0 [], I z10, .d (.arr 16 (.int .i64)) z11, I z12, I z13, I z14, .agg [.vec 10, I z15, I z16], B z17, .d opT z18, I z19, I z20]), .row (.int .i64) z21 false, .row (.int .i64) z22 false, .row (.pair (.int .i64) (.pair (.int .i64) (.pair (.sl (.int .i64)) (.pair (.int .i64) .unit)))) z23 false, .one (.pair (.pair (.int .i64) (.pair (.int .i64) (.pair (.int .i64) (.pair (.arr 16 (.int .i64)) (.pair (.sl (.int .i64)) .unit))))) (.pair (.int .i64) .unit)) (.agg [.agg [I z24, I z25, I z26, .d (.arr 16 (.int .i64)) z27, .vec 9], I z28]), .row (.int .i64) z29 false, .row (.int .i64) z30 false]) (fun z1 z2 z3 z4 z5 z6 z7 z8 z9 z10 z11 z12 z13 z14 z15 z16 z17 z18 z19 z20 z21 z22 z23 z24 z25 z26 z27 z28 z29 z30 z31 => K .ret [(4, .ptr 4 0 []), (5, I z1)] [.row (.int .i64) z2 false, .row (.int .i64) z3 false, .row (.pair (.int .i64) (.pair (.int .i64) (.pair (.sl (.int .i64)) (.pair (.int .i64) .unit)))) z4 false, .row (.pair (.int .i64) (.pair (.int .i64) (.pair (.int .i64) (.pair (.sl (.pair .str (.pair (.int .i64) (.pair (.int .i64) .unit)))) .unit)))) z5 false, .one (.pair (.pair (.sl (.int .i64)) (.pair (.int .i64) (.pair (.sl (.int .i64)) (.pair (.sl (.pair (.int .i64) (.pair (.int .i64) (.pair (.sl (.int .i64)) (.pair (.int .i64) .unit))))) (.pair (.sl (.pair (.int .i64) (.pair (.int .i64) (.pair (.int .i64) (.pair (.sl (.pair .str (.pair (.int .i64) (.pair (.int .i64) .unit)))) .unit))))) .unit))))) (.pair (.opq .ptr) (.pair (.opq .ptr) (.pair (.opq .ptr) (.pair (.opq .ptr) (.pair (.int .i64) (.pair (.arr 16 (.int .i64)) (.pair (.int .i64) (.pair (.int .i64) (.pair (.int .i64) (.pair (.pair (.sl (.int .i64)) (.pair (.int .i64) (.pair (.int .i64) .unit))) (.pair .bool (.pair (.pair (.int .i64) (.pair (.int .i64) (.pair (.int .i64) (.pair (.int .i64) (.pair (.int .i64) .unit))))) (.pair (.int .i64) (.pair (.int .i64) .unit))))))))))))))) (.agg [.agg [.vec 5, I z6, .vec 6, .vec 7, .vec 3], .d (.opq .ptr) z7, .d (.opq .ptr) z8, .ptr 8 0 [], .ptr 10 0 [], I z9, .d (.arr 16 (.int .i64)) z10, I z11, I z12, I z13, .agg [.vec 12, I z14, I z15], B z16, .d opT z17, I z18, I z19]), .row (.int .i64) z20 false, .row (.int .i64) z21 false, .row (.pair (.int .i64) (.pair (.int .i64) (.pair (.sl (.int .i64)) (.pair (.int .i64) .unit)))) z22 false, .one (.pair (.sl (.int .i64)) (.pair (.int .i64) .unit)) (.agg [.vec 9, I z23]), .row (.int .i64) z24 false, .one (.pair (.pair (.int .i64) (.pair (.int .i64) (.pair (.int .i64) (.pair (.arr 16 (.int .i64)) (.pair (.sl (.int .i64)) .unit))))) (.pair (.int .i64) .unit)) (.agg [.agg [I z25, I z26, I z27, .d (.arr 16 (.int .i64)) z28, .vec 11], I z29]), .row (.int .i64) z30 false, .row (.int .i64) z31 false]) (fun z1 z2 z3 z4 z5 z6 z7 z8 z9 z10 z11 z12 z13 z14 z15 z16 z17 z18 z19 z20 z21 z22 z23 z24 z25 z26 z27 z28 z29 z30 z31 z32 z33 z34 => K .ret [(4, .ptr 4 0 []), (5, I z1)] [.row (.int .i64) z2 false, .row (.int .i64) z3 false, .row (.pair (.int .i64) (.pair (.int .i64) (.pair (.sl (.int .i64)) (.pair (.int .i64) .unit)))) z4 false, .row (.pair (.int .i64) (.pair (.int .i64) (.pair (.int .i64) (.pair (.sl (.pair .str (.pair (.int .i64) (.pair (.int .i64) .unit)))) .unit)))) z5 false, .one (.pair (.pair (.sl (.int .i64)) (.pair (.int .i64) (.pair (.sl (.int .i64)) (.pair (.sl (.pair (.int .i64) (.pair (.int .i64) (.pair (.sl (.int .i64)) (.pair (.int .i64) .unit))))) (.pair (.sl (.pair (.int .i64) (.pair (.int .i64) (.pair (.int .i64) (.pair (.sl (.pair .str (.pair (.int .i64) (.pair (.int .i64) .unit)))) .unit))))) .unit))))) (.pair (.opq .ptr) (.pair (.opq .ptr) (.pair (.opq .ptr) (.pair (.opq .ptr) (.pair (.int .i64) (.pair (.arr 16 (.int .i64)) (.pair (.int .i64) (.pair (.int .i64) (.pair (.int .i64) (.pair (.pair (.sl (.int .i64)) (.pair (.int .i64) (.pair (.int .i64) .unit))) (.pair .bool (.pair (.pair (.int .i64) (.pair (.int .i64) (.pair (.int .i64) (.pair (.int .i64) (.pair (.int .i64) .unit))))) (.pair (.int .i64) (.pair (.int .i64) .unit))))))))))))))) (.agg [.agg [.vec 5, I z6, .vec 6, .vec 7, .vec 3], .d (.opq .ptr) z7, .ptr 8 0 [], .d (.opq .ptr) z8, .ptr 13 0 [], I z9, .d (.arr 16 (.int .i64)) z10, I z11, I z12, I z13, .agg [.vec 15, I z14, I z15], B z16, .d opT z17, I z18, I z19]), .row (.int .i64) z20 false, .row (.int .i64) z21 false, .row (.pair (.int .i64) (.pair (.int .i64) (.pair (.sl (.int .i64)) (.pair (.int .i64) .unit)))) z22 false, .one (.pair (.opq .ptr) (.pair (.opq .ptr) (.pair (.int .i64) .unit))) (.agg [.ptr 9 0 [], .ptr 11 0 [], I z23]), .one (.pair (.pair (.int .i64) (.pair (.int .i64) (.pair (.int .i64) (.pair (.int .i64) .unit)))) (.pair (.sl (.sl (.pair (.int .i64) (.pair .bool .unit)))) .unit)) (.agg [.d (.pair (.int .i64) (.pair (.int .i64) (.pair (.int .i64) (.pair (.int .i64) .unit)))) z24, .vec 10]), .row (.sl (.pair (.int .i64) (.pair .bool .unit))) z25 false, .one (.pair (.pair (.int .i64) (.pair (.int .i64) (.pair (.int .i64) (.pair (.int .i64) .unit)))) (.pair (.sl (.sl (.pair (.int .i64) (.pair .bool .unit)))) .unit)) (.agg [.d (.pair (.int .i64) (.pair (.int .i64) (.pair (.int .i64) (.pair (.int .i64) .unit)))) z26, .vec 12]), .row (.sl (.pair (.int .i64) (.pair .bool .unit))) z27 false, .one (.pair (.pair (.int .i64) (.pair (.int .i64) (.pair (.int .i64) (.pair (.arr 16 (.int .i64)) (.pair (.sl (.int .i64)) .unit))))) (.pair (.int .i64) .unit)) (.agg [.agg [I z28, I z29, I z30, .d (.arr 16 (.int .i64)) z31, .vec 14], I z32]), .row (.int .i64) z33 false, .row (.int .i64) z34 false]) (fun z1 z2 z3 z4 z5 z6 z7 z8 z9 z10 z11 z12 z13 z14 z15 z16 z17 z18 z19 z20 z21 z22 z23 z24 z25 z26 z27 z28 z29 z30 z31 z32 z33 z34 z35 => K .ret [(4, .ptr 4 0 []), (5, I z1)] [.row (.int .i64) z2 false, .row (.int .i64) z3 false, .row (.pair (.int .i64) (.pair (.int .i64) (.pair (.sl (.int .i64)) (.pair (.int .i64) .unit)))) z4 false, .row (.pair (.int .i64) (.pair (.int .i64) (.pair (.int .i64) (.pair (.sl (.pair .str (.pair (.int .i64) (.pair (.int .i64) .unit)))) .unit)))) z5 false, .one (.pair (.pair (.sl (.int .i64)) (.pair (.int .i64) (.pair (.sl (.int .i64)) (.pair (.sl (.pair (.int .i64) (.pair (.int .i64) (.pair (.sl (.int .i64)) (.pair (.int .i64) .unit))))) (.pair (.sl (.pair (.int .i64) (.pair (.int .i64) (.pair (.int .i64) (.pair (.sl (.pair .str (.pair (.int .i64) (.pair (.int .i64) .unit)))) .unit))))) .unit))))) (.pair (.opq .ptr) (.pair (.opq .ptr) (.pair (.opq .ptr) (.pair (.opq .ptr) (.pair (.int .i64) (.pair (.arr 16 (.int .i64)) (.pair (.int .i64) (.pair (.int .i64) (.pair (.int .i64) (.pair (.pair (.sl (.int .i64)) (.pair (.int .i64) (.pair (.int .i64) .unit))) (.pair .bool (.pair (.pair (.int .i64) (.pair (.int .i64) (.pair (.int .i64) (.pair (.int .i64) (.pair (.int .i64) .unit))))) (.pair (.int .i64) (.pair (.int .i64) .unit))))))))))))))) (.agg [.agg [.vec 5, I z6, .vec 6, .vec 7, .vec 3], .d (.opq .ptr) z7, .ptr 8 0 [], .ptr 13 0 [], .ptr 15 0 [], I z8, .d (.arr 16 (.int .i64)) z9, I z10, I z11, I z12, .agg [.vec 17, I z13, I z14], B z15, .d opT z16, I z17, I z18]), .row (.int .i64) z19 false, .row (.int .i64) z20 false, .row (.pair (.int .i64) (.pair (.int .i64) (.pair (.sl (.int .i64)) (.pair (.int .i64) .unit)))) z21 false, .one (.pair (.opq .ptr) (.pair (.opq .ptr) (.pair (.int .i64) .unit))) (.agg [.ptr 9 0 [], .ptr 11 0 [], I z22]), .one (.pair (.pair (.int .i64) (.pair (.int .i64) (.pair (.int .i64) (.pair (.int .i64) .unit)))) (.pair (.sl (.sl (.pair (.int .i64) (.pair .bool .unit)))) .unit)) (.agg [.d (.pair (.int .i64) (.pair (.int .i64) (.pair (.int .i64) (.pair (.int .i64) .unit)))) z23, .vec 10]), .row (.sl (.pair (.int .i64) (.pair .bool .unit))) z24 false, .one (.pair (.pair (.int .i64) (.pair (.int .i64) (.pair (.int .i64) (.pair (.int .i64) .unit)))) (.pair (.sl (.sl (.pair (.int .i64) (.pair .bool .unit)))) .unit)) (.agg [.d (.pair (.int .i64) (.pair (.int .i64) (.pair (.int .i64) (.pair (.int .i64) .unit)))) z25, .vec 12]), .row (.sl (.pair (.int .i64) (.pair .bool .unit))) z26 false, .one (.pair (.sl (.int .i64)) (.pair (.int .i64) .unit)) (.agg [.vec 14, I z27]), .row (.int .i64) z28 false, .one (.pair (.pair (.int .i64) (.pair (.int .i64) (.pair (.int .i64) (.pair (.arr 16 (.int .i64)) (.pair (.sl (.int .i64)) .unit))))) (.pair (.int .i64) .unit)) (.agg [.agg [I z29, I z30, I z31, .d (.arr 16 (.int .i64)) z32, .vec 16], I z33]), .row (.int .i64) z34 false, .row (.int .i64) z35 false]) (fun z1 z2 z3 z4 z5 z6 z7 z8 z9 z10 z11 z12 z13 z14 z15 z16 z17 z18 z19 z20 z21 z22 z23 z24 z25 z26 z27 z28 z29 z30 z31 z32 z33 z34 z35 z36 z37 => K .ret [(4, .ptr 4 0 []), (5, I z1)] [.row (.int .i64) z2 false, .row (.int .i64) z3 false, .row (.pair (.int .i64) (.pair (.int .i64) (.pair (.sl (.int .i64)) (.pair (.int .i64) .unit)))) z4 false, .row (.pair (.int .i64) (.pair (.int .i64) (.pair (.int .i64) (.pair (.sl (.pair .str (.pair (.int .i64) (.pair (.int .i64) .unit)))) .unit)))) z5 false, .one (.pair (.pair (.sl (.int .i64)) (.pair (.int .i64) (.pair (.sl (.int .i64)) (.pair (.sl (.pair (.int .i64) (.pair (.int .i64) (.pair (.sl (.int .i64)) (.pair (.int .i64) .unit))))) (.pair (.sl (.pair (.int .i64) (.pair (.int .i64) (.pair (.int .i64) (.pair (.sl (.pair .str (.pair (.int .i64) (.pair (.int .i64) .unit)))) .unit))))) .unit))))) (.pair (.opq .ptr) (.pair (.opq .ptr) (.pair (.opq .ptr) (.pair (.opq .ptr) (.pair (.int .i64) (.pair (.arr 16 (.int .i64)) (.pair (.int .i64) (.pair (.int .i64) (.pair (.int .i64) (.pair (.pair (.sl (.int .i64)) (.pair (.int .i64) (.pair (.int .i64) .unit))) (.pair .bool (.pair (.pair (.int .i64) (.pair (.int .i64) (.pair (.int .i64) (.pair (.int .i64) (.pair (.int .i64) .unit))))) (.pair (.int .i64) (.pair (.int .i64) .unit))))))))))))))) (.agg [.agg [.vec 5, I z6, .vec 6, .vec 7, .vec 3], .ptr 8 0 [], .d (.opq .ptr) z7, .d (.opq .ptr) z8, .ptr 11 0 [], I z9, .d (.arr 16 (.int .i64)) z10, I z11, I z12, I z13, .agg [.vec 13, I z14, I z15], B z16, .d opT z17, I z18, I z19]), .row (.int .i64) z20 false, .row (.int .i64) z21 false, .row (.pair (.int .i64) (.pair (.int .i64) (.pair (.sl (.int .i64)) (.pair (.int .i64) .unit)))) z22 false, .one (.pair (.sl (.int .i64)) (.pair (.int .i64) (.pair (.int .i64) (.pair (.int .i64) (.pair (.int .i64) (.pair (.int .i64) (.pair (.int .i64) (.pair (.sl (.int .i64)) .unit)))))))) (.agg [.vec 9, I z23, I z24, I z25, I z26, I z27, I z28, .vec 10]), .row (.int .i64) z29 false, .row (.int .i64) z30 false, .one (.pair (.pair (.int .i64) (.pair (.int .i64) (.pair (.int .i64) (.pair (.arr 16 (.int .i64)) (.pair (.sl (.int .i64)) .unit))))) (.pair (.int .i64) .unit)) (.agg [.agg [I z31, I z32, I z33, .d (.arr 16 (.int .i64)) z34, .vec 12], I z35]), .row (.int .i64) z36 false, .row (.int .i64) z37 false]) (fun z1 z2 z3 z4 z5 z6 z7 z8 z9 z10 z11 z12 z13 z14 z15 z16 z17 z18 z19 z20 z21 z22 z23 z24 z25 z26 z27 z28 z29 z30 z31 z32 z33 z34 z35 z36 z37 z38 => K .ret [(4, .ptr 4 0 []), (5, I z1)] [.row (.int .i64) z2 false, .row (.int .i64) z3 false, .row (.pair (.int .i64) (.pair (.int .i64) (.pair (.sl (.int .i64)) (.pair (.int .i64) .unit)))) z4 false, .row (.pair (.int .i64) (.pair (.int .i64) (.pair (.int .i64) (.pair (.sl (.pair .str (.pair (.int .i64) (.pair (.int .i64) .unit)))) .unit)))) z5 false, .one (.pair (.pair (.sl (.int .i64)) (.pair (.int .i64) (.pair (.sl (.int .i64)) (.pair (.sl (.pair (.int .i64) (.pair (.int .i64) (.pair (.sl (.int .i64)) (.pair (.int .i64) .unit))))) (.pair (.sl (.pair (.int .i64) (.pair (.int .i64) (.pair (.int .i64) (.pair (.sl (.pair .str (.pair (.int .i64) (.pair (.int .i64) .unit)))) .unit))))) .unit))))) (.pair (.opq .ptr) (.pair (.opq .ptr) (.pair (.opq .ptr) (.pair (.opq .ptr) (.pair (.int .i64) (.pair (.arr 16 (.int .i64)) (.pair (.int .i64) (.pair (.int .i64) (.pair (.int .i64) (.pair (.pair (.sl (.int .i64)) (.pair (.int .i64) (.pair (.int .i64) .unit))) (.pair .bool (.pair (.pair (.int .i64) (.pair (.int .i64) (.pair (.int .i64) (.pair (.int .i64) (.pair (.int .i64) .unit))))) (.pair (.int .i64) (.pair (.int .i64) .unit))))))))))))))) (.agg [.agg [.vec 5, I z6, .vec 6, .vec 7, .vec 3], .ptr 8 0 [], .d (.opq .ptr) z7, .ptr 11 0 [], .ptr 13 0 [], I z8, .d (.arr 16 (.int .i64)) z9, I z10, I z11, I z12, .agg [.vec 15, I z13, I z14], B z15, .d opT z16, I z17, I z18]), .row (.int .i64) z19 false, .row (.int .i64) z20 false, .row (.pair (.int .i64) (.pair (.int .i64) (.pair (.sl (.int .i64)) (.pair (.int .i64) .unit)))) z21 false, .one (.pair (.sl (.int .i64)) (.pair (.int .i64) (.pair (.int .i64) (.pair (.int .i64) (.pair (.int .i64) (.pair (.int .i64) (.pair (.int .i64) (.pair (.sl (.int .i64)) .unit)))))))) (.agg [.vec 9, I z22, I z23, I z24, I z25, I z26, I z27, .vec 10]), .row (.int .i64) z28 false, .row (.int .i64) z29 false, .one (.pair (.sl (.int .i64)) (.pair (.int .i64) .unit)) (.agg [.vec 12, I z30]), .row (.int .i64) z31 false, .one (.pair (.pair (.int .i64) (.pair (.int .i64) (.pair (.int .i64) (.pair (.arr 16 (.int .i64)) (.pair (.sl (.int .i64)) .unit))))) (.pair (.int .i64) .unit)) (.agg [.agg [I z32, I z33, I z34, .d (.arr 16 (.int .i64)) z35, .vec 14], I z36]), .row (.int .i64) z37 false, .row (.int .i64) z38 false]) (fun z1 z2 z3 z4 z5 z6 z7 z8 z9 z10 z11 z12 z13 z14 z15 z16 z17 z18 z19 z20 z21 z22 z23 z24 z25 z26 z27 z28 z29 z30 z31 z32 z33 z34 z35 z36 z37 z38 z39 z40 z41 => K .ret [(4, .ptr 4 0 []), (5, I z1)] [.row (.int .i64) z2 false, .row (.int .i64) z3 false, .row (.pair (.int .i64) (.pair (.int .i64) (.pair (.sl (.int .i64)) (.pair (.int .i64) .unit)))) z4 false, .row (.pair (.int .i64) (.pair (.int .i64) (.pair (.int .i64) (.pair (.sl (.pair .str (.pair (.int .i64) (.pair (.int .i64) .unit)))) .unit)))) z5 false, .one (.pair (.pair (.sl (.int .i64)) (.pair (.int .i64) (.pair (.sl (.int .i64)) (.pair (.sl (.pair (.int .i64) (.pair (.int .i64) (.pair (.sl (.int .i64)) (.pair (.int .i64) .unit))))) (.pair (.sl (.pair (.int .i64) (.pair (.int .i64) (.pair (.int .i64) (.pair (.sl (.pair .str (.pair (.int .i64) (.pair (.int .i64) .unit)))) .unit))))) .unit))))) (.pair (.opq .ptr) (.pair (.opq .ptr) (.pair (.opq .ptr) (.pair (.opq .ptr) (.pair (.int .i64) (.pair (.arr 16 (.int .i64)) (.pair (.int .i64) (.pair (.int .i64) (.pair (.int .i64) (.pair (.pair (.sl (.int .i64)) (.pair (.int .i64) (.pair (.int .i64) .unit))) (.pair .bool (.pair (.pair (.int .i64) (.pair (.int .i64) (.pair (.int .i64) (.pair (.int .i64) (.pair (.int .i64) .unit))))) (.pair (.int .i64) (.pair (.int .i64) .unit))))))))))))))) (.agg [.agg [.vec 5, I z6, .vec 6, .vec 7, .vec 3], .ptr 8 0 [], .ptr 11 0 [], .d (.opq .ptr) z7, .ptr 16 0 [], I z8, .d (.arr 16 (.int .i64)) z9, I z10, I z11, I z12, .agg [.vec 18, I z13, I z14], B z15, .d opT z16, I z17, I z18]), .row (.int .i64) z19 false, .row (.int .i64) z20 false, .row (.pair (.int .i64) (.pair (.int .i64) (.pair (.sl (.int .i64)) (.pair (.int .i64) .unit)))) z21 false, .one (.pair (.sl (.int .i64)) (.pair (.int .i64) (.pair (.int .i64) (.pair (.int .i64) (.pair (.int .i64) (.pair (.int .i64) (.pair (.int .i64) (.pair (.sl (.int .i64)) .unit)))))))) (.agg [.vec 9, I z22, I z23, I z24, I z25, I z26, I z27, .vec 10]), .row (.int .i64) z28 false, .row (.int .i64) z29 false, .one (.pair (.opq .ptr) (.pair (.opq .ptr) (.pair (.int .i64) .unit))) (.agg [.ptr 12 0 [], .ptr 14 0 [], I z30]), .one (.pair (.pair (.int .i64) (.pair (.int .i64) (.pair (.int .i64) (.pair (.int .i64) .unit)))) (.pair (.sl (.sl (.pair (.int .i64) (.pair .bool .unit)))) .unit)) (.agg [.d (.pair (.int .i64) (.pair (.int .i64) (.pair (.int .i64) (.pair (.int .i64) .unit)))) z31, .vec 13]), .row (.sl (.pair (.int .i64) (.pair .bool .unit))) z32 false, .one (.pair (.pair (.int .i64) (.pair (.int .i64) (.pair (.int .i64) (.pair (.int .i64) .unit)))) (.pair (.sl (.sl (.pair (.int .i64) (.pair .bool .unit)))) .unit)) (.agg [.d (.pair (.int .i64) (.pair (.int .i64) (.pair (.int .i64) (.pair (.int .i64) .unit)))) z33, .vec 15]), .row (.sl (.pair (.int .i64) (.pair .bool .unit))) z34 false, .one (.pair (.pair (.int .i64) (.pair (.int .i64) (.pair (.int .i64) (.pair (.arr 16 (.int .i64)) (.pair (.sl (.int .i64)) .unit))))) (.pair (.int .i64) .unit)) (.agg [.agg [I z35, I z36, I z37, .d (.arr 16 (.int .i64)) z38, .vec 17], I z39]), .row (.int .i64) z40 false, .row (.int .i64) z41 false]) (fun z1 z2 z3 z4 z5 z6 z7 z8 z9 z10 z11 z12 z13 z14 z15 z16 z17 z18 z19 z20 z21 z22 z23 z24 z25 z26 z27 z28 z29 z30 z31 z32 z33 z34 z35 z36 z37 z38 z39 z40 z41 z42 => K .ret [(4, .ptr 4 0 []), (5, I z1)] [.row (.int .i64) z2 false, .row (.int .i64) z3 false, .row (.pair (.int .i64) (.pair (.int .i64) (.pair (.sl (.int .i64)) (.pair (.int .i64) .unit)))) z4 false, .row (.pair (.int .i64) (.pair (.int .i64) (.pair (.int .i64) (.pair (.sl (.pair .str (.pair (.int .i64) (.pair (.int .i64) .unit)))) .unit)))) z5 false, .one (.pair (.pair (.sl (.int .i64)) (.pair (.int .i64) (.pair (.sl (.int .i64)) (.pair (.sl (.pair (.int .i64) (.pair (.int .i64) (.pair (.sl (.int .i64)) (.pair (.int .i64) .unit))))) (.pair (.sl (.pair (.int .i64) (.pair (.int .i64) (.pair (.int .i64) (.pair (.sl (.pair .str (.pair (.int .i64) (.pair (.int .i64) .unit)))) .unit))))) .unit))))) (.pair (.opq .ptr) (.pair (.opq .ptr) (.pair (.opq .ptr) (.pair (.opq .ptr) (.pair (.int .i64) (.pair (.arr 16 (.int .i64)) (.pair (.int .i64) (.pair (.int .i64) (.pair (.int .i64) (.pair (.pair (.sl (.int .i64)) (.pair (.int .i64) (.pair (.int .i64) .unit))) (.pair .bool (.pair (.pair (.int .i64) (.pair (.int .i64) (.pair (.int .i64) (.pair (.int .i64) (.pair (.int .i64) .unit))))) (.pair (.int .i64) (.pair (.int .i64) .unit))))))))))))))) (.agg [.agg [.vec 5, I z6, .vec 6, .vec 7, .vec 3], .ptr 8 0 [], .ptr 11 0 [], .ptr 16 0 [], .ptr 18 0 [], I z7, .d (.arr 16 (.int .i64)) z8, I z9, I z10, I z11, .agg [.vec 20, I z12, I z13], B z14, .d opT z15, I z16, I z17]), .row (.int .i64) z18 false, .row (.int .i64) z19 false, .row (.pair (.int .i64) (.pair (.int .i64) (.pair (.sl (.int .i64)) (.pair (.int .i64) .unit)))) z20 false, .one (.pair (.sl (.int .i64)) (.pair (.int .i64) (.pair (.int .i64) (.pair (.int .i64) (.pair (.int .i64) (.pair (.int .i64) (.pair (.int .i64) (.pair (.sl (.int .i64)) .unit)))))))) (.agg [.vec 9, I z21, I z22, I z23, I z24, I z25, I z26, .vec 10]), .row (.int .i64) z27 false, .row (.int .i64) z28 false, .one (.pair (.opq .ptr) (.pair (.opq .ptr) (.pair (.int .i64) .unit))) (.agg [.ptr 12 0 [], .ptr 14 0 [], I z29]), .one (.pair (.pair (.int .i64) (.pair (.int .i64) (.pair (.int .i64) (.pair (.int .i64) .unit)))) (.pair (.sl (.sl (.pair (.int .i64) (.pair .bool .unit)))) .unit)) (.agg [.d (.pair (.int .i64) (.pair (.int .i64) (.pair (.int .i64) (.pair (.int .i64) .unit)))) z30, .vec 13]), .row (.sl (.pair (.int .i64) (.pair .bool .unit))) z31 false, .one (.pair (.pair (.int .i64) (.pair (.int .i64) (.pair (.int .i64) (.pair (.int .i64) .unit)))) (.pair (.sl (.sl (.pair (.int .i64) (.pair .bool .unit)))) .unit)) (.agg [.d (.pair (.int .i64) (.pair (.int .i64) (.pair (.int .i64) (.pair (.int .i64) .unit)))) z32, .vec 15]), .row (.sl (.pair (.int .i64) (.pair .bool .unit))) z33 false, .one (.pair (.sl (.int .i64)) (.pair (.int .i64) .unit)) (.agg [.vec 17, I z34]), .row (.int .i64) z35 false, .one (.pair (.pair (.int .i64) (.pair (.int .i64) (.pair (.int .i64) (.pair (.arr 16 (.int .i64)) (.pair (.sl (.int .i64)) .unit))))) (.pair (.int .i64) .unit)) (.agg [.agg [I z36, I z37, I z38, .d (.arr 16 (.int .i64)) z39, .vec 19], I z40]), .row (.int .i64) z41 false, .row (.int .i64) z42 false]) s1 s2 s3 s4 s5 s6 s7 s8 s9 s10 s11 s12 s13 s14 s15 s16 s17 s18 s19 s20 s21 s22 s23 s24 s25 s26 s27 s28
theorem j45r8v : JoinV E (inlF (PA (ACall E)) E 8) (E.info 45).keep 4 Try.f45.ntmps 46400008 4000008 (jbody Try.f45 4000008) ([2, 3, 8], lsj45r8) := by
  intro vs σ K (h0 : lsj45r8 vs σ K)
  unfold lsj45r8 at h0
  obtain ⟨a1, r1, rfl, h1⟩ := asCons_inv h0; clear h0
  obtain ⟨rfl, h2⟩ := asP_inv h1; clear h1
  obtain ⟨a2, r2, rfl, h3⟩ := asCons_inv h2; clear h2
  obtain ⟨rfl, h4⟩ := asP_inv h3; clear h3
  obtain ⟨a3, r3, rfl, h5⟩ := asCons_inv h4; clear h4
  obtain ⟨rfl, h6⟩ := asP_inv h5; clear h5
  obtain ⟨rfl, h7⟩ := asNil_inv h6; clear h6
  obtain ⟨a4, r4, rfl, h8⟩ := asCons_inv h7; clear h7
  obtain ⟨s1, rfl, h9⟩ := asRw_inv h8; clear h8
  obtain ⟨a5, r5, rfl, h10⟩ := asCons_inv h9; clear h9
  obtain ⟨s2, rfl, h11⟩ := asRw_inv h10; clear h10
  obtain ⟨a6, r6, rfl, h12⟩ := asCons_inv h11; clear h11
  obtain ⟨s3, rfl, h13⟩ := asRw_inv h12; clear h12
  obtain ⟨a7, r7, rfl, h14⟩ := asCons_inv h13; clear h13
  obtain ⟨s4, rfl, h15⟩ := asRw_inv h14; clear h14
  obtain ⟨a8, r8, rfl, h16⟩ := asCons_inv h15; clear h15
  obtain ⟨a9, rfl, h17⟩ := asOne_inv h16; clear h16
  obtain ⟨l10, rfl, h18⟩ := asAgL_inv h17; clear h17
  obtain ⟨a11, r11, rfl, h19⟩ := asCons_inv h18; clear h18
  obtain ⟨rfl, h20⟩ := asP_inv h19; clear h19
  obtain ⟨a12, r12, rfl, h21⟩ := asCons_inv h20; clear h20
  obtain ⟨s5, rfl, h22⟩ := asD_inv h21; clear h21
  obtain ⟨a13, r13, rfl, h23⟩ := asCons_inv h22; clear h22
  obtain ⟨rfl, h24⟩ := asP_inv h23; clear h23
  obtain ⟨a14, r14, rfl, h25⟩ := asCons_inv h24; clear h24
  obtain ⟨rfl, h26⟩ := asP_inv h25; clear h25
  obtain ⟨a15, r15, rfl, h27⟩ := asCons_inv h26; clear h26
  obtain ⟨rfl, h28⟩ := asP_inv h27; clear h27
  obtain ⟨rfl, h29⟩ := asNil_inv h28; clear h28
  obtain ⟨a16, r16, rfl, h30⟩ := asCons_inv h29; clear h29
  obtain ⟨a17, rfl, h31⟩ := asOne_inv h30; clear h30
  obtain ⟨s6, rfl, h32⟩ := asD_inv h31; clear h31
  obtain ⟨a18, r18, rfl, h33⟩ := asCons_inv h32; clear h32
  obtain ⟨a19, rfl, h34⟩ := asOne_inv h33; clear h33
  obtain ⟨l20, rfl, h35⟩ := asAgL_inv h34; clear h34
  obtain ⟨a21, r21, rfl, h36⟩ := asCons_inv h35; clear h35
  obtain ⟨l22, rfl, h37⟩ := asAgL_inv h36; clear h36
  obtain ⟨a23, r23, rfl, h38⟩ := asCons_inv h37; clear h37
  obtain ⟨rfl, h39⟩ := asP_inv h38; clear h38
  obtain ⟨a24, r24, rfl, h40⟩ := asCons_inv h39; clear h39
  obtain ⟨s7, rfl, h41⟩ := asD_inv h40; clear h40
  obtain ⟨a25, r25, rfl, h42⟩ := asCons_inv h41; clear h41
  obtain ⟨rfl, h43⟩ := asP_inv h42; clear h42
  obtain ⟨a26, r26, rfl, h44⟩ := asCons_inv h43; clear h43
  obtain ⟨rfl, h45⟩ := asP_inv h44; clear h44
  obtain ⟨a27, r27, rfl, h46⟩ := asCons_inv h45; clear h45
  obtain ⟨rfl, h47⟩ := asP_inv h46; clear h46
  obtain ⟨rfl, h48⟩ := asNil_inv h47; clear h47
  obtain ⟨a28, r28, rfl, h49⟩ := asCons_inv h48; clear h48
  obtain ⟨s8, rfl, h50⟩ := asD_inv h49; clear h49
  obtain ⟨a29, r29, rfl, h51⟩ := asCons_inv h50; clear h50
  obtain ⟨s9, rfl, h52⟩ := asD_inv h51; clear h51
  obtain ⟨a30, r30, rfl, h53⟩ := asCons_inv h52; clear h52
  obtain ⟨s10, rfl, h54⟩ := asD_inv h53; clear h53
  obtain ⟨a31, r31, rfl, h55⟩ := asCons_inv h54; clear h54
  obtain ⟨rfl, h56⟩ := asP_inv h55; clear h55
  obtain ⟨a32, r32, rfl, h57⟩ := asCons_inv h56; clear h56
  obtain ⟨s11, rfl, h58⟩ := asD_inv h57; clear h57
  obtain ⟨a33, r33, rfl, h59⟩ := asCons_inv h58; clear h58
  obtain ⟨s12, rfl, h60⟩ := asD_inv h59; clear h59
  obtain ⟨a34, r34, rfl, h61⟩ := asCons_inv h60; clear h60
  obtain ⟨s13, rfl, h62⟩ := asD_inv h61; clear h61
  obtain ⟨a35, r35, rfl, h63⟩ := asCons_inv h62; clear h62
  obtain ⟨s14, rfl, h64⟩ := asD_inv h63; clear h63
  obtain ⟨a36, r36, rfl, h65⟩ := asCons_inv h64; clear h64
  obtain ⟨s15, rfl, h66⟩ := asD_inv h65; clear h65
  obtain ⟨a37, r37, rfl, h67⟩ := asCons_inv h66; clear h66
  obtain ⟨l38, rfl, h68⟩ := asAgL_inv h67; clear h67
  obtain ⟨a39, r39, rfl, h69⟩ := asCons_inv h68; clear h68
  obtain ⟨rfl, h70⟩ := asP_inv h69; clear h69
  obtain ⟨a40, r40, rfl, h71⟩ := asCons_inv h70; clear h70
  obtain ⟨s16, rfl, h72⟩ := asD_inv h71; clear h71
  obtain ⟨a41, r41, rfl, h73⟩ := asCons_inv h72; clear h72
  obtain ⟨s17, rfl, h74⟩ := asD_inv h73; clear h73
  obtain ⟨rfl, h75⟩ := asNil_inv h74; clear h74
  obtain ⟨a42, r42, rfl, h76⟩ := asCons_inv h75; clear h75
  obtain ⟨s18, rfl, h77⟩ := asD_inv h76; clear h76
  obtain ⟨a43, r43, rfl, h78⟩ := asCons_inv h77; clear h77
  obtain ⟨s19, rfl, h79⟩ := asD_inv h78; clear h78
  obtain ⟨a44, r44, rfl, h80⟩ := asCons_inv h79; clear h79
  obtain ⟨s20, rfl, h81⟩ := asD_inv h80; clear h80
  obtain ⟨a45, r45, rfl, h82⟩ := asCons_inv h81; clear h81
  obtain ⟨s21, rfl, h83⟩ := asD_inv h82; clear h82
  obtain ⟨rfl, h84⟩ := asNil_inv h83; clear h83
  obtain ⟨a46, r46, rfl, h85⟩ := asCons_inv h84; clear h84
  obtain ⟨a47, rfl, h86⟩ := asOne_inv h85; clear h85
  obtain ⟨l48, rfl, h87⟩ := asAgL_inv h86; clear h86
  obtain ⟨a49, r49, rfl, h88⟩ := asCons_inv h87; clear h87
  obtain ⟨l50, rfl, h89⟩ := asAgL_inv h88; clear h88
  obtain ⟨a51, r51, rfl, h90⟩ := asCons_inv h89; clear h89
  obtain ⟨s22, rfl, h91⟩ := asD_inv h90; clear h90
  obtain ⟨a52, r52, rfl, h92⟩ := asCons_inv h91; clear h91
  obtain ⟨s23, rfl, h93⟩ := asD_inv h92; clear h92
  obtain ⟨a53, r53, rfl, h94⟩ := asCons_inv h93; clear h93
  obtain ⟨s24, rfl, h95⟩ := asD_inv h94; clear h94
  obtain ⟨a54, r54, rfl, h96⟩ := asCons_inv h95; clear h95
  obtain ⟨s25, rfl, h97⟩ := asD_inv h96; clear h96
  obtain ⟨a55, r55, rfl, h98⟩ := asCons_inv h97; clear h97
  obtain ⟨rfl, h99⟩ := asP_inv h98; clear h98
  obtain ⟨rfl, h100⟩ := asNil_inv h99; clear h99
  obtain ⟨a56, r56, rfl, h101⟩ := asCons_inv h100; clear h100
  obtain ⟨s26, rfl, h102⟩ := asD_inv h101; clear h101
  obtain ⟨rfl, h103⟩ := asNil_inv h102; clear h102
  obtain ⟨a57, r57, rfl, h104⟩ := asCons_inv h103; clear h103
  obtain ⟨s27, rfl, h105⟩ := asRw_inv h104; clear h104
  obtain ⟨a58, r58, rfl, h106⟩ := asCons_inv h105; clear h105
  obtain ⟨s28, rfl, h107⟩ := asRw_inv h106; clear h106
  obtain ⟨rfl, h108⟩ := asNil_inv h107; clear h107
  exact join_round2 (S := ofL Sj45r8) (L := lofL Lj45r8) hSj45r8 (inlOK _) (all_eq (by kernel_rfl : subsOf (E.info 45).keep (jbody Try.f45 4000008) = [.join 4000010 (jbody Try.f45 4000010)]) (all_cons (joinOK_of (mk := 46400010) (sl := [3, 8]) (ss := [([3, 8], lsj45r10), ([3, 8], lsj45r10v2)]) (by kernel_rfl) (by kernel_rfl) (all_cons j45r10v (all_cons j45r10v2v (all_nil)))) (all_nil))) (by kernel_rfl) h108.of

abbrev S45 : List (Nat × Pat × Sp) := [(112, none, sp112), (42, none, sp42), (113, none, sp113)]
theorem hS45 : SpecOK E (ofL S45) := specOK_cons h112 (specOK_cons h42 (specOK_cons h113 (specOK_nil)))
abbrev L45 : List (Nat × List Nat × Pat × LSp) := [(46400008, [2, 3, 8], none, lsj45r8)]
def sp45 : Sp := fun args τ K => asCons args fun a1 r1 => asAgL a1 fun l2 => asCons l2 fun a3 r3 => asP (.vec 0) a3 <| asCons r3 fun a4 r4 => asD (.int .i64) a4 fun x1 => asCons r4 fun a5 r5 => asP (.vec 1) a5 <| asCons r5 fun a6 r6 => asP (.vec 2) a6 <| asCons r6 fun a7 r7 => asP (.vec 3) a7 <| asNil r7 <| asCons r1 fun a8 r8 => asD (.pair (.int .i64) (.pair (.int .i64) (.pair (.int .i64) (.pair (.int .i64) (.pair (.pair (.int .i64) (.pair (.int .i64) (.pair (.int .i64) (.pair (.int .i64) .unit)))) (.pair (.pair (.int .i64) (.pair (.int .i64) (.pair (.int .i64) (.pair (.int .i64) .unit)))) (.pair (.int .i64) .unit))))))) a8 fun x2 => asNil r8 <| asCons τ fun a9 r9 => asRw (.int .i64) false a9 fun x3 => asCons r9 fun a10 r10 => asRw (.int .i64) false a10 fun x4 => asCons r10 fun a11 r11 => asRw (.pair (.int .i64) (.pair (.int .i64) (.pair (.sl (.int .i64)) (.pair (.int .i64) .unit)))) false a11 fun x5 => asCons r11 fun a12 r12 => asRw (.pair (.int .i64) (.pair (.int .i64) (.pair (.int .i64) (.pair (.sl (.pair .str (.pair (.int .i64) (.pair (.int .i64) .unit)))) .unit)))) false a12 fun x6 => asNil r12 <| c45 x1 x2 x3 x4 x5 x6 (fun z1 z2 z3 z4 z5 z6 => K (.tup [.d (.opq .ptr) z1, I z2]) [.row (.int .i64) z3 false, .row (.int .i64) z4 false, .row (.pair (.int .i64) (.pair (.int .i64) (.pair (.sl (.int .i64)) (.pair (.int .i64) .unit)))) z5 false, .row (.pair (.int .i64) (.pair (.int .i64) (.pair (.int .i64) (.pair (.sl (.pair .str (.pair (.int .i64) (.pair (.int .i64) .unit)))) .unit)))) z6 false]) (fun z1 z2 z3 z4 z5 z6 z7 z8 z9 z10 z11 z12 z13 z14 z15 z16 z17 z18 z19 z20 z21 z22 z23 z24 z25 z26 z27 z28 z29 z30 => K (.tup [.ptr 4 0 [], I z1]) [.row (.int .i64) z2 false, .row (.int .i64) z3 false, .row (.pair (.int .i64) (.pair (.int .i64) (.pair (.sl (.int .i64)) (.pair (.int .i64) .unit)))) z4 false, .row (.pair (.int .i64) (.pair (.int .i64) (.pair (.int .i64) (.pair (.sl (.pair .str (.pair (.int .i64) (.pair (.int .i64) .unit)))) .unit)))) z5 false, .one (.pair (.pair (.sl (.int .i64)) (.pair (.int .i64) (.pair (.sl (.int .i64)) (.pair (.sl (.pair (.int .i64) (.pair (.int .i64) (.pair (.sl (.int .i64)) (.pair (.int .i64) .unit))))) (.pair (.sl (.pair (.int .i64) (.pair (.int .i64) (.pair (.int .i64) (.pair (.sl (.pair .str (.pair (.int .i64) (.pair (.int .i64) .unit)))) .unit))))) .unit))))) (.pair (.opq .ptr) (.pair (.opq .ptr) (.pair (.opq .ptr) (.pair (.opq .ptr) (.pair (.int .i64) (.pair (.arr 16 (.int .i64)) (.pair (.int .i64) (.pair (.int .i64) (.pair (.int .i64) (.pair (.pair (.sl (.int .i64)) (.pair (.int .i64) (.pair (.int .i64) .unit))) (.pair .bool (.pair (.pair (.int .i64) (.pair (.int .i64) (.pair (.int .i64) (.pair (.int .i64) (.pair (.int .i64) .unit))))) (.pair (.int .i64) (.pair (.int .i64) .unit))))))))))))))) (.agg [.agg [.vec 5, I z6, .vec 6, .vec 7, .vec 3], .d (.opq .ptr) z7, .d (.opq .ptr) z8, .d (.opq .ptr) z9, .ptr 8 0 [], I z10, .d (.arr 16 (.int .i64)) z11, I z12, I z13, I z14, .agg [.vec 10, I z15, I z16], B z17, .d opT z18, I z19, I z20]), .row (.int .i64) z21 false, .row (.int .i64) z22 false, .row (.pair (.int .i64) (.pair (.int .i64) (.pair (.sl (.int .i64)) (.pair (.int .i64) .unit)))) z23 false, .one (.pair (.pair (.int .i64) (.pair (.int .i64) (.pair (.int .i64) (.pair (.arr 16 (.int .i64)) (.pair (.sl (.int .i64)) .unit))))) (.pair (.int .i64) .unit)) (.agg [.agg [I z24, I z25, I z26, .d (.arr 16 (.int .i64)) z27, .vec 9], I z28]), .row (.int .i64) z29 false, .row (.int .i64) z30 false]) (fun z1 z2 z3 z4 z5 z6 z7 z8 z9 z10 z11 z12 z13 z14 z15 z16 z17 z18 z19 z20 z21 z22 z23 z24 z25 z26 z27 z28 z29 z30 z31 => K (.tup [.ptr 4 0 [], I z1]) [.row (.int .i64) z2 false, .row (.int .i64) z3 false, .row (.pair (.int .i64) (.pair (.int .i64) (.pair (.sl (.int .i64)) (.pair (.int .i64) .unit)))) z4 false, .row (.pair (.int .i64) (.pair (.int .i64) (.pair (.int .i64) (.pair (.sl (.pair .str (.pair (.int .i64) (.pair (.int .i64) .unit)))) .unit)))) z5 false, .one (.pair (.pair (.sl (.int .i64)) (.pair (.int .i64) (.pair (.sl (.int .i64)) (.pair (.sl (.pair (.int .i64) (.pair (.int .i64) (.pair (.sl (.int .i64)) (.pair (.int .i64) .unit))))) (.pair (.sl (.pair (.int .i64) (.pair (.int .i64) (.pair (.int .i64) (.pair (.sl (.pair .str (.pair (.int .i64) (.pair (.int .i64) .unit)))) .unit))))) .unit))))) (.pair (.opq .ptr) (.pair (.opq .ptr) (.pair (.opq .ptr) (.pair (.opq .ptr) (.pair (.int .i64) (.pair (.arr 16 (.int .i64)) (.pair (.int .i64) (.pair (.int .i64) (.pair (.int .i64) (.pair (.pair (.sl (.int .i64)) (.pair (.int .i64) (.pair (.int .i64) .unit))) (.pair .bool (.pair (.pair (.int .i64) (.pair (.int .i64) (.pair (.int .i64) (.pair (.int .i64) (.pair (.int .i64) .unit))))) (.pair (.int .i64) (.pair (.int .i64) .unit))))))))))))))) (.agg [.agg [.vec 5, I z6, .vec 6, .vec 7, .vec 3], .d (.opq .ptr) z7, .d (.opq .ptr) z8, .ptr 8 0 [], .ptr 10 0 [], I z9, .d (.arr 16 (.int .i64)) z10, I z11, I z12, I z13, .agg [.vec 12, I z14, I z15], B z16, .d opT z17, I z18, I z19]), .row (.int .i64) z20 false, .row (.int .i64) z21 false, .row (.pair (.int .i64) (.pair (.int .i64) (.pair (.sl (.int .i64)) (.pair (.int .i64) .unit)))) z22 false, .one (.pair (.sl (.int .i64)) (.pair (.int .i64) .unit)) (.agg [.vec 9, I z23]), .row (.int .i64) z24 false, .one (.pair (.pair (.int .i64) (.pair (.int .i64) (.pair (.int .i64) (.pair (.arr 16 (.int .i64)) (.pair (.sl (.int .i64)) .unit))))) (.pair (.int .i64) .unit)) (.agg [.agg [I z25, I z26, I z27, .d (.arr 16 (.int .i64)) z28, .vec 11], I z29]), .row (.int .i64) z30 false, .row (.int .i64) z31 false]) (fun z1 z2 z3 z4 z5 z6 z7 z8 z9 z10 z11 z12 z13 z14 z15 z16 z17 z18 z19 z20 z21 z22 z23 z24 z25 z26 z27 z28 z29 z30 z31 z32 z33 z34 => K (.tup [.ptr 4 0 [], I z1]) [.row (.int .i64) z2 false, .row (.int .i64) z3 false, .row (.pair (.int .i64) (.pair (.int .i64) (.pair (.sl (.int .i64)) (.pair (.int .i64) .unit)))) z4 false, .row (.pair (.int .i64) (.pair (.int .i64) (.pair (.int .i64) (.pair (.sl (.pair .str (.pair (.int .i64) (.pair (.int .i64) .unit)))) .unit)))) z5 false, .one (.pair (.pair (.sl (.int .i64)) (.pair (.int .i64) (.pair (.sl (.int .i64)) (.pair (.sl (.pair (.int .i64) (.pair (.int .i64) (.pair (.sl (.int .i64)) (.pair (.int .i64) .unit))))) (.pair (.sl (.pair (.int .i64) (.pair (.int .i64) (.pair (.int .i64) (.pair (.sl (.pair .str (.pair (.int .i64) (.pair (.int .i64) .unit)))) .unit))))) .unit))))) (.pair (.opq .ptr) (.pair (.opq .ptr) (.pair (.opq .ptr) (.pair (.opq .ptr) (.pair (.int .i64) (.pair (.arr 16 (.int .i64)) (.pair (.int .i64) (.pair (.int .i64) (.pair (.int .i64) (.pair (.pair (.sl (.int .i64)) (.pair (.int .i64) (.pair (.int .i64) .unit))) (.pair .bool (.pair (.pair (.int .i64) (.pair (.int .i64) (.pair (.int .i64) (.pair (.int .i64) (.pair (.int .i64) .unit))))) (.pair (.int .i64) (.pair (.int .i64) .unit))))))))))))))) (.agg [.agg [.vec 5, I z6, .vec 6, .vec 7, .vec 3], .d (.opq .ptr) z7, .ptr 8 0 [], .d (.opq .ptr) z8, .ptr 13 0 [], I z9, .d (.arr 16 (.int .i64)) z10, I z11, I z12, I z13, .agg [.vec 15, I z14, I z15], B z16, .d opT z17, I z18, I z19]), .row (.int .i64) z20 false, .row (.int .i64) z21 false, .row (.pair (.int .i64) (.pair (.int .i64) (.pair (.sl (.int .i64)) (.pair (.int .i64) .unit)))) z22 false, .one (.pair (.opq .ptr) (.pair (.opq .ptr) (.pair (.int .i64) .unit))) (.agg [.ptr 9 0 [], .ptr 11 0 [], I z23]), .one (.pair (.pair (.int .i64) (.pair (.int .i64) (.pair (.int .i64) (.pair (.int .i64) .unit)))) (.pair (.sl (.sl (.pair (.int .i64) (.pair .bool .unit)))) .unit)) (.agg [.d (.pair (.int .i64) (.pair (.int .i64) (.pair (.int .i64) (.pair (.int .i64) .unit)))) z24, .vec 10]), .row (.sl (.pair (.int .i64) (.pair .bool .unit))) z25 false, .one (.pair (.pair (.int .i64) (.pair (.int .i64) (.pair (.int .i64) (.pair (.int .i64) .unit)))) (.pair (.sl (.sl (.pair (.int .i64) (.pair .bool .unit)))) .unit)) (.agg [.d (.pair (.int .i64) (.pair (.int .i64) (.pair (.int .i64) (.pair (.int .i64) .unit)))) z26, .vec 12]), .row (.sl (.pair (.int .i64) (.pair .bool .unit))) z27 false, .one (.pair (.pair (.int .i64) (.pair (.int .i64) (.pair (.int .i64) (.pair (.arr 16 (.int .i64)) (.pair (.sl (.int .i64)) .unit))))) (.pair (.int .i64) .unit)) (.agg [.agg [I z28, I z29, I z30, .d (.arr 16 (.int .i64)) z31, .vec 14], I z32]), .row (.int .i64) z33 false, .row (.int .i64) z34 false]) (fun z1 z2 z3 z4 z5 z6 z7 z8 z9 z10 z11 z12 z13 z14 z15 z16 z17 z18 z19 z20 z21 z22 z23 z24 z25 z26 z27 z28 z29 z30 z31 z32 z33 z34 z35 => K (.tup [.ptr 4 0 [], I z1]) [.row (.int .i64) z2 false, .row (.int .i64) z3 false, .row (.pair (.int .i64) (.pair (.int .i64) (.pair (.sl (.int .i64)) (.pair (.int .i64) .unit)))) z4 false, .row (.pair (.int .i64) (.pair (.int .i64) (.pair (.int .i64) (.pair (.sl (.pair .str (.pair (.int .i64) (.pair (.int .i64) .unit)))) .unit)))) z5 false, .one (.pair (.pair (.sl (.int .i64)) (.pair (.int .i64) (.pair (.sl (.int .i64)) (.pair (.sl (.pair (.int .i64) (.pair (.int .i64) (.pair (.sl (.int .i64)) (.pair (.int .i64) .unit))))) (.pair (.sl (.pair (.int .i64) (.pair (.int .i64) (.pair (.int .i64) (.pair (.sl (.pair .str (.pair (.int .i64) (.pair (.int .i64) .unit)))) .unit))))) .unit))))) (.pair (.opq .ptr) (.pair (.opq .ptr) (.pair (.opq .ptr) (.pair (.opq .ptr) (.pair (.int .i64) (.pair (.arr 16 (.int .i64)) (.pair (.int .i64) (.pair (.int .i64) (.pair (.int .i64) (.pair (.pair (.sl (.int .i64)) (.pair (.int .i64) (.pair (.int .i64) .unit))) (.pair .bool (.pair (.pair (.int .i64) (.pair (.int .i64) (.pair (.int .i64) (.pair (.int .i64) (.pair (.int .i64) .unit))))) (.pair (.int .i64) (.pair (.int .i64) .unit))))))))))))))) (.agg [.agg [.vec 5, I z6, .vec 6, .vec 7, .vec 3], .d (.opq .ptr) z7, .ptr 8 0 [], .ptr 13 0 [], .ptr 15 0 [], I z8, .d (.arr 16 (.int .i64)) z9, I z10, I z11, I z12, .agg [.vec 17, I z13, I z14], B z15, .d opT z16, I z17, I z18]), .row (.int .i64) z19 false, .row (.int .i64) z20 false, .row (.pair (.int .i64) (.pair (.int .i64) (.pair (.sl (.int .i64)) (.pair (.int .i64) .unit)))) z21 false, .one (.pair (.opq .ptr) (.pair (.opq .ptr) (.pair (.int .i64) .unit))) (.agg [.ptr 9 0 [], .ptr 11 0 [], I z22]), .one (.pair (.pair (.int .i64) (.pair (.int .i64) (.pair (.int .i64) (.pair (.int .i64) .unit)))) (.pair (.sl (.sl (.pair (.int .i64) (.pair .bool .unit)))) .unit)) (.agg [.d (.pair (.int .i64) (.pair (.int .i64) (.pair (.int .i64) (.pair (.int .i64) .unit)))) z23, .vec 10]), .row (.sl (.pair (.int .i64) (.pair .bool .unit))) z24 false, .one (.pair (.pair (.int .i64) (.pair (.int .i64) (.pair (.int .i64) (.pair (.int .i64) .unit)))) (.pair (.sl (.sl (.pair (.int .i64) (.pair .bool .unit)))) .unit)) (.agg [.d (.pair (.int .i64) (.pair (.int .i64) (.pair (.int .i64) (.pair (.int .i64) .unit)))) z25, .vec 12]), .row (.sl (.pair (.int .i64) (.pair .bool .unit))) z26 false, .one (.pair (.sl (.int .i64)) (.pair (.int .i64) .unit)) (.agg [.vec 14, I z27]), .row (.int .i64) z28 false, .one (.pair (.pair (.int .i64) (.pair (.int .i64) (.pair (.int .i64) (.pair (.arr 16 (.int .i64)) (.pair (.sl (.int .i64)) .unit))))) (.pair (.int .i64) .unit)) (.agg [.agg [I z29, I z30, I z31, .d (.arr 16 (.int .i64)) z32, .vec 16], I z33]), .row (.int .i64) z34 false, .row (.int .i64) z35 false]) (fun z1 z2 z3 z4 z5 z6 z7 z8 z9 z10 z11 z12 z13 z14 z15 z16 z17 z18 z19 z20 z21 z22 z23 z24 z25 z26 z27 z28 z29 z30 z31 z32 z33 z34 z35 z36 z37 => K (.tup [.ptr 4 0 [], I z1]) [.row (.int .i64) z2 false, .row (.int .i64) z3 false, .row (.pair (.int .i64) (.pair (.int .i64) (.pair (.sl (.int .i64)) (.pair (.int .i64) .unit)))) z4 false, .row (.pair (.int .i64) (.pair (.int .i64) (.pair (.int .i64) (.pair (.sl (.pair .str (.pair (.int .i64) (.pair (.int .i64) .unit)))) .unit)))) z5 false, .one (.pair (.pair (.sl (.int .i64)) (.pair (.int .i64) (.pair (.sl (.int .i64)) (.pair (.sl (.pair (.int .i64) (.pair (.int .i64) (.pair (.sl (.int .i64)) (.pair (.int .i64) .unit))))) (.pair (.sl (.pair (.int .i64) (.pair (.int .i64) (.pair (.int .i64) (.pair (.sl (.pair .str (.pair (.int .i64) (.pair (.int .i64) .unit)))) .unit))))) .unit))))) (.pair (.opq .ptr) (.pair (.opq .ptr) (.pair (.opq .ptr) (.pair (.opq .ptr) (.pair (.int .i64) (.pair (.arr 16 (.int .i64)) (.pair (.int .i64) (.pair (.int .i64) (.pair (.int .i64) (.pair (.pair (.sl (.int .i64)) (.pair (.int .i64) (.pair (.int .i64) .unit))) (.pair .bool (.pair (.pair (.int .i64) (.pair (.int .i64) (.pair (.int .i64) (.pair (.int .i64) (.pair (.int .i64) .unit))))) (.pair (.int .i64) (.pair (.int .i64) .unit))))))))))))))) (.agg [.agg [.vec 5, I z6, .vec 6, .vec 7, .vec 3], .ptr 8 0 [], .d (.opq .ptr) z7, .d (.opq .ptr) z8, .ptr 11 0 [], I z9, .d (.arr 16 (.int .i64)) z10, I z11, I z12, I z13, .agg [.vec 13, I z14, I z15], B z16, .d opT z17, I z18, I z19]), .row (.int .i64) z20 false, .row (.int .i64) z21 false, .row (.pair (.int .i64) (.pair (.int .i64) (.pair (.sl (.int .i64)) (.pair (.int .i64) .unit)))) z22 false, .one (.pair (.sl (.int .i64)) (.pair (.int .i64) (.pair (.int .i64) (.pair (.int .i64) (.pair (.int .i64) (.pair (.int .i64) (.pair (.int .i64) (.pair (.sl (.int .i64)) .unit)))))))) (.agg [.vec 9, I z23, I z24, I z25, I z26, I z27, I z28, .vec 10]), .row (.int .i64) z29 false, .row (.int .i64) z30 false, .one (.pair (.pair (.int .i64) (.pair (.int .i64) (.pair (.int .i64) (.pair (.arr 16 (.int .i64)) (.pair (.sl (.int .i64)) .unit))))) (.pair (.int .i64) .unit)) (.agg [.agg [I z31, I z32, I z33, .d (.arr 16 (.int .i64)) z34, .vec 12], I z35]), .row (.int .i64) z36 false, .row (.int .i64) z37 false]) (fun z1 z2 z3 z4 z5 z6 z7 z8 z9 z10 z11 z12 z13 z14 z15 z16 z17 z18 z19 z20 z21 z22 z23 z24 z25 z26 z27 z28 z29 z30 z31 z32 z33 z34 z35 z36 z37 z38 => K (.tup [.ptr 4 0 [], I z1]) [.row (.int .i64) z2 false, .row (.int .i64) z3 false, .row (.pair (.int .i64) (.pair (.int .i64) (.pair (.sl (.int .i64)) (.pair (.int .i64) .unit)))) z4 false, .row (.pair (.int .i64) (.pair (.int .i64) (.pair (.int .i64) (.pair (.sl (.pair .str (.pair (.int .i64) (.pair (.int .i64) .unit)))) .unit)))) z5 false, .one (.pair (.pair (.sl (.int .i64)) (.pair (.int .i64) (.pair (.sl (.int .i64)) (.pair (.sl (.pair (.int .i64) (.pair (.int .i64) (.pair (.sl (.int .i64)) (.pair (.int .i64) .unit))))) (.pair (.sl (.pair (.int .i64) (.pair (.int .i64) (.pair (.int .i64) (.pair (.sl (.pair .str (.pair (.int .i64) (.pair (.int .i64) .unit)))) .unit))))) .unit))))) (.pair (.opq .ptr) (.pair (.opq .ptr) (.pair (.opq .ptr) (.pair (.opq .ptr) (.pair (.int .i64) (.pair (.arr 16 (.int .i64)) (.pair (.int .i64) (.pair (.int .i64) (.pair (.int .i64) (.pair (.pair (.sl (.int .i64)) (.pair (.int .i64) (.pair (.int .i64) .unit))) (.pair .bool (.pair (.pair (.int .i64) (.pair (.int .i64) (.pair (.int .i64) (.pair (.int .i64) (.pair (.int .i64) .unit))))) (.pair (.int .i64) (.pair (.int .i64) .unit))))))))))))))) (.agg [.agg [.vec 5, I z6, .vec 6, .vec 7, .vec 3], .ptr 8 0 [], .d (.opq .ptr) z7, .ptr 11 0 [], .ptr 13 0 [], I z8, .d (.arr 16 (.int .i64)) z9, I z10, I z11, I z12, .agg [.vec 15, I z13, I z14], B z15, .d opT z16, I z17, I z18]), .row (.int .i64) z19 false, .row (.int .i64) z20 false, .row (.pair (.int .i64) (.pair (.int .i64) (.pair (.sl (.int .i64)) (.pair (.int .i64) .unit)))) z21 false, .one (.pair (.sl (.int .i64)) (.pair (.int .i64) (.pair (.int .i64) (.pair (.int .i64) (.pair (.int .i64) (.pair (.int .i64) (.pair (.int .i64) (.pair (.sl (.int .i64)) .unit)))))))) (.agg [.vec 9, I z22, I z23, I z24, I z25, I z26, I z27, .vec 10]), .row (.int .i64) z28 false, .row (.int .i64) z29 false, .one (.pair (.sl (.int .i64)) (.pair (.int .i64) .unit)) (.agg [.vec 12, I z30]), .row (.int .i64) z31 false, .one (.pair (.pair (.int .i64) (.pair (.int .i64) (.pair (.int .i64) (.pair (.arr 16 (.int .i64)) (.pair (.sl (.int .i64)) .unit))))) (.pair (.int .i64) .unit)) (.agg [.agg [I z32, I z33, I z34, .d (.arr 16 (.int .i64)) z35, .vec 14], I z36]), .row (.int .i64) z37 false, .row (.int .i64) z38 false]) (fun z1 z2 z3 z4 z5 z6 z7 z8 z9 z10 z11 z12 z13 z14 z15 z16 z17 z18 z19 z20 z21 z22 z23 z24 z25 z26 z27 z28 z29 z30 z31 z32 z33 z34 z35 z36 z37 z38 z39 z40 z41 => K (.tup [.ptr 4 0 [], I z1]) [.row (.int .i64) z2 false, .row (.int .i64) z3 false, .row (.pair (.int .i64) (.pair (.int .i64) (.pair (.sl (.int .i64)) (.pair (.int .i64) .unit)))) z4 false, .row (.pair (.int .i64) (.pair (.int .i64) (.pair (.int .i64) (.pair (.sl (.pair .str (.pair (.int .i64) (.pair (.int .i64) .unit)))) .unit)))) z5 false, .one (.pair (.pair (.sl (.int .i64)) (.pair (.int .i64) (.pair (.sl (.int .i64)) (.pair (.sl (.pair (.int .i64) (.pair (.int .i64) (.pair (.sl (.int .i64)) (.pair (.int .i64) .unit))))) (.pair (.sl (.pair (.int .i64) (.pair (.int .i64) (.pair (.int .i64) (.pair (.sl (.pair .str (.pair (.int .i64) (.pair (.int .i64) .unit)))) .unit))))) .unit))))) (.pair (.opq .ptr) (.pair (.opq .ptr) (.pair (.opq .ptr) (.pair (.opq .ptr) (.pair (.int .i64) (.pair (.arr 16 (.int .i64)) (.pair (.int .i64) (.pair (.int .i64) (.pair (.int .i64) (.pair (.pair (.sl (.int .i64)) (.pair (.int .i64) (.pair (.int .i64) .unit))) (.pair .bool (.pair (.pair (.int .i64) (.pair (.int .i64) (.pair (.int .i64) (.pair (.int .i64) (.pair (.int .i64) .unit))))) (.pair (.int .i64) (.pair (.int .i64) .unit))))))))))))))) (.agg [.agg [.vec 5, I z6, .vec 6, .vec 7, .vec 3], .ptr 8 0 [], .ptr 11 0 [], .d (.opq .ptr) z7, .ptr 16 0 [], I z8, .d (.arr 16 (.int .i64)) z9, I z10, I z11, I z12, .agg [.vec 18, I z13, I z14], B z15, .d opT z16, I z17, I z18]), .row (.int .i64) z19 false, .row (.int .i64) z20 false, .row (.pair (.int .i64) (.pair (.int .i64) (.pair (.sl (.int .i64)) (.pair (.int .i64) .unit)))) z21 false, .one (.pair (.sl (.int .i64)) (.pair (.int .i64) (.pair (.int .i64) (.pair (.int .i64) (.pair (.int .i64) (.pair (.int .i64) (.pair (.int .i64) (.pair (.sl (.int .i64)) .unit)))))))) (.agg [.vec 9, I z22, I z23, I z24, I z25, I z26, I z27, .vec 10]), .row (.int .i64) z28 false, .row (.int .i64) z29 false, .one (.pair (.opq .ptr) (.pair (.opq .ptr) (.pair (.int .i64) .unit))) (.agg [.ptr 12 0 [], .ptr 14 0 [], I z30]), .one (.pair (.pair (.int .i64) (.pair (.int .i64) (.pair (.int .i64) (.pair (.int .i64) .unit)))) (.pair (.sl (.sl (.pair (.int .i64) (.pair .bool .unit)))) .unit)) (.agg [.d (.pair (.int .i64) (.pair (.int .i64) (.pair (.int .i64) (.pair (.int .i64) .unit)))) z31, .vec 13]), .row (.sl (.pair (.int .i64) (.pair .bool .unit))) z32 false, .one (.pair (.pair (.int .i64) (.pair (.int .i64) (.pair (.int .i64) (.pair (.int .i64) .unit)))) (.pair (.sl (.sl (.pair (.int .i64) (.pair .bool .unit)))) .unit)) (.agg [.d (.pair (.int .i64) (.pair (.int .i64) (.pair (.int .i64) (.pair (.int .i64) .unit)))) z33, .vec 15]), .row (.sl (.pair (.int .i64) (.pair .bool .unit))) z34 false, .one (.pair (.pair (.int .i64) (.pair (.int .i64) (.pair (.int .i64) (.pair (.arr 16 (.int .i64)) (.pair (.sl (.int .i64)) .unit))))) (.pair (.int .i64) .unit)) (.agg [.agg [I z35, I z36, I z37, .d (.arr 16 (.int .i64)) z38, .vec 17], I z39]), .row (.int .i64) z40 false, .row (.int .i64) z41 false]) (fun z1 z2 z3 z4 z5 z6 z7 z8 z9 z10 z11 z12 z13 z14 z15 z16 z17 z18 z19 z20 z21 z22 z23 z24 z25 z26 z27 z28 z29 z30 z31 z32 z33 z34 z35 z36 z37 z38 z39 z40 z41 z42 => K (.tup [.ptr 4 0 [], I z1]) [.row (.int .i64) z2 false, .row (.int .i64) z3 false, .row (.pair (.int .i64) (.pair (.int .i64) (.pair (.sl (.int .i64)) (.pair (.int .i64) .unit)))) z4 false, .row (.pair (.int .i64) (.pair (.int .i64) (.pair (.int .i64) (.pair (.sl (.pair .str (.pair (.int .i64) (.pair (.int .i64) .unit)))) .unit)))) z5 false, .one (.pair (.pair (.sl (.int .i64)) (.pair (.int .i64) (.pair (.sl (.int .i64)) (.pair (.sl (.pair (.int .i64) (.pair (.int .i64) (.pair (.sl (.int .i64)) (.pair (.int .i64) .unit))))) (.pair (.sl (.pair (.int .i64) (.pair (.int .i64) (.pair (.int .i64) (.pair (.sl (.pair .str (.pair (.int .i64) (.pair (.int .i64) .unit)))) .unit))))) .unit))))) (.pair (.opq .ptr) (.pair (.opq .ptr) (.pair (.opq .ptr) (.pair (.opq .ptr) (.pair (.int .i64) (.pair (.arr 16 (.int .i64)) (.pair (.int .i64) (.pair (.int .i64) (.pair (.int .i64) (.pair (.pair (.sl (.int .i64)) (.pair (.int .i64) (.pair (.int .i64) .unit))) (.pair .bool (.pair (.pair (.int .i64) (.pair (.int .i64) (.pair (.int .i64) (.pair (.int .i64) (.pair (.int .i64) .unit))))) (.pair (.int .i64) (.pair (.int .i64) .unit))))))))))))))) (.agg [.agg [.vec 5, I z6, .vec 6, .vec 7, .vec 3], .ptr 8 0 [], .ptr 11 0 [], .ptr 16 0 [], .ptr 18 0 [], I z7, .d (.arr 16 (.int .i64)) z8, I z9, I z10, I z11, .agg [.vec 20, I z12, I z13], B z14, .d opT z15, I z16, I z17]), .row (.int .i64) z18 false, .row (.int .i64) z19 false, .row (.pair (.int .i64) (.pair (.int .i64) (.pair (.sl (.int .i64)) (.pair (.int .i64) .unit)))) z20 false, .one (.pair (.sl (.int .i64)) (.pair (.int .i64) (.pair (.int .i64) (.pair (.int .i64) (.pair (.int .i64) (.pair (.int .i64) (.pair (.int .i64) (.pair (.sl (.int .i64)) .unit)))))))) (.agg [.vec 9, I z21, I z22, I z23, I z24, I z25, I z26, .vec 10]), .row (.int .i64) z27 false, .row (.int .i64) z28 false, .one (.pair (.opq .ptr) (.pair (.opq .ptr) (.pair (.int .i64) .unit))) (.agg [.ptr 12 0 [], .ptr 14 0 [], I z29]), .one (.pair (.pair (.int .i64) (.pair (.int .i64) (.pair (.int .i64) (.pair (.int .i64) .unit)))) (.pair (.sl (.sl (.pair (.int .i64) (.pair .bool .unit)))) .unit)) (.agg [.d (.pair (.int .i64) (.pair (.int .i64) (.pair (.int .i64) (.pair (.int .i64) .unit)))) z30, .vec 13]), .row (.sl (.pair (.int .i64) (.pair .bool .unit))) z31 false, .one (.pair (.pair (.int .i64) (.pair (.int .i64) (.pair (.int .i64) (.pair (.int .i64) .unit)))) (.pair (.sl (.sl (.pair (.int .i64) (.pair .bool .unit)))) .unit)) (.agg [.d (.pair (.int .i64) (.pair (.int .i64) (.pair (.int .i64) (.pair (.int .i64) .unit)))) z32, .vec 15]), .row (.sl (.pair (.int .i64) (.pair .bool .unit))) z33 false, .one (.pair (.sl (.int .i64)) (.pair (.int .i64) .unit)) (.agg [.vec 17, I z34]), .row (.int .i64) z35 false, .one (.pair (.pair (.int .i64) (.pair (.int .i64) (.pair (.int .i64) (.pair (.arr 16 (.int .i64)) (.pair (.sl (.int .i64)) .unit))))) (.pair (.int .i64) .unit)) (.agg [.agg [I z36, I z37, I z38, .d (.arr 16 (.int .i64)) z39, .vec 19], I z40]), .row (.int .i64) z41 false, .row (.int .i64) z42 false])
theorem h45 : ∀ args τ K, sp45 args τ K → ACall E 45 args τ K := by
  intro args τ K h0
  unfold sp45 at h0
  obtain ⟨a1, r1, rfl, h1⟩ := asCons_inv h0; clear h0
  obtain ⟨l2, rfl, h2⟩ := asAgL_inv h1; clear h1
  obtain ⟨a3, r3, rfl, h3⟩ := asCons_inv h2; clear h2
  obtain ⟨rfl, h4⟩ := asP_inv h3; clear h3
  obtain ⟨a4, r4, rfl, h5⟩ := asCons_inv h4; clear h4
  obtain ⟨x1, rfl, h6⟩ := asD_inv h5; clear h5
  obtain ⟨a5, r5, rfl, h7⟩ := asCons_inv h6; clear h6
  obtain ⟨rfl, h8⟩ := asP_inv h7; clear h7
  obtain ⟨a6, r6, rfl, h9⟩ := asCons_inv h8; clear h8
  obtain ⟨rfl, h10⟩ := asP_inv h9; clear h9
  obtain ⟨a7, r7, rfl, h11⟩ := asCons_inv h10; clear h10
  obtain ⟨rfl, h12⟩ := asP_inv h11; clear h11
  obtain ⟨rfl, h13⟩ := asNil_inv h12; clear h12
  obtain ⟨a8, r8, rfl, h14⟩ := asCons_inv h13; clear h13
  obtain ⟨x2, rfl, h15⟩ := asD_inv h14; clear h14
  obtain ⟨rfl, h16⟩ := asNil_inv h15; clear h15
  obtain ⟨a9, r9, rfl, h17⟩ := asCons_inv h16; clear h16
  obtain ⟨x3, rfl, h18⟩ := asRw_inv h17; clear h17
  obtain ⟨a10, r10, rfl, h19⟩ := asCons_inv h18; clear h18
  obtain ⟨x4, rfl, h20⟩ := asRw_inv h19; clear h19
  obtain ⟨a11, r11, rfl, h21⟩ := asCons_inv h20; clear h20
  obtain ⟨x5, rfl, h22⟩ := asRw_inv h21; clear h21
  obtain ⟨a12, r12, rfl, h23⟩ := asCons_inv h22; clear h22
  obtain ⟨x6, rfl, h24⟩ := asRw_inv h23; clear h23
  obtain ⟨rfl, h25⟩ := asNil_inv h24; clear h24
  exact ACall.spec2 (fn := Try.f45) (c := codeOf Try.f45) (S := ofL S45) (L := lofL L45) hS45 (by kernel_rfl) (by kernel_rfl) (inlOK _) (all_eq (by kernel_rfl : subsOf (E.info 45).keep (codeOf Try.f45) = [.join 4000008 (jbody Try.f45 4000008)]) (all_cons (joinOK_of (mk := 46400008) (sl := [2, 3, 8]) (ss := [([2, 3, 8], lsj45r8)]) (by kernel_rfl) (by kernel_rfl) (all_cons j45r8v (all_nil))) (all_nil))) (by kernel_rfl) h25.of

abbrev Sj8r17 : List (Nat × Pat × Sp) := [(45, none, sp45), (42, none, sp42)]
theorem hSj8r17 : SpecOK E (ofL Sj8r17) := specOK_cons h45 (specOK_cons h42 (specOK_nil))
abbrev Lj8r17 : List (Nat × List Nat × Pat × LSp) := []
def lsj8r17 : LSp := fun vs σ K => asCons vs fun a1 r1 => asP (.ptr 0 0 []) a1 <| asCons r1 fun a2 r2 => asP (.ptr 1 0 []) a2 <| asCons r2 fun a3 r3 => asD (.int .i64) a3 fun s1 => asNil r3 <| asCons σ fun a4 r4 => asOne (.pair (.int .i64) (.pair (.int .i64) (.pair (.int .i64) (.pair (.int .i64) (.pair (.pair (.int .i64) (.pair (.int .i64) (.pair (.int .i64) (.pair (.int .i64) .unit)))) (.pair (.pair (.int .i64) (.pair (.int .i64) (.pair (.int .i64) (.pair (.int .i64) .unit)))) (.pair (.int .i64) .unit))))))) a4 fun a5 => asD (.pair (.int .i64) (.pair (.int .i64) (.pair (.int .i64) (.pair (.int .i64) (.pair (.pair (.int .i64) (.pair (.int .i64) (.pair (.int .i64) (.pair (.int .i64) .unit)))) (.pair (.pair (.int .i64) (.pair (.int .i64) (.pair (.int .i64) (.pair (.int .i64) .unit)))) (.pair (.int .i64) .unit))))))) a5 fun s2 => asCons r4 fun a6 r6 => asOne (.pair (.sl (.int .i64)) (.pair (.int .i64) (.pair (.sl (.int .i64)) (.pair (.sl (.pair (.int .i64) (.pair (.int .i64) (.pair (.sl (.int .i64)) (.pair (.int .i64) .unit))))) (.pair (.sl (.pair (.int .i64) (.pair (.int .i64) (.pair (.int .i64) (.pair (.sl (.pair .str (.pair (.int .i64) (.pair (.int .i64) .unit)))) .unit))))) .unit))))) a6 fun a7 => asAgL a7 fun l8 => asCons l8 fun a9 r9 => asP (.vec 2) a9 <| asCons r9 fun a10 r10 => asD (.int .i64) a10 fun s3 => asCons r10 fun a11 r11 => asP (.vec 3) a11 <| asCons r11 fun a12 r12 => asP (.vec 4) a12 <| asCons r12 fun a13 r13 => asP (.vec 5) a13 <| asNil r13 <| asCons r6 fun a14 r14 => asRw (.int .i64) false a14 fun s4 => asCons r14 fun a15 r15 => asRw (.int .i64) false a15 fun s5 => asCons r15 fun a16 r16 => asRw (.pair (.int .i64) (.pair (.int .i64) (.pair (.sl (.int .i64)) (.pair (.int .i64) .unit)))) false a16 fun s6 => asCons r16 fun a17 r17 => asRw (.pair (.int .i64) (.pair (.int .i64) (.pair (.int .i64) (.pair (.sl (.pair .str (.pair (.int .i64) (.pair (.int .i64) .unit)))) .unit)))) false a17 fun s7 => asNil r17 <| j8r17 (fun z1 => K .ret [(2, B z1)] []) s1 s2 s3 s4 s5 s6 s7
theorem j8r17v : JoinV E (inlF (PA (ACall E)) E 8) (E.info 8).keep 0 Try.f8.ntmps 9400017 4000017 (jbody Try.f8 4000017) ([1, 3, 4], lsj8r17) := by
  intro vs σ K (h0 : lsj8r17 vs σ K)
  unfold lsj8r17 at h0
  obtain ⟨a1, r1, rfl, h1⟩ := asCons_inv h0; clear h0
  obtain ⟨rfl, h2⟩ := asP_inv h1; clear h1
  obtain ⟨a2, r2, rfl, h3⟩ := asCons_inv h2; clear h2
  obtain ⟨rfl, h4⟩ := asP_inv h3; clear h3
  obtain ⟨a3, r3, rfl, h5⟩ := asCons_inv h4; clear h4
  obtain ⟨s1, rfl, h6⟩ := asD_inv h5; clear h5
  obtain ⟨rfl, h7⟩ := asNil_inv h6; clear h6
  obtain ⟨a4, r4, rfl, h8⟩ := asCons_inv h7; clear h7
  obtain ⟨a5, rfl, h9⟩ := asOne_inv h8; clear h8
  obtain ⟨s2, rfl, h10⟩ := asD_inv h9; clear h9
  obtain ⟨a6, r6, rfl, h11⟩ := asCons_inv h10; clear h10
  obtain ⟨a7, rfl, h12⟩ := asOne_inv h11; clear h11
  obtain ⟨l8, rfl, h13⟩ := asAgL_inv h12; clear h12
  obtain ⟨a9, r9, rfl, h14⟩ := asCons_inv h13; clear h13
  obtain ⟨rfl, h15⟩ := asP_inv h14; clear h14
  obtain ⟨a10, r10, rfl, h16⟩ := asCons_inv h15; clear h15
  obtain ⟨s3, rfl, h17⟩ := asD_inv h16; clear h16
  obtain ⟨a11, r11, rfl, h18⟩ := asCons_inv h17; clear h17
  obtain ⟨rfl, h19⟩ := asP_inv h18; clear h18
  obtain ⟨a12, r12, rfl, h20⟩ := asCons_inv h19; clear h19
  obtain ⟨rfl, h21⟩ := asP_inv h20; clear h20
  obtain ⟨a13, r13, rfl, h22⟩ := asCons_inv h21; clear h21
  obtain ⟨rfl, h23⟩ := asP_inv h22; clear h22
  obtain ⟨rfl, h24⟩ := asNil_inv h23; clear h23
  obtain ⟨a14, r14, rfl, h25⟩ := asCons_inv h24; clear h24
  obtain ⟨s4, rfl, h26⟩ := asRw_inv h25; clear h25
  obtain ⟨a15, r15, rfl, h27⟩ := asCons_inv h26; clear h26
  obtain ⟨s5, rfl, h28⟩ := asRw_inv h27; clear h27
  obtain ⟨a16, r16, rfl, h29⟩ := asCons_inv h28; clear h28
  obtain ⟨s6, rfl, h30⟩ := asRw_inv h29; clear h29
  obtain ⟨a17, r17, rfl, h31⟩ := asCons_inv h30; clear h30
  obtain ⟨s7, rfl, h32⟩ := asRw_inv h31; clear h31
  obtain ⟨rfl, h33⟩ := asNil_inv h32; clear h32
  exact join_round2 (S := ofL Sj8r17) (L := lofL Lj8r17) hSj8r17 (inlOK _) (all_eq (by kernel_rfl : subsOf (E.info 8).keep (jbody Try.f8 4000017) = []) (all_nil)) (by kernel_rfl) h33.of

abbrev S44 : List (Nat × Pat × Sp) := []
theorem hS44 : SpecOK E (ofL S44) := specOK_nil
abbrev L44 : List (Nat × List Nat × Pat × LSp) := []
def sp44 : Sp := fun args τ K => asCons args fun a1 r1 => asD (.pair (.int .i64) (.pair (.int .i64) (.pair (.int .i64) (.pair (.int .i64) .unit)))) a1 fun x1 => asNil r1 <| asNil τ <| c44 x1 (fun z1 => K (I z1) [])
theorem h44 : ∀ args τ K, sp44 args τ K → ACall E 44 args τ K := by
  intro args τ K h0
  unfold sp44 at h0
  obtain ⟨a1, r1, rfl, h1⟩ := asCons_inv h0; clear h0
  obtain ⟨x1, rfl, h2⟩ := asD_inv h1; clear h1
  obtain ⟨rfl, h3⟩ := asNil_inv h2; clear h2
  obtain ⟨rfl, h4⟩ := asNil_inv h3; clear h3
  exact ACall.spec2 (fn := Try.f44) (c := codeOf Try.f44) (S := ofL S44) (L := lofL L44) hS44 (by kernel_rfl) (by kernel_rfl) (inlOK _) (all_eq (by kernel_rfl : subsOf (E.info 44).keep (codeOf Try.f44) = []) (all_nil)) (by kernel_rfl) h4.of

abbrev S8 : List (Nat × Pat × Sp) := [(43, none, sp43), (42, none, sp42), (44, none, sp44)]
theorem hS8 : SpecOK E (ofL S8) := specOK_cons h43 (specOK_cons h42 (specOK_cons h44 (specOK_nil)))
abbrev L8 : List (Nat × List Nat × Pat × LSp) := [(9400017, [1, 3, 4], none, lsj8r17)]
def sp8 : Sp := fun args τ K => asCons args fun a1 r1 => asD (.pair (.int .i64) (.pair (.int .i64) (.pair (.int .i64) (.pair (.int .i64) (.pair (.pair (.int .i64) (.pair (.int .i64) (.pair (.int .i64) (.pair (.int .i64) .unit)))) (.pair (.pair (.int .i64) (.pair (.int .i64) (.pair (.int .i64) (.pair (.int .i64) .unit)))) (.pair (.int .i64) .unit))))))) a1 fun x1 => asNil r1 <| asNil τ <| c8 x1 (fun z1 => K (B z1) [])
theorem h8 : ∀ args τ K, sp8 args τ K → ACall E 8 args τ K := by
  intro args τ K h0
  unfold sp8 at h0
  obtain ⟨a1, r1, rfl, h1⟩ := asCons_inv h0; clear h0
  obtain ⟨x1, rfl, h2⟩ := asD_inv h1; clear h1
  obtain ⟨rfl, h3⟩ := asNil_inv h2; clear h2
  obtain ⟨rfl, h4⟩ := asNil_inv h3; clear h3
  exact ACall.spec2 (fn := Try.f8) (c := codeOf Try.f8) (S := ofL S8) (L := lofL L8) hS8 (by kernel_rfl) (by kernel_rfl) (inlOK _) (all_eq (by kernel_rfl : subsOf (E.info 8).keep (codeOf Try.f8) = [.join 4000017 (jbody Try.f8 4000017)]) (all_cons (joinOK_of (mk := 9400017) (sl := [1, 3, 4]) (ss := [([1, 3, 4], lsj8r17)]) (by kernel_rfl) (by kernel_rfl) (all_cons j8r17v (all_nil))) (all_nil))) (by kernel_rfl) h4.of

end Go.Proofs.Ytfdoaacapkopmaa
