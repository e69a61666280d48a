/- The functions compute that (printed by a program). -/
import Derived.Test.YtfheeikjlehikaaAD4
import Derived.Test.YtfheeikjlehikaaAEnvC
import Derived.KernelRfl
namespace Go.Proofs.Ytfheeikjlehikaa
open Go.Abs
set_option maxRecDepth 100000
set_option maxHeartbeats 4000000
set_option linter.unusedVariables false
abbrev S69 : List (Nat × Pat × Sp) := []
theorem hS69 : SpecOK E (ofL S69) := specOK_nil
abbrev L69 : List (Nat × List Nat × Pat × LSp) := []
def sp69 : Sp := fun args τ K => asNil args <| asNil τ <| c69  (fun z1 z2 z3 z4 => K (.agg [I z1, .vec 0, I z2, .vec 1]) [.row (.int .i64) z3 false, .row (.pair (.sl (.pair (.int .i64) (.pair (.int .i64) (.pair (.int .i64) (.pair (.int .i64) (.pair (.int .i64) (.pair (.sl (.int .i64)) .unit))))))) (.pair (.pair (.int .i64) (.pair (.int .i64) (.pair (.int .i64) (.pair (.int .i64) (.pair (.int .i64) (.pair (.sl (.int .i64)) .unit)))))) .unit)) z4 false])
theorem h69 : ∀ args τ K, sp69 args τ K → ACall E 69 args τ K := by
  intro args τ K h0
  unfold sp69 at h0
  obtain ⟨rfl, h1⟩ := asNil_inv h0; clear h0
  obtain ⟨rfl, h2⟩ := asNil_inv h1; clear h1
  exact ACall.spec2 (fn := Try.f69) (c := codeOf Try.f69) (S := ofL S69) (L := lofL L69) hS69 (by kernel_rfl) (by kernel_rfl) (inlOK _) (all_eq (by kernel_rfl : subsOf (E.info 69).keep (codeOf Try.f69) = []) (all_nil)) (by kernel_rfl) h2.of

abbrev S93 : List (Nat × Pat × Sp) := []
theorem hS93 : SpecOK E (ofL S93) := specOK_nil
abbrev L93 : List (Nat × List Nat × Pat × LSp) := []
def sp93 : Sp := fun args τ K => asCons args fun a1 r1 => asD (.int .i64) a1 fun x1 => asCons r1 fun a2 r2 => asD (.int .i64) a2 fun x2 => asCons r2 fun a3 r3 => asD (.int .i64) a3 fun x3 => asNil r3 <| asNil τ <| c93 x1 x2 x3 (fun z1 => K (B z1) [])
theorem h93 : ∀ args τ K, sp93 args τ K → ACall E 93 args τ K := by
  intro args τ K h0
  unfold sp93 at h0
  obtain ⟨a1, r1, rfl, h1⟩ := asCons_inv h0; clear h0
  obtain ⟨x1, rfl, h2⟩ := asD_inv h1; clear h1
  obtain ⟨a2, r2, rfl, h3⟩ := asCons_inv h2; clear h2
  obtain ⟨x2, rfl, h4⟩ := asD_inv h3; clear h3
  obtain ⟨a3, r3, rfl, h5⟩ := asCons_inv h4; clear h4
  obtain ⟨x3, rfl, h6⟩ := asD_inv h5; clear h5
  obtain ⟨rfl, h7⟩ := asNil_inv h6; clear h6
  obtain ⟨rfl, h8⟩ := asNil_inv h7; clear h7
  exact ACall.spec2 (fn := Try.f93) (c := codeOf Try.f93) (S := ofL S93) (L := lofL L93) hS93 (by kernel_rfl) (by kernel_rfl) (inlOK _) (all_eq (by kernel_rfl : subsOf (E.info 93).keep (codeOf Try.f93) = []) (all_nil)) (by kernel_rfl) h8.of

abbrev Sl81r2 : List (Nat × Pat × Sp) := []
theorem hSl81r2 : SpecOK E (ofL Sl81r2) := specOK_nil
abbrev Ll81r2 : List (Nat × List Nat × Pat × LSp) := []
def lsl81r2 : LSp := fun vs σ K => asCons vs fun a1 r1 => asD (.sl (.int .i64)) a1 fun s1 => asCons r1 fun a2 r2 => asD (.int .i64) a2 fun s2 => asCons r2 fun a3 r3 => asD (.int .i64) a3 fun s3 => asCons r3 fun a4 r4 => asD (.int .i64) a4 fun s4 => asNil r4 <| asNil σ <| l81r2 (fun z1 => K .ret [(4, I z1)] []) (K (.exit 0) [(4, .undef)] []) s1 s2 s3 s4
theorem l81r2v : LoopV E (inlF (PA (ACall E)) E 8) (E.info 81).keep 0 Try.f81.ntmps 82000002 (body Try.f81 2) ([0, 1, 7, 8], lsl81r2) := by
  intro vs σ K (h0 : lsl81r2 vs σ K)
  unfold lsl81r2 at h0
  obtain ⟨a1, r1, rfl, h1⟩ := asCons_inv h0; clear h0
  obtain ⟨s1, rfl, h2⟩ := asD_inv h1; clear h1
  obtain ⟨a2, r2, rfl, h3⟩ := asCons_inv h2; clear h2
  obtain ⟨s2, rfl, h4⟩ := asD_inv h3; clear h3
  obtain ⟨a3, r3, rfl, h5⟩ := asCons_inv h4; clear h4
  obtain ⟨s3, rfl, h6⟩ := asD_inv h5; clear h5
  obtain ⟨a4, r4, rfl, h7⟩ := asCons_inv h6; clear h6
  obtain ⟨s4, rfl, h8⟩ := asD_inv h7; clear h7
  obtain ⟨rfl, h9⟩ := asNil_inv h8; clear h8
  obtain ⟨rfl, h10⟩ := asNil_inv h9; clear h9
  intro J hJ
  have hp : ∀ c' ∈ subsOf (E.info 81).keep (body Try.f81 2), SubOK E (inlF (PA (ACall E)) E 8) (E.info 81).keep 0 Try.f81.ntmps (lofL Ll81r2) c' := all_eq (by kernel_rfl : subsOf (E.info 81).keep (body Try.f81 2) = []) (all_nil)
  exact h10.of (fun s1 s2 s3 s4 => J [(82000002, .undef), (0, .d (.sl (.int .i64)) s1), (1, I s2), (7, I s3), (8, I s4)] []) (fun s1 s2 s3 s4 hb => loop_round2 (S := ofL Sl81r2) (L := lofL Ll81r2) hSl81r2 (inlOK _) hp hJ (by kernel_rfl) hb)

abbrev S81 : List (Nat × Pat × Sp) := []
theorem hS81 : SpecOK E (ofL S81) := specOK_nil
abbrev L81 : List (Nat × List Nat × Pat × LSp) := [(82000002, [0, 1, 7, 8], none, lsl81r2)]
def sp81 : Sp := fun args τ K => asCons args fun a1 r1 => asD (.sl (.int .i64)) a1 fun x1 => asCons r1 fun a2 r2 => asD (.int .i64) a2 fun x2 => asNil r2 <| asNil τ <| c81 x1 x2 (fun z1 => K (I z1) [])
theorem h81 : ∀ args τ K, sp81 args τ K → ACall E 81 args τ K := by
  intro args τ K h0
  unfold sp81 at h0
  obtain ⟨a1, r1, rfl, h1⟩ := asCons_inv h0; clear h0
  obtain ⟨x1, rfl, h2⟩ := asD_inv h1; clear h1
  obtain ⟨a2, r2, rfl, h3⟩ := asCons_inv h2; clear h2
  obtain ⟨x2, rfl, h4⟩ := asD_inv h3; clear h3
  obtain ⟨rfl, h5⟩ := asNil_inv h4; clear h4
  obtain ⟨rfl, h6⟩ := asNil_inv h5; clear h5
  exact ACall.spec2 (fn := Try.f81) (c := codeOf Try.f81) (S := ofL S81) (L := lofL L81) hS81 (by kernel_rfl) (by kernel_rfl) (inlOK _) (all_eq (by kernel_rfl : subsOf (E.info 81).keep (codeOf Try.f81) = [.loop (body Try.f81 2)]) (all_cons (loopOK_of (mk := 82000002) (sl := [0, 1, 7, 8]) (ss := [([0, 1, 7, 8], lsl81r2)]) (by kernel_rfl) (by kernel_rfl) (all_cons l81r2v (all_nil))) (all_nil))) (by kernel_rfl) h6.of

abbrev S94 : List (Nat × Pat × Sp) := [(81, none, sp81)]
theorem hS94 : SpecOK E (ofL S94) := specOK_cons h81 (specOK_nil)
abbrev L94 : List (Nat × List Nat × Pat × LSp) := []
def sp94 : Sp := fun args τ K => asCons args fun a1 r1 => asD (.sl (.int .i64)) a1 fun x1 => asCons r1 fun a2 r2 => asD (.int .i64) a2 fun x2 => asNil r2 <| asNil τ <| c94 x1 x2 (fun z1 => K (B z1) [])
theorem h94 : ∀ args τ K, sp94 args τ K → ACall E 94 args τ K := by
  intro args τ K h0
  unfold sp94 at h0
  obtain ⟨a1, r1, rfl, h1⟩ := asCons_inv h0; clear h0
  obtain ⟨x1, rfl, h2⟩ := asD_inv h1; clear h1
  obtain ⟨a2, r2, rfl, h3⟩ := asCons_inv h2; clear h2
  obtain ⟨x2, rfl, h4⟩ := asD_inv h3; clear h3
  obtain ⟨rfl, h5⟩ := asNil_inv h4; clear h4
  obtain ⟨rfl, h6⟩ := asNil_inv h5; clear h5
  exact ACall.spec2 (fn := Try.f94) (c := codeOf Try.f94) (S := ofL S94) (L := lofL L94) hS94 (by kernel_rfl) (by kernel_rfl) (inlOK _) (all_eq (by kernel_rfl : subsOf (E.info 94).keep (codeOf Try.f94) = []) (all_nil)) (by kernel_rfl) h6.of

abbrev Sl30r6 : List (Nat × Pat × Sp) := [(93, none, sp93), (94, none, sp94)]
theorem hSl30r6 : SpecOK E (ofL Sl30r6) := specOK_cons h93 (specOK_cons h94 (specOK_nil))
abbrev Ll30r6 : List (Nat × List Nat × Pat × LSp) := []
def lsl30r6 : LSp := fun vs σ K => asCons vs fun a1 r1 => asP (.ptr 0 0 []) a1 <| asCons r1 fun a2 r2 => asD (.sl (.int .i64)) a2 fun s1 => asCons r2 fun a3 r3 => asD (.int .i64) a3 fun s2 => asCons r3 fun a4 r4 => asD (.int .i64) a4 fun s3 => asNil r4 <| asCons σ fun a5 r5 => asOne (.pair (.int .i64) (.pair (.sl (.int .i64)) (.pair (.int .i64) (.pair (.sl (.pair (.sl (.pair (.int .i64) (.pair (.int .i64) (.pair (.int .i64) (.pair (.int .i64) (.pair (.int .i64) (.pair (.sl (.int .i64)) .unit))))))) (.pair (.pair (.int .i64) (.pair (.int .i64) (.pair (.int .i64) (.pair (.int .i64) (.pair (.int .i64) (.pair (.sl (.int .i64)) .unit)))))) .unit))) .unit)))) a5 fun a6 => asD (.pair (.int .i64) (.pair (.sl (.int .i64)) (.pair (.int .i64) (.pair (.sl (.pair (.sl (.pair (.int .i64) (.pair (.int .i64) (.pair (.int .i64) (.pair (.int .i64) (.pair (.int .i64) (.pair (.sl (.int .i64)) .unit))))))) (.pair (.pair (.int .i64) (.pair (.int .i64) (.pair (.int .i64) (.pair (.int .i64) (.pair (.int .i64) (.pair (.sl (.int .i64)) .unit)))))) .unit))) .unit)))) a6 fun s4 => asNil r5 <| l30r6 (fun z1 => K .ret [(1, .undef), (2, I z1)] []) (fun z1 => K (.exit 0) [(1, .ptr 0 0 []), (2, .undef)] [.one (.pair (.int .i64) (.pair (.sl (.int .i64)) (.pair (.int .i64) (.pair (.sl (.pair (.sl (.pair (.int .i64) (.pair (.int .i64) (.pair (.int .i64) (.pair (.int .i64) (.pair (.int .i64) (.pair (.sl (.int .i64)) .unit))))))) (.pair (.pair (.int .i64) (.pair (.int .i64) (.pair (.int .i64) (.pair (.int .i64) (.pair (.int .i64) (.pair (.sl (.int .i64)) .unit)))))) .unit))) .unit)))) (.d (.pair (.int .i64) (.pair (.sl (.int .i64)) (.pair (.int .i64) (.pair (.sl (.pair (.sl (.pair (.int .i64) (.pair (.int .i64) (.pair (.int .i64) (.pair (.int .i64) (.pair (.int .i64) (.pair (.sl (.int .i64)) .unit))))))) (.pair (.pair (.int .i64) (.pair (.int .i64) (.pair (.int .i64) (.pair (.int .i64) (.pair (.int .i64) (.pair (.sl (.int .i64)) .unit)))))) .unit))) .unit)))) z1)]) s1 s2 s3 s4
theorem l30r6v : LoopV E (inlF (PA (ACall E)) E 8) (E.info 30).keep 0 Try.f30.ntmps 31000006 (body Try.f30 6) ([1, 35, 36, 37], lsl30r6) := by
  intro vs σ K (h0 : lsl30r6 vs σ K)
  unfold lsl30r6 at h0
  obtain ⟨a1, r1, rfl, h1⟩ := asCons_inv h0; clear h0
  obtain ⟨rfl, h2⟩ := asP_inv h1; clear h1
  obtain ⟨a2, r2, rfl, h3⟩ := asCons_inv h2; clear h2
  obtain ⟨s1, rfl, h4⟩ := asD_inv h3; clear h3
  obtain ⟨a3, r3, rfl, h5⟩ := asCons_inv h4; clear h4
  obtain ⟨s2, rfl, h6⟩ := asD_inv h5; clear h5
  obtain ⟨a4, r4, rfl, h7⟩ := asCons_inv h6; clear h6
  obtain ⟨s3, rfl, h8⟩ := asD_inv h7; clear h7
  obtain ⟨rfl, h9⟩ := asNil_inv h8; clear h8
  obtain ⟨a5, r5, rfl, h10⟩ := asCons_inv h9; clear h9
  obtain ⟨a6, rfl, h11⟩ := asOne_inv h10; clear h10
  obtain ⟨s4, rfl, h12⟩ := asD_inv h11; clear h11
  obtain ⟨rfl, h13⟩ := asNil_inv h12; clear h12
  intro J hJ
  have hp : ∀ c' ∈ subsOf (E.info 30).keep (body Try.f30 6), SubOK E (inlF (PA (ACall E)) E 8) (E.info 30).keep 0 Try.f30.ntmps (lofL Ll30r6) c' := all_eq (by kernel_rfl : subsOf (E.info 30).keep (body Try.f30 6) = []) (all_nil)
  exact h13.of (fun s1 s2 s3 s4 => J [(31000006, .undef), (1, .ptr 0 0 []), (35, .d (.sl (.int .i64)) s1), (36, I s2), (37, I s3)] [.one (.pair (.int .i64) (.pair (.sl (.int .i64)) (.pair (.int .i64) (.pair (.sl (.pair (.sl (.pair (.int .i64) (.pair (.int .i64) (.pair (.int .i64) (.pair (.int .i64) (.pair (.int .i64) (.pair (.sl (.int .i64)) .unit))))))) (.pair (.pair (.int .i64) (.pair (.int .i64) (.pair (.int .i64) (.pair (.int .i64) (.pair (.int .i64) (.pair (.sl (.int .i64)) .unit)))))) .unit))) .unit)))) (.d (.pair (.int .i64) (.pair (.sl (.int .i64)) (.pair (.int .i64) (.pair (.sl (.pair (.sl (.pair (.int .i64) (.pair (.int .i64) (.pair (.int .i64) (.pair (.int .i64) (.pair (.int .i64) (.pair (.sl (.int .i64)) .unit))))))) (.pair (.pair (.int .i64) (.pair (.int .i64) (.pair (.int .i64) (.pair (.int .i64) (.pair (.int .i64) (.pair (.sl (.int .i64)) .unit)))))) .unit))) .unit)))) s4)]) (fun s1 s2 s3 s4 hb => loop_round2 (S := ofL Sl30r6) (L := lofL Ll30r6) hSl30r6 (inlOK _) hp hJ (by kernel_rfl) hb)

abbrev S170 : List (Nat × Pat × Sp) := []
theorem hS170 : SpecOK E (ofL S170) := specOK_nil
abbrev L170 : List (Nat × List Nat × Pat × LSp) := []
def sp170 : Sp := fun args τ K => asCons args fun a1 r1 => asD (.int .i64) a1 fun x1 => asNil r1 <| asNil τ <| c170 x1 (fun z1 z2 => K (.tup [.d (.pair .bool (.pair .bool (.pair .bool (.pair .bool (.pair .bool .unit))))) z1, B z2]) [])
theorem h170 : ∀ args τ K, sp170 args τ K → ACall E 170 args τ K := by
  intro args τ K h0
  unfold sp170 at h0
  obtain ⟨a1, r1, rfl, h1⟩ := asCons_inv h0; clear h0
  obtain ⟨x1, rfl, h2⟩ := asD_inv h1; clear h1
  obtain ⟨rfl, h3⟩ := asNil_inv h2; clear h2
  obtain ⟨rfl, h4⟩ := asNil_inv h3; clear h3
  exact ACall.spec2 (fn := Try.f170) (c := codeOf Try.f170) (S := ofL S170) (L := lofL L170) hS170 (by kernel_rfl) (by kernel_rfl) (inlOK _) (all_eq (by kernel_rfl : subsOf (E.info 170).keep (codeOf Try.f170) = []) (all_nil)) (by kernel_rfl) h4.of

abbrev Sj95s4 : List (Nat × Pat × Sp) := []
theorem hSj95s4 : SpecOK E (ofL Sj95s4) := specOK_nil
abbrev Lj95s4 : List (Nat × List Nat × Pat × LSp) := []
def lsj95s4 : LSp := fun vs σ K => asCons vs fun a1 r1 => asD (.int .i64) a1 fun s1 => asCons r1 fun a2 r2 => asP (.ptr 0 0 []) a2 <| asCons r2 fun a3 r3 => asD .bool a3 fun s2 => asNil r3 <| asCons σ fun a4 r4 => asOne (.pair (.int .i64) (.pair (.int .i64) (.pair (.int .i64) (.pair (.int .i64) (.pair (.int .i64) (.pair (.sl (.int .i64)) .unit)))))) a4 fun a5 => asD (.pair (.int .i64) (.pair (.int .i64) (.pair (.int .i64) (.pair (.int .i64) (.pair (.int .i64) (.pair (.sl (.int .i64)) .unit)))))) a5 fun s3 => asNil r4 <| j95s4 (fun z1 => K .ret [(1, .undef), (2, .undef), (4, I z1)] []) (fun z1 z2 => K .normal [(1, I z1), (2, .ptr 0 0 []), (4, .undef)] [.one (.pair (.int .i64) (.pair (.int .i64) (.pair (.int .i64) (.pair (.int .i64) (.pair (.int .i64) (.pair (.sl (.int .i64)) .unit)))))) (.d (.pair (.int .i64) (.pair (.int .i64) (.pair (.int .i64) (.pair (.int .i64) (.pair (.int .i64) (.pair (.sl (.int .i64)) .unit)))))) z2)]) s1 s2 s3
theorem j95s4v : JoinV E (inlF (PA (ACall E)) E 8) (E.info 95).keep 0 Try.f95.ntmps 96500004 5000004 (jbody Try.f95 5000004) ([1, 2, 65], lsj95s4) := by
  intro vs σ K (h0 : lsj95s4 vs σ K)
  unfold lsj95s4 at h0
  obtain ⟨a1, r1, rfl, h1⟩ := asCons_inv h0; clear h0
  obtain ⟨s1, rfl, h2⟩ := asD_inv h1; clear h1
  obtain ⟨a2, r2, rfl, h3⟩ := asCons_inv h2; clear h2
  obtain ⟨rfl, h4⟩ := asP_inv h3; clear h3
  obtain ⟨a3, r3, rfl, h5⟩ := asCons_inv h4; clear h4
  obtain ⟨s2, rfl, h6⟩ := asD_inv h5; clear h5
  obtain ⟨rfl, h7⟩ := asNil_inv h6; clear h6
  obtain ⟨a4, r4, rfl, h8⟩ := asCons_inv h7; clear h7
  obtain ⟨a5, rfl, h9⟩ := asOne_inv h8; clear h8
  obtain ⟨s3, rfl, h10⟩ := asD_inv h9; clear h9
  obtain ⟨rfl, h11⟩ := asNil_inv h10; clear h10
  exact join_round2 (S := ofL Sj95s4) (L := lofL Lj95s4) hSj95s4 (inlOK _) (all_eq (by kernel_rfl : subsOf (E.info 95).keep (jbody Try.f95 5000004) = []) (all_nil)) (by kernel_rfl) h11.of

abbrev Sj95s6 : List (Nat × Pat × Sp) := []
theorem hSj95s6 : SpecOK E (ofL Sj95s6) := specOK_nil
abbrev Lj95s6 : List (Nat × List Nat × Pat × LSp) := []
def lsj95s6 : LSp := fun vs σ K => asCons vs fun a1 r1 => asD (.int .i64) a1 fun s1 => asCons r1 fun a2 r2 => asP (.ptr 0 0 []) a2 <| asCons r2 fun a3 r3 => asD .bool a3 fun s2 => asNil r3 <| asCons σ fun a4 r4 => asOne (.pair (.int .i64) (.pair (.int .i64) (.pair (.int .i64) (.pair (.int .i64) (.pair (.int .i64) (.pair (.sl (.int .i64)) .unit)))))) a4 fun a5 => asD (.pair (.int .i64) (.pair (.int .i64) (.pair (.int .i64) (.pair (.int .i64) (.pair (.int .i64) (.pair (.sl (.int .i64)) .unit)))))) a5 fun s3 => asNil r4 <| j95s6 (fun z1 => K .ret [(1, .undef), (2, .undef), (4, I z1)] []) (fun z1 z2 => K .normal [(1, I z1), (2, .ptr 0 0 []), (4, .undef)] [.one (.pair (.int .i64) (.pair (.int .i64) (.pair (.int .i64) (.pair (.int .i64) (.pair (.int .i64) (.pair (.sl (.int .i64)) .unit)))))) (.d (.pair (.int .i64) (.pair (.int .i64) (.pair (.int .i64) (.pair (.int .i64) (.pair (.int .i64) (.pair (.sl (.int .i64)) .unit)))))) z2)]) s1 s2 s3
theorem j95s6v : JoinV E (inlF (PA (ACall E)) E 8) (E.info 95).keep 0 Try.f95.ntmps 96500006 5000006 (jbody Try.f95 5000006) ([1, 2, 118], lsj95s6) := by
  intro vs σ K (h0 : lsj95s6 vs σ K)
  unfold lsj95s6 at h0
  obtain ⟨a1, r1, rfl, h1⟩ := asCons_inv h0; clear h0
  obtain ⟨s1, rfl, h2⟩ := asD_inv h1; clear h1
  obtain ⟨a2, r2, rfl, h3⟩ := asCons_inv h2; clear h2
  obtain ⟨rfl, h4⟩ := asP_inv h3; clear h3
  obtain ⟨a3, r3, rfl, h5⟩ := asCons_inv h4; clear h4
  obtain ⟨s2, rfl, h6⟩ := asD_inv h5; clear h5
  obtain ⟨rfl, h7⟩ := asNil_inv h6; clear h6
  obtain ⟨a4, r4, rfl, h8⟩ := asCons_inv h7; clear h7
  obtain ⟨a5, rfl, h9⟩ := asOne_inv h8; clear h8
  obtain ⟨s3, rfl, h10⟩ := asD_inv h9; clear h9
  obtain ⟨rfl, h11⟩ := asNil_inv h10; clear h10
  exact join_round2 (S := ofL Sj95s6) (L := lofL Lj95s6) hSj95s6 (inlOK _) (all_eq (by kernel_rfl : subsOf (E.info 95).keep (jbody Try.f95 5000006) = []) (all_nil)) (by kernel_rfl) h11.of

abbrev Sl95r9 : List (Nat × Pat × Sp) := [(93, none, sp93)]
theorem hSl95r9 : SpecOK E (ofL Sl95r9) := specOK_cons h93 (specOK_nil)
abbrev Ll95r9 : List (Nat × List Nat × Pat × LSp) := []
def lsl95r9 : LSp := fun vs σ K => asCons vs fun a1 r1 => asD (.int .i64) a1 fun s1 => asCons r1 fun a2 r2 => asP (.vec 0) a2 <| asCons r2 fun a3 r3 => asD (.int .i64) a3 fun s2 => asCons r3 fun a4 r4 => asD (.int .i64) a4 fun s3 => asNil r4 <| asCons σ fun a5 r5 => asRw (.int .i64) false a5 fun s4 => asNil r5 <| l95r9 (fun z1 => K .ret [(4, I z1)] []) (K (.exit 0) [(4, .undef)] []) s1 s2 s3 s4
theorem l95r9v : LoopV E (inlF (PA (ACall E)) E 8) (E.info 95).keep 0 Try.f95.ntmps 96000009 (body Try.f95 9) ([1, 128, 129, 130], lsl95r9) := by
  intro vs σ K (h0 : lsl95r9 vs σ K)
  unfold lsl95r9 at h0
  obtain ⟨a1, r1, rfl, h1⟩ := asCons_inv h0; clear h0
  obtain ⟨s1, rfl, h2⟩ := asD_inv h1; clear h1
  obtain ⟨a2, r2, rfl, h3⟩ := asCons_inv h2; clear h2
  obtain ⟨rfl, h4⟩ := asP_inv h3; clear h3
  obtain ⟨a3, r3, rfl, h5⟩ := asCons_inv h4; clear h4
  obtain ⟨s2, rfl, h6⟩ := asD_inv h5; clear h5
  obtain ⟨a4, r4, rfl, h7⟩ := asCons_inv h6; clear h6
  obtain ⟨s3, rfl, h8⟩ := asD_inv h7; clear h7
  obtain ⟨rfl, h9⟩ := asNil_inv h8; clear h8
  obtain ⟨a5, r5, rfl, h10⟩ := asCons_inv h9; clear h9
  obtain ⟨s4, rfl, h11⟩ := asRw_inv h10; clear h10
  obtain ⟨rfl, h12⟩ := asNil_inv h11; clear h11
  intro J hJ
  have hp : ∀ c' ∈ subsOf (E.info 95).keep (body Try.f95 9), SubOK E (inlF (PA (ACall E)) E 8) (E.info 95).keep 0 Try.f95.ntmps (lofL Ll95r9) c' := all_eq (by kernel_rfl : subsOf (E.info 95).keep (body Try.f95 9) = []) (all_nil)
  exact h12.of (fun s1 s2 s3 s4 => J [(96000009, .undef), (1, I s1), (128, .vec 0), (129, I s2), (130, I s3)] [.row (.int .i64) s4 false]) (fun s1 s2 s3 s4 hb => loop_round2 (S := ofL Sl95r9) (L := lofL Ll95r9) hSl95r9 (inlOK _) hp hJ (by kernel_rfl) hb)

abbrev Sj95r8 : List (Nat × Pat × Sp) := []
theorem hSj95r8 : SpecOK E (ofL Sj95r8) := specOK_nil
abbrev Lj95r8 : List (Nat × List Nat × Pat × LSp) := [(96000009, [1, 128, 129, 130], none, lsl95r9)]
def lsj95r8 : LSp := fun vs σ K => asCons vs fun a1 r1 => asD (.int .i64) a1 fun s1 => asCons r1 fun a2 r2 => asP (.ptr 0 0 []) a2 <| asNil r2 <| asCons σ fun a3 r3 => asOne (.pair (.int .i64) (.pair (.int .i64) (.pair (.int .i64) (.pair (.int .i64) (.pair (.int .i64) (.pair (.sl (.int .i64)) .unit)))))) a3 fun a4 => asD (.pair (.int .i64) (.pair (.int .i64) (.pair (.int .i64) (.pair (.int .i64) (.pair (.int .i64) (.pair (.sl (.int .i64)) .unit)))))) a4 fun s2 => asNil r3 <| j95r8 (fun z1 => K .ret [(4, I z1)] []) s1 s2
theorem j95r8v : JoinV E (inlF (PA (ACall E)) E 8) (E.info 95).keep 0 Try.f95.ntmps 96400008 4000008 (jbody Try.f95 4000008) ([1, 2], lsj95r8) := by
  intro vs σ K (h0 : lsj95r8 vs σ K)
  unfold lsj95r8 at h0
  obtain ⟨a1, r1, rfl, h1⟩ := asCons_inv h0; clear h0
  obtain ⟨s1, rfl, h2⟩ := asD_inv h1; clear h1
  obtain ⟨a2, r2, rfl, h3⟩ := asCons_inv h2; clear h2
  obtain ⟨rfl, h4⟩ := asP_inv h3; clear h3
  obtain ⟨rfl, h5⟩ := asNil_inv h4; clear h4
  obtain ⟨a3, r3, rfl, h6⟩ := asCons_inv h5; clear h5
  obtain ⟨a4, rfl, h7⟩ := asOne_inv h6; clear h6
  obtain ⟨s2, rfl, h8⟩ := asD_inv h7; clear h7
  obtain ⟨rfl, h9⟩ := asNil_inv h8; clear h8
  exact join_round2 (S := ofL Sj95r8) (L := lofL Lj95r8) hSj95r8 (inlOK _) (all_eq (by kernel_rfl : subsOf (E.info 95).keep (jbody Try.f95 4000008) = [.loop (body Try.f95 9)]) (all_cons (loopOK_of (mk := 96000009) (sl := [1, 128, 129, 130]) (ss := [([1, 128, 129, 130], lsl95r9)]) (by kernel_rfl) (by kernel_rfl) (all_cons l95r9v (all_nil))) (all_nil))) (by kernel_rfl) h9.of

abbrev Sj95r6 : List (Nat × Pat × Sp) := [(93, none, sp93)]
theorem hSj95r6 : SpecOK E (ofL Sj95r6) := specOK_cons h93 (specOK_nil)
abbrev Lj95r6 : List (Nat × List Nat × Pat × LSp) := [(96500006, [1, 2, 118], none, lsj95s6), (96400008, [1, 2], none, lsj95r8)]
def lsj95r6 : LSp := fun vs σ K => asCons vs fun a1 r1 => asD (.int .i64) a1 fun s1 => asCons r1 fun a2 r2 => asP (.ptr 0 0 []) a2 <| asNil r2 <| asCons σ fun a3 r3 => asOne (.pair (.int .i64) (.pair (.int .i64) (.pair (.int .i64) (.pair (.int .i64) (.pair (.int .i64) (.pair (.sl (.int .i64)) .unit)))))) a3 fun a4 => asD (.pair (.int .i64) (.pair (.int .i64) (.pair (.int .i64) (.pair (.int .i64) (.pair (.int .i64) (.pair (.sl (.int .i64)) .unit)))))) a4 fun s2 => asNil r3 <| j95r6 (fun z1 => K .ret [(4, I z1)] []) s1 s2
theorem j95r6v : JoinV E (inlF (PA (ACall E)) E 8) (E.info 95).keep 0 Try.f95.ntmps 96400006 4000006 (jbody Try.f95 4000006) ([1, 2], lsj95r6) := by
  intro vs σ K (h0 : lsj95r6 vs σ K)
  unfold lsj95r6 at h0
  obtain ⟨a1, r1, rfl, h1⟩ := asCons_inv h0; clear h0
  obtain ⟨s1, rfl, h2⟩ := asD_inv h1; clear h1
  obtain ⟨a2, r2, rfl, h3⟩ := asCons_inv h2; clear h2
  obtain ⟨rfl, h4⟩ := asP_inv h3; clear h3
  obtain ⟨rfl, h5⟩ := asNil_inv h4; clear h4
  obtain ⟨a3, r3, rfl, h6⟩ := asCons_inv h5; clear h5
  obtain ⟨a4, rfl, h7⟩ := asOne_inv h6; clear h6
  obtain ⟨s2, rfl, h8⟩ := asD_inv h7; clear h7
  obtain ⟨rfl, h9⟩ := asNil_inv h8; clear h8
  exact join_round2 (S := ofL Sj95r6) (L := lofL Lj95r6) hSj95r6 (inlOK _) (all_eq (by kernel_rfl : subsOf (E.info 95).keep (jbody Try.f95 4000006) = [.join 4000008 (jbody Try.f95 4000008), .join 5000006 (jbody Try.f95 5000006)]) (all_cons (joinOK_of (mk := 96400008) (sl := [1, 2]) (ss := [([1, 2], lsj95r8)]) (by kernel_rfl) (by kernel_rfl) (all_cons j95r8v (all_nil))) (all_cons (joinOK_of (mk := 96500006) (sl := [1, 2, 118]) (ss := [([1, 2, 118], lsj95s6)]) (by kernel_rfl) (by kernel_rfl) (all_cons j95s6v (all_nil))) (all_nil)))) (by kernel_rfl) h9.of

abbrev S95 : List (Nat × Pat × Sp) := [(170, none, sp170)]
theorem hS95 : SpecOK E (ofL S95) := specOK_cons h170 (specOK_nil)
abbrev L95 : List (Nat × List Nat × Pat × LSp) := [(96500004, [1, 2, 65], none, lsj95s4), (96400006, [1, 2], none, lsj95r6)]
def sp95 : Sp := fun args τ K => asCons args fun a1 r1 => asD (.pair (.int .i64) (.pair (.int .i64) (.pair (.int .i64) (.pair (.int .i64) (.pair (.int .i64) (.pair (.sl (.int .i64)) .unit)))))) a1 fun x1 => asCons r1 fun a2 r2 => asD (.int .i64) a2 fun x2 => asNil r2 <| asNil τ <| c95 x1 x2 (fun z1 => K (I z1) [])
theorem h95 : ∀ args τ K, sp95 args τ K → ACall E 95 args τ K := by
  intro args τ K h0
  unfold sp95 at h0
  obtain ⟨a1, r1, rfl, h1⟩ := asCons_inv h0; clear h0
  obtain ⟨x1, rfl, h2⟩ := asD_inv h1; clear h1
  obtain ⟨a2, r2, rfl, h3⟩ := asCons_inv h2; clear h2
  obtain ⟨x2, rfl, h4⟩ := asD_inv h3; clear h3
  obtain ⟨rfl, h5⟩ := asNil_inv h4; clear h4
  obtain ⟨rfl, h6⟩ := asNil_inv h5; clear h5
  exact ACall.spec2 (fn := Try.f95) (c := codeOf Try.f95) (S := ofL S95) (L := lofL L95) hS95 (by kernel_rfl) (by kernel_rfl) (inlOK _) (all_eq (by kernel_rfl : subsOf (E.info 95).keep (codeOf Try.f95) = [.join 4000006 (jbody Try.f95 4000006), .join 5000004 (jbody Try.f95 5000004)]) (all_cons (joinOK_of (mk := 96400006) (sl := [1, 2]) (ss := [([1, 2], lsj95r6)]) (by kernel_rfl) (by kernel_rfl) (all_cons j95r6v (all_nil))) (all_cons (joinOK_of (mk := 96500004) (sl := [1, 2, 65]) (ss := [([1, 2, 65], lsj95s4)]) (by kernel_rfl) (by kernel_rfl) (all_cons j95s4v (all_nil))) (all_nil)))) (by kernel_rfl) h6.of

abbrev Sl30r21 : List (Nat × Pat × Sp) := [(95, none, sp95)]
theorem hSl30r21 : SpecOK E (ofL Sl30r21) := specOK_cons h95 (specOK_nil)
abbrev Ll30r21 : List (Nat × List Nat × Pat × LSp) := []
def lsl30r21 : LSp := fun vs σ K => asCons vs fun a1 r1 => asP (.ptr 0 0 []) a1 <| asCons r1 fun a2 r2 => asD (.int .i64) a2 fun s1 => asCons r2 fun a3 r3 => asP (.ptr 1 0 []) a3 <| asCons r3 fun a4 r4 => asD (.sl (.pair (.sl (.pair (.int .i64) (.pair (.int .i64) (.pair (.int .i64) (.pair (.int .i64) (.pair (.int .i64) (.pair (.sl (.int .i64)) .unit))))))) (.pair (.pair (.int .i64) (.pair (.int .i64) (.pair (.int .i64) (.pair (.int .i64) (.pair (.int .i64) (.pair (.sl (.int .i64)) .unit)))))) .unit))) a4 fun s2 => asCons r4 fun a5 r5 => asD (.int .i64) a5 fun s3 => asCons r5 fun a6 r6 => asD (.int .i64) a6 fun s4 => asCons r6 fun a7 r7 => asD (.sl (.pair (.int .i64) (.pair (.int .i64) (.pair (.int .i64) (.pair (.int .i64) (.pair (.int .i64) (.pair (.sl (.int .i64)) .unit))))))) a7 fun s5 => asCons r7 fun a8 r8 => asD (.int .i64) a8 fun s6 => asCons r8 fun a9 r9 => asD (.int .i64) a9 fun s7 => asNil r9 <| asCons σ fun a10 r10 => asOne (.pair (.int .i64) (.pair (.sl (.int .i64)) (.pair (.int .i64) (.pair (.sl (.pair (.sl (.pair (.int .i64) (.pair (.int .i64) (.pair (.int .i64) (.pair (.int .i64) (.pair (.int .i64) (.pair (.sl (.int .i64)) .unit))))))) (.pair (.pair (.int .i64) (.pair (.int .i64) (.pair (.int .i64) (.pair (.int .i64) (.pair (.int .i64) (.pair (.sl (.int .i64)) .unit)))))) .unit))) .unit)))) a10 fun a11 => asD (.pair (.int .i64) (.pair (.sl (.int .i64)) (.pair (.int .i64) (.pair (.sl (.pair (.sl (.pair (.int .i64) (.pair (.int .i64) (.pair (.int .i64) (.pair (.int .i64) (.pair (.int .i64) (.pair (.sl (.int .i64)) .unit))))))) (.pair (.pair (.int .i64) (.pair (.int .i64) (.pair (.int .i64) (.pair (.int .i64) (.pair (.int .i64) (.pair (.sl (.int .i64)) .unit)))))) .unit))) .unit)))) a11 fun s8 => asCons r10 fun a12 r12 => asOne (.pair (.sl (.pair (.int .i64) (.pair (.int .i64) (.pair (.int .i64) (.pair (.int .i64) (.pair (.int .i64) (.pair (.sl (.int .i64)) .unit))))))) (.pair (.pair (.int .i64) (.pair (.int .i64) (.pair (.int .i64) (.pair (.int .i64) (.pair (.int .i64) (.pair (.sl (.int .i64)) .unit)))))) .unit)) a12 fun a13 => asD (.pair (.sl (.pair (.int .i64) (.pair (.int .i64) (.pair (.int .i64) (.pair (.int .i64) (.pair (.int .i64) (.pair (.sl (.int .i64)) .unit))))))) (.pair (.pair (.int .i64) (.pair (.int .i64) (.pair (.int .i64) (.pair (.int .i64) (.pair (.int .i64) (.pair (.sl (.int .i64)) .unit)))))) .unit)) a13 fun s9 => asNil r12 <| l30r21 (fun z1 => K .ret [(1, .undef), (2, I z1), (5, .undef), (7, .undef), (56, .undef), (57, .undef), (58, .undef)] []) (fun z1 z2 z3 z4 z5 z6 => K (.exit 4) [(1, .ptr 0 0 []), (2, .undef), (5, I z1), (7, .ptr 1 0 []), (56, .d (.sl (.pair (.sl (.pair (.int .i64) (.pair (.int .i64) (.pair (.int .i64) (.pair (.int .i64) (.pair (.int .i64) (.pair (.sl (.int .i64)) .unit))))))) (.pair (.pair (.int .i64) (.pair (.int .i64) (.pair (.int .i64) (.pair (.int .i64) (.pair (.int .i64) (.pair (.sl (.int .i64)) .unit)))))) .unit))) z2), (57, I z3), (58, I z4)] [.one (.pair (.int .i64) (.pair (.sl (.int .i64)) (.pair (.int .i64) (.pair (.sl (.pair (.sl (.pair (.int .i64) (.pair (.int .i64) (.pair (.int .i64) (.pair (.int .i64) (.pair (.int .i64) (.pair (.sl (.int .i64)) .unit))))))) (.pair (.pair (.int .i64) (.pair (.int .i64) (.pair (.int .i64) (.pair (.int .i64) (.pair (.int .i64) (.pair (.sl (.int .i64)) .unit)))))) .unit))) .unit)))) (.d (.pair (.int .i64) (.pair (.sl (.int .i64)) (.pair (.int .i64) (.pair (.sl (.pair (.sl (.pair (.int .i64) (.pair (.int .i64) (.pair (.int .i64) (.pair (.int .i64) (.pair (.int .i64) (.pair (.sl (.int .i64)) .unit))))))) (.pair (.pair (.int .i64) (.pair (.int .i64) (.pair (.int .i64) (.pair (.int .i64) (.pair (.int .i64) (.pair (.sl (.int .i64)) .unit)))))) .unit))) .unit)))) z5), .one (.pair (.sl (.pair (.int .i64) (.pair (.int .i64) (.pair (.int .i64) (.pair (.int .i64) (.pair (.int .i64) (.pair (.sl (.int .i64)) .unit))))))) (.pair (.pair (.int .i64) (.pair (.int .i64) (.pair (.int .i64) (.pair (.int .i64) (.pair (.int .i64) (.pair (.sl (.int .i64)) .unit)))))) .unit)) (.d (.pair (.sl (.pair (.int .i64) (.pair (.int .i64) (.pair (.int .i64) (.pair (.int .i64) (.pair (.int .i64) (.pair (.sl (.int .i64)) .unit))))))) (.pair (.pair (.int .i64) (.pair (.int .i64) (.pair (.int .i64) (.pair (.int .i64) (.pair (.int .i64) (.pair (.sl (.int .i64)) .unit)))))) .unit)) z6)]) s1 s2 s3 s4 s5 s6 s7 s8 s9
theorem l30r21v : LoopV E (inlF (PA (ACall E)) E 8) (E.info 30).keep 0 Try.f30.ntmps 31000021 (body Try.f30 21) ([1, 5, 7, 56, 57, 58, 70, 71, 72], lsl30r21) := by
  intro vs σ K (h0 : lsl30r21 vs σ K)
  unfold lsl30r21 at h0
  obtain ⟨a1, r1, rfl, h1⟩ := asCons_inv h0; clear h0
  obtain ⟨rfl, h2⟩ := asP_inv h1; clear h1
  obtain ⟨a2, r2, rfl, h3⟩ := asCons_inv h2; clear h2
  obtain ⟨s1, rfl, h4⟩ := asD_inv h3; clear h3
  obtain ⟨a3, r3, rfl, h5⟩ := asCons_inv h4; clear h4
  obtain ⟨rfl, h6⟩ := asP_inv h5; clear h5
  obtain ⟨a4, r4, rfl, h7⟩ := asCons_inv h6; clear h6
  obtain ⟨s2, rfl, h8⟩ := asD_inv h7; clear h7
  obtain ⟨a5, r5, rfl, h9⟩ := asCons_inv h8; clear h8
  obtain ⟨s3, rfl, h10⟩ := asD_inv h9; clear h9
  obtain ⟨a6, r6, rfl, h11⟩ := asCons_inv h10; clear h10
  obtain ⟨s4, rfl, h12⟩ := asD_inv h11; clear h11
  obtain ⟨a7, r7, rfl, h13⟩ := asCons_inv h12; clear h12
  obtain ⟨s5, rfl, h14⟩ := asD_inv h13; clear h13
  obtain ⟨a8, r8, rfl, h15⟩ := asCons_inv h14; clear h14
  obtain ⟨s6, rfl, h16⟩ := asD_inv h15; clear h15
  obtain ⟨a9, r9, rfl, h17⟩ := asCons_inv h16; clear h16
  obtain ⟨s7, rfl, h18⟩ := asD_inv h17; clear h17
  obtain ⟨rfl, h19⟩ := asNil_inv h18; clear h18
  obtain ⟨a10, r10, rfl, h20⟩ := asCons_inv h19; clear h19
  obtain ⟨a11, rfl, h21⟩ := asOne_inv h20; clear h20
  obtain ⟨s8, rfl, h22⟩ := asD_inv h21; clear h21
  obtain ⟨a12, r12, rfl, h23⟩ := asCons_inv h22; clear h22
  obtain ⟨a13, rfl, h24⟩ := asOne_inv h23; clear h23
  obtain ⟨s9, rfl, h25⟩ := asD_inv h24; clear h24
  obtain ⟨rfl, h26⟩ := asNil_inv h25; clear h25
  intro J hJ
  have hp : ∀ c' ∈ subsOf (E.info 30).keep (body Try.f30 21), SubOK E (inlF (PA (ACall E)) E 8) (E.info 30).keep 0 Try.f30.ntmps (lofL Ll30r21) c' := all_eq (by kernel_rfl : subsOf (E.info 30).keep (body Try.f30 21) = []) (all_nil)
  exact h26.of (fun s1 s2 s3 s4 s5 s6 s7 s8 s9 => J [(31000021, .undef), (1, .ptr 0 0 []), (5, I s1), (7, .ptr 1 0 []), (56, .d (.sl (.pair (.sl (.pair (.int .i64) (.pair (.int .i64) (.pair (.int .i64) (.pair (.int .i64) (.pair (.int .i64) (.pair (.sl (.int .i64)) .unit))))))) (.pair (.pair (.int .i64) (.pair (.int .i64) (.pair (.int .i64) (.pair (.int .i64) (.pair (.int .i64) (.pair (.sl (.int .i64)) .unit)))))) .unit))) s2), (57, I s3), (58, I s4), (70, .d (.sl (.pair (.int .i64) (.pair (.int .i64) (.pair (.int .i64) (.pair (.int .i64) (.pair (.int .i64) (.pair (.sl (.int .i64)) .unit))))))) s5), (71, I s6), (72, I s7)] [.one (.pair (.int .i64) (.pair (.sl (.int .i64)) (.pair (.int .i64) (.pair (.sl (.pair (.sl (.pair (.int .i64) (.pair (.int .i64) (.pair (.int .i64) (.pair (.int .i64) (.pair (.int .i64) (.pair (.sl (.int .i64)) .unit))))))) (.pair (.pair (.int .i64) (.pair (.int .i64) (.pair (.int .i64) (.pair (.int .i64) (.pair (.int .i64) (.pair (.sl (.int .i64)) .unit)))))) .unit))) .unit)))) (.d (.pair (.int .i64) (.pair (.sl (.int .i64)) (.pair (.int .i64) (.pair (.sl (.pair (.sl (.pair (.int .i64) (.pair (.int .i64) (.pair (.int .i64) (.pair (.int .i64) (.pair (.int .i64) (.pair (.sl (.int .i64)) .unit))))))) (.pair (.pair (.int .i64) (.pair (.int .i64) (.pair (.int .i64) (.pair (.int .i64) (.pair (.int .i64) (.pair (.sl (.int .i64)) .unit)))))) .unit))) .unit)))) s8), .one (.pair (.sl (.pair (.int .i64) (.pair (.int .i64) (.pair (.int .i64) (.pair (.int .i64) (.pair (.int .i64) (.pair (.sl (.int .i64)) .unit))))))) (.pair (.pair (.int .i64) (.pair (.int .i64) (.pair (.int .i64) (.pair (.int .i64) (.pair (.int .i64) (.pair (.sl (.int .i64)) .unit)))))) .unit)) (.d (.pair (.sl (.pair (.int .i64) (.pair (.int .i64) (.pair (.int .i64) (.pair (.int .i64) (.pair (.int .i64) (.pair (.sl (.int .i64)) .unit))))))) (.pair (.pair (.int .i64) (.pair (.int .i64) (.pair (.int .i64) (.pair (.int .i64) (.pair (.int .i64) (.pair (.sl (.int .i64)) .unit)))))) .unit)) s9)]) (fun s1 s2 s3 s4 s5 s6 s7 s8 s9 hb => loop_round2 (S := ofL Sl30r21) (L := lofL Ll30r21) hSl30r21 (inlOK _) hp hJ (by kernel_rfl) hb)

abbrev Sl96r17 : List (Nat × Pat × Sp) := [(93, none, sp93)]
theorem hSl96r17 : SpecOK E (ofL Sl96r17) := specOK_cons h93 (specOK_nil)
abbrev Ll96r17 : List (Nat × List Nat × Pat × LSp) := []
def lsl96r17 : LSp := fun vs σ K => asCons vs fun a1 r1 => asD (.int .i64) a1 fun s1 => asCons r1 fun a2 r2 => asD (.sl (.int .i64)) a2 fun s2 => asCons r2 fun a3 r3 => asD (.int .i64) a3 fun s3 => asCons r3 fun a4 r4 => asD (.int .i64) a4 fun s4 => asNil r4 <| asNil σ <| l96r17 (fun z1 => K .ret [(6, I z1)] []) (K (.exit 1) [(6, .undef)] []) s1 s2 s3 s4
theorem l96r17v : LoopV E (inlF (PA (ACall E)) E 8) (E.info 96).keep 0 Try.f96.ntmps 97000017 (body Try.f96 17) ([2, 112, 113, 114], lsl96r17) := by
  intro vs σ K (h0 : lsl96r17 vs σ K)
  unfold lsl96r17 at h0
  obtain ⟨a1, r1, rfl, h1⟩ := asCons_inv h0; clear h0
  obtain ⟨s1, rfl, h2⟩ := asD_inv h1; clear h1
  obtain ⟨a2, r2, rfl, h3⟩ := asCons_inv h2; clear h2
  obtain ⟨s2, rfl, h4⟩ := asD_inv h3; clear h3
  obtain ⟨a3, r3, rfl, h5⟩ := asCons_inv h4; clear h4
  obtain ⟨s3, rfl, h6⟩ := asD_inv h5; clear h5
  obtain ⟨a4, r4, rfl, h7⟩ := asCons_inv h6; clear h6
  obtain ⟨s4, rfl, h8⟩ := asD_inv h7; clear h7
  obtain ⟨rfl, h9⟩ := asNil_inv h8; clear h8
  obtain ⟨rfl, h10⟩ := asNil_inv h9; clear h9
  intro J hJ
  have hp : ∀ c' ∈ subsOf (E.info 96).keep (body Try.f96 17), SubOK E (inlF (PA (ACall E)) E 8) (E.info 96).keep 0 Try.f96.ntmps (lofL Ll96r17) c' := all_eq (by kernel_rfl : subsOf (E.info 96).keep (body Try.f96 17) = []) (all_nil)
  exact h10.of (fun s1 s2 s3 s4 => J [(97000017, .undef), (2, I s1), (112, .d (.sl (.int .i64)) s2), (113, I s3), (114, I s4)] []) (fun s1 s2 s3 s4 hb => loop_round2 (S := ofL Sl96r17) (L := lofL Ll96r17) hSl96r17 (inlOK _) hp hJ (by kernel_rfl) hb)

abbrev Sj96r12 : List (Nat × Pat × Sp) := [(93, none, sp93)]
theorem hSj96r12 : SpecOK E (ofL Sj96r12) := specOK_cons h93 (specOK_nil)
abbrev Lj96r12 : List (Nat × List Nat × Pat × LSp) := [(97000017, [2, 112, 113, 114], none, lsl96r17)]
def lsj96r12 : LSp := fun vs σ K => asCons vs fun a1 r1 => asD (.int .i64) a1 fun s1 => asCons r1 fun a2 r2 => asD (.int .i64) a2 fun s2 => asCons r2 fun a3 r3 => asP (.ptr 0 0 []) a3 <| asCons r3 fun a4 r4 => asD (.int .i64) a4 fun s3 => asCons r4 fun a5 r5 => asD .bool a5 fun s4 => asNil r5 <| asCons σ fun a6 r6 => asOne (.pair (.int .i64) (.pair (.int .i64) (.pair (.int .i64) (.pair (.int .i64) (.pair (.int .i64) (.pair (.sl (.int .i64)) .unit)))))) a6 fun a7 => asD (.pair (.int .i64) (.pair (.int .i64) (.pair (.int .i64) (.pair (.int .i64) (.pair (.int .i64) (.pair (.sl (.int .i64)) .unit)))))) a7 fun s5 => asNil r6 <| j96r12 (fun z1 => K .ret [(6, I z1)] []) s1 s2 s3 s4 s5
theorem j96r12v : JoinV E (inlF (PA (ACall E)) E 8) (E.info 96).keep 0 Try.f96.ntmps 97400012 4000012 (jbody Try.f96 4000012) ([1, 2, 3, 7, 8], lsj96r12) := by
  intro vs σ K (h0 : lsj96r12 vs σ K)
  unfold lsj96r12 at h0
  obtain ⟨a1, r1, rfl, h1⟩ := asCons_inv h0; clear h0
  obtain ⟨s1, rfl, h2⟩ := asD_inv h1; clear h1
  obtain ⟨a2, r2, rfl, h3⟩ := asCons_inv h2; clear h2
  obtain ⟨s2, rfl, h4⟩ := asD_inv h3; clear h3
  obtain ⟨a3, r3, rfl, h5⟩ := asCons_inv h4; clear h4
  obtain ⟨rfl, h6⟩ := asP_inv h5; clear h5
  obtain ⟨a4, r4, rfl, h7⟩ := asCons_inv h6; clear h6
  obtain ⟨s3, rfl, h8⟩ := asD_inv h7; clear h7
  obtain ⟨a5, r5, rfl, h9⟩ := asCons_inv h8; clear h8
  obtain ⟨s4, rfl, h10⟩ := asD_inv h9; clear h9
  obtain ⟨rfl, h11⟩ := asNil_inv h10; clear h10
  obtain ⟨a6, r6, rfl, h12⟩ := asCons_inv h11; clear h11
  obtain ⟨a7, rfl, h13⟩ := asOne_inv h12; clear h12
  obtain ⟨s5, rfl, h14⟩ := asD_inv h13; clear h13
  obtain ⟨rfl, h15⟩ := asNil_inv h14; clear h14
  exact join_round2 (S := ofL Sj96r12) (L := lofL Lj96r12) hSj96r12 (inlOK _) (all_eq (by kernel_rfl : subsOf (E.info 96).keep (jbody Try.f96 4000012) = [.loop (body Try.f96 17)]) (all_cons (loopOK_of (mk := 97000017) (sl := [2, 112, 113, 114]) (ss := [([2, 112, 113, 114], lsl96r17)]) (by kernel_rfl) (by kernel_rfl) (all_cons l96r17v (all_nil))) (all_nil))) (by kernel_rfl) h15.of

abbrev S96 : List (Nat × Pat × Sp) := [(93, none, sp93)]
theorem hS96 : SpecOK E (ofL S96) := specOK_cons h93 (specOK_nil)
abbrev L96 : List (Nat × List Nat × Pat × LSp) := [(97400012, [1, 2, 3, 7, 8], none, lsj96r12)]
def sp96 : Sp := fun args τ K => asCons args fun a1 r1 => asD (.pair (.int .i64) (.pair (.int .i64) (.pair (.int .i64) (.pair (.int .i64) (.pair (.int .i64) (.pair (.sl (.int .i64)) .unit)))))) a1 fun x1 => asCons r1 fun a2 r2 => asD (.int .i64) a2 fun x2 => asCons r2 fun a3 r3 => asD (.int .i64) a3 fun x3 => asNil r3 <| asNil τ <| c96 x1 x2 x3 (fun z1 => K (I z1) [])
theorem h96 : ∀ args τ K, sp96 args τ K → ACall E 96 args τ K := by
  intro args τ K h0
  unfold sp96 at h0
  obtain ⟨a1, r1, rfl, h1⟩ := asCons_inv h0; clear h0
  obtain ⟨x1, rfl, h2⟩ := asD_inv h1; clear h1
  obtain ⟨a2, r2, rfl, h3⟩ := asCons_inv h2; clear h2
  obtain ⟨x2, rfl, h4⟩ := asD_inv h3; clear h3
  obtain ⟨a3, r3, rfl, h5⟩ := asCons_inv h4; clear h4
  obtain ⟨x3, rfl, h6⟩ := asD_inv h5; clear h5
  obtain ⟨rfl, h7⟩ := asNil_inv h6; clear h6
  obtain ⟨rfl, h8⟩ := asNil_inv h7; clear h7
  exact ACall.spec2 (fn := Try.f96) (c := codeOf Try.f96) (S := ofL S96) (L := lofL L96) hS96 (by kernel_rfl) (by kernel_rfl) (inlOK _) (all_eq (by kernel_rfl : subsOf (E.info 96).keep (codeOf Try.f96) = [.join 4000012 (jbody Try.f96 4000012)]) (all_cons (joinOK_of (mk := 97400012) (sl := [1, 2, 3, 7, 8]) (ss := [([1, 2, 3, 7, 8], lsj96r12)]) (by kernel_rfl) (by kernel_rfl) (all_cons j96r12v (all_nil))) (all_nil))) (by kernel_rfl) h8.of

abbrev Sl30r15 : List (Nat × Pat × Sp) := [(96, none, sp96)]
theorem hSl30r15 : SpecOK E (ofL Sl30r15) := specOK_cons h96 (specOK_nil)
abbrev Ll30r15 : List (Nat × List Nat × Pat × LSp) := [(31000021, [1, 5, 7, 56, 57, 58, 70, 71, 72], none, lsl30r21)]
def lsl30r15 : LSp := fun vs σ K => asCons vs fun a1 r1 => asP (.ptr 0 0 []) a1 <| asCons r1 fun a2 r2 => asD (.int .i64) a2 fun s1 => asCons r2 fun a3 r3 => asD (.sl (.pair (.sl (.pair (.int .i64) (.pair (.int .i64) (.pair (.int .i64) (.pair (.int .i64) (.pair (.int .i64) (.pair (.sl (.int .i64)) .unit))))))) (.pair (.pair (.int .i64) (.pair (.int .i64) (.pair (.int .i64) (.pair (.int .i64) (.pair (.int .i64) (.pair (.sl (.int .i64)) .unit)))))) .unit))) a3 fun s2 => asCons r3 fun a4 r4 => asD (.int .i64) a4 fun s3 => asCons r4 fun a5 r5 => asD (.int .i64) a5 fun s4 => asNil r5 <| asCons σ fun a6 r6 => asOne (.pair (.int .i64) (.pair (.sl (.int .i64)) (.pair (.int .i64) (.pair (.sl (.pair (.sl (.pair (.int .i64) (.pair (.int .i64) (.pair (.int .i64) (.pair (.int .i64) (.pair (.int .i64) (.pair (.sl (.int .i64)) .unit))))))) (.pair (.pair (.int .i64) (.pair (.int .i64) (.pair (.int .i64) (.pair (.int .i64) (.pair (.int .i64) (.pair (.sl (.int .i64)) .unit)))))) .unit))) .unit)))) a6 fun a7 => asD (.pair (.int .i64) (.pair (.sl (.int .i64)) (.pair (.int .i64) (.pair (.sl (.pair (.sl (.pair (.int .i64) (.pair (.int .i64) (.pair (.int .i64) (.pair (.int .i64) (.pair (.int .i64) (.pair (.sl (.int .i64)) .unit))))))) (.pair (.pair (.int .i64) (.pair (.int .i64) (.pair (.int .i64) (.pair (.int .i64) (.pair (.int .i64) (.pair (.sl (.int .i64)) .unit)))))) .unit))) .unit)))) a7 fun s5 => asNil r6 <| l30r15 (fun z1 => K .ret [(1, .undef), (2, I z1)] []) (fun z1 => K (.exit 2) [(1, .ptr 0 0 []), (2, .undef)] [.one (.pair (.int .i64) (.pair (.sl (.int .i64)) (.pair (.int .i64) (.pair (.sl (.pair (.sl (.pair (.int .i64) (.pair (.int .i64) (.pair (.int .i64) (.pair (.int .i64) (.pair (.int .i64) (.pair (.sl (.int .i64)) .unit))))))) (.pair (.pair (.int .i64) (.pair (.int .i64) (.pair (.int .i64) (.pair (.int .i64) (.pair (.int .i64) (.pair (.sl (.int .i64)) .unit)))))) .unit))) .unit)))) (.d (.pair (.int .i64) (.pair (.sl (.int .i64)) (.pair (.int .i64) (.pair (.sl (.pair (.sl (.pair (.int .i64) (.pair (.int .i64) (.pair (.int .i64) (.pair (.int .i64) (.pair (.int .i64) (.pair (.sl (.int .i64)) .unit))))))) (.pair (.pair (.int .i64) (.pair (.int .i64) (.pair (.int .i64) (.pair (.int .i64) (.pair (.int .i64) (.pair (.sl (.int .i64)) .unit)))))) .unit))) .unit)))) z1)]) s1 s2 s3 s4 s5
theorem l30r15v : LoopV E (inlF (PA (ACall E)) E 8) (E.info 30).keep 0 Try.f30.ntmps 31000015 (body Try.f30 15) ([1, 5, 56, 57, 58], lsl30r15) := by
  intro vs σ K (h0 : lsl30r15 vs σ K)
  unfold lsl30r15 at h0
  obtain ⟨a1, r1, rfl, h1⟩ := asCons_inv h0; clear h0
  obtain ⟨rfl, h2⟩ := asP_inv h1; clear h1
  obtain ⟨a2, r2, rfl, h3⟩ := asCons_inv h2; clear h2
  obtain ⟨s1, rfl, h4⟩ := asD_inv h3; clear h3
  obtain ⟨a3, r3, rfl, h5⟩ := asCons_inv h4; clear h4
  obtain ⟨s2, rfl, h6⟩ := asD_inv h5; clear h5
  obtain ⟨a4, r4, rfl, h7⟩ := asCons_inv h6; clear h6
  obtain ⟨s3, rfl, h8⟩ := asD_inv h7; clear h7
  obtain ⟨a5, r5, rfl, h9⟩ := asCons_inv h8; clear h8
  obtain ⟨s4, rfl, h10⟩ := asD_inv h9; clear h9
  obtain ⟨rfl, h11⟩ := asNil_inv h10; clear h10
  obtain ⟨a6, r6, rfl, h12⟩ := asCons_inv h11; clear h11
  obtain ⟨a7, rfl, h13⟩ := asOne_inv h12; clear h12
  obtain ⟨s5, rfl, h14⟩ := asD_inv h13; clear h13
  obtain ⟨rfl, h15⟩ := asNil_inv h14; clear h14
  intro J hJ
  have hp : ∀ c' ∈ subsOf (E.info 30).keep (body Try.f30 15), SubOK E (inlF (PA (ACall E)) E 8) (E.info 30).keep 0 Try.f30.ntmps (lofL Ll30r15) c' := all_eq (by kernel_rfl : subsOf (E.info 30).keep (body Try.f30 15) = [.loop (body Try.f30 21)]) (all_cons (loopOK_of (mk := 31000021) (sl := [1, 5, 7, 56, 57, 58, 70, 71, 72]) (ss := [([1, 5, 7, 56, 57, 58, 70, 71, 72], lsl30r21)]) (by kernel_rfl) (by kernel_rfl) (all_cons l30r21v (all_nil))) (all_nil))
  exact h15.of (fun s1 s2 s3 s4 s5 => J [(31000015, .undef), (1, .ptr 0 0 []), (5, I s1), (56, .d (.sl (.pair (.sl (.pair (.int .i64) (.pair (.int .i64) (.pair (.int .i64) (.pair (.int .i64) (.pair (.int .i64) (.pair (.sl (.int .i64)) .unit))))))) (.pair (.pair (.int .i64) (.pair (.int .i64) (.pair (.int .i64) (.pair (.int .i64) (.pair (.int .i64) (.pair (.sl (.int .i64)) .unit)))))) .unit))) s2), (57, I s3), (58, I s4)] [.one (.pair (.int .i64) (.pair (.sl (.int .i64)) (.pair (.int .i64) (.pair (.sl (.pair (.sl (.pair (.int .i64) (.pair (.int .i64) (.pair (.int .i64) (.pair (.int .i64) (.pair (.int .i64) (.pair (.sl (.int .i64)) .unit))))))) (.pair (.pair (.int .i64) (.pair (.int .i64) (.pair (.int .i64) (.pair (.int .i64) (.pair (.int .i64) (.pair (.sl (.int .i64)) .unit)))))) .unit))) .unit)))) (.d (.pair (.int .i64) (.pair (.sl (.int .i64)) (.pair (.int .i64) (.pair (.sl (.pair (.sl (.pair (.int .i64) (.pair (.int .i64) (.pair (.int .i64) (.pair (.int .i64) (.pair (.int .i64) (.pair (.sl (.int .i64)) .unit))))))) (.pair (.pair (.int .i64) (.pair (.int .i64) (.pair (.int .i64) (.pair (.int .i64) (.pair (.int .i64) (.pair (.sl (.int .i64)) .unit)))))) .unit))) .unit)))) s5)]) (fun s1 s2 s3 s4 s5 hb => loop_round2 (S := ofL Sl30r15) (L := lofL Ll30r15) hSl30r15 (inlOK _) hp hJ (by kernel_rfl) hb)

abbrev Sl97r3 : List (Nat × Pat × Sp) := []
theorem hSl97r3 : SpecOK E (ofL Sl97r3) := specOK_nil
abbrev Ll97r3 : List (Nat × List Nat × Pat × LSp) := []
def lsl97r3 : LSp := fun vs σ K => asCons vs fun a1 r1 => asP (.ptr 0 0 []) a1 <| asCons r1 fun a2 r2 => asP (.vec 1) a2 <| asCons r2 fun a3 r3 => asD (.int .i64) a3 fun s1 => asCons r3 fun a4 r4 => asD (.int .i64) a4 fun s2 => asNil r4 <| asCons σ fun a5 r5 => asOne (.pair (.int .i64) (.pair (.sl (.int .i64)) (.pair (.int .i64) (.pair (.sl (.pair (.sl (.pair (.int .i64) (.pair (.int .i64) (.pair (.int .i64) (.pair (.int .i64) (.pair (.int .i64) (.pair (.sl (.int .i64)) .unit))))))) (.pair (.pair (.int .i64) (.pair (.int .i64) (.pair (.int .i64) (.pair (.int .i64) (.pair (.int .i64) (.pair (.sl (.int .i64)) .unit)))))) .unit))) .unit)))) a5 fun a6 => asD (.pair (.int .i64) (.pair (.sl (.int .i64)) (.pair (.int .i64) (.pair (.sl (.pair (.sl (.pair (.int .i64) (.pair (.int .i64) (.pair (.int .i64) (.pair (.int .i64) (.pair (.int .i64) (.pair (.sl (.int .i64)) .unit))))))) (.pair (.pair (.int .i64) (.pair (.int .i64) (.pair (.int .i64) (.pair (.int .i64) (.pair (.int .i64) (.pair (.sl (.int .i64)) .unit)))))) .unit))) .unit)))) a6 fun s3 => asCons r5 fun a7 r7 => asRw (.sl .bool) false a7 fun s4 => asNil r7 <| l97r3 (fun z1 z2 => K (.exit 0) [(1, .ptr 0 0 []), (3, .vec 1)] [.one (.pair (.int .i64) (.pair (.sl (.int .i64)) (.pair (.int .i64) (.pair (.sl (.pair (.sl (.pair (.int .i64) (.pair (.int .i64) (.pair (.int .i64) (.pair (.int .i64) (.pair (.int .i64) (.pair (.sl (.int .i64)) .unit))))))) (.pair (.pair (.int .i64) (.pair (.int .i64) (.pair (.int .i64) (.pair (.int .i64) (.pair (.int .i64) (.pair (.sl (.int .i64)) .unit)))))) .unit))) .unit)))) (.d (.pair (.int .i64) (.pair (.sl (.int .i64)) (.pair (.int .i64) (.pair (.sl (.pair (.sl (.pair (.int .i64) (.pair (.int .i64) (.pair (.int .i64) (.pair (.int .i64) (.pair (.int .i64) (.pair (.sl (.int .i64)) .unit))))))) (.pair (.pair (.int .i64) (.pair (.int .i64) (.pair (.int .i64) (.pair (.int .i64) (.pair (.int .i64) (.pair (.sl (.int .i64)) .unit)))))) .unit))) .unit)))) z1), .row (.sl .bool) z2 false]) s1 s2 s3 s4
theorem l97r3v : LoopV E (inlF (PA (ACall E)) E 8) (E.info 97).keep 0 Try.f97.ntmps 98000003 (body Try.f97 3) ([1, 3, 13, 14], lsl97r3) := by
  intro vs σ K (h0 : lsl97r3 vs σ K)
  unfold lsl97r3 at h0
  obtain ⟨a1, r1, rfl, h1⟩ := asCons_inv h0; clear h0
  obtain ⟨rfl, h2⟩ := asP_inv h1; clear h1
  obtain ⟨a2, r2, rfl, h3⟩ := asCons_inv h2; clear h2
  obtain ⟨rfl, h4⟩ := asP_inv h3; clear h3
  obtain ⟨a3, r3, rfl, h5⟩ := asCons_inv h4; clear h4
  obtain ⟨s1, rfl, h6⟩ := asD_inv h5; clear h5
  obtain ⟨a4, r4, rfl, h7⟩ := asCons_inv h6; clear h6
  obtain ⟨s2, rfl, h8⟩ := asD_inv h7; clear h7
  obtain ⟨rfl, h9⟩ := asNil_inv h8; clear h8
  obtain ⟨a5, r5, rfl, h10⟩ := asCons_inv h9; clear h9
  obtain ⟨a6, rfl, h11⟩ := asOne_inv h10; clear h10
  obtain ⟨s3, rfl, h12⟩ := asD_inv h11; clear h11
  obtain ⟨a7, r7, rfl, h13⟩ := asCons_inv h12; clear h12
  obtain ⟨s4, rfl, h14⟩ := asRw_inv h13; clear h13
  obtain ⟨rfl, h15⟩ := asNil_inv h14; clear h14
  intro J hJ
  have hp : ∀ c' ∈ subsOf (E.info 97).keep (body Try.f97 3), SubOK E (inlF (PA (ACall E)) E 8) (E.info 97).keep 0 Try.f97.ntmps (lofL Ll97r3) c' := all_eq (by kernel_rfl : subsOf (E.info 97).keep (body Try.f97 3) = []) (all_nil)
  exact h15.of (fun s1 s2 s3 s4 => J [(98000003, .undef), (1, .ptr 0 0 []), (3, .vec 1), (13, I s1), (14, I s2)] [.one (.pair (.int .i64) (.pair (.sl (.int .i64)) (.pair (.int .i64) (.pair (.sl (.pair (.sl (.pair (.int .i64) (.pair (.int .i64) (.pair (.int .i64) (.pair (.int .i64) (.pair (.int .i64) (.pair (.sl (.int .i64)) .unit))))))) (.pair (.pair (.int .i64) (.pair (.int .i64) (.pair (.int .i64) (.pair (.int .i64) (.pair (.int .i64) (.pair (.sl (.int .i64)) .unit)))))) .unit))) .unit)))) (.d (.pair (.int .i64) (.pair (.sl (.int .i64)) (.pair (.int .i64) (.pair (.sl (.pair (.sl (.pair (.int .i64) (.pair (.int .i64) (.pair (.int .i64) (.pair (.int .i64) (.pair (.int .i64) (.pair (.sl (.int .i64)) .unit))))))) (.pair (.pair (.int .i64) (.pair (.int .i64) (.pair (.int .i64) (.pair (.int .i64) (.pair (.int .i64) (.pair (.sl (.int .i64)) .unit)))))) .unit))) .unit)))) s3), .row (.sl .bool) s4 false]) (fun s1 s2 s3 s4 hb => loop_round2 (S := ofL Sl97r3) (L := lofL Ll97r3) hSl97r3 (inlOK _) hp hJ (by kernel_rfl) hb)

abbrev Sl101r6 : List (Nat × Pat × Sp) := []
theorem hSl101r6 : SpecOK E (ofL Sl101r6) := specOK_nil
abbrev Ll101r6 : List (Nat × List Nat × Pat × LSp) := []
def lsl101r6 : LSp := fun vs σ K => asCons vs fun a1 r1 => asD (.sl (.sl .bool)) a1 fun s1 => asCons r1 fun a2 r2 => asP (.vec 0) a2 <| asCons r2 fun a3 r3 => asD (.sl (.int .i64)) a3 fun s2 => asCons r3 fun a4 r4 => asD (.int .i64) a4 fun s3 => asCons r4 fun a5 r5 => asD (.int .i64) a5 fun s4 => asCons r5 fun a6 r6 => asD (.sl .bool) a6 fun s5 => asCons r6 fun a7 r7 => asD (.int .i64) a7 fun s6 => asCons r7 fun a8 r8 => asD (.int .i64) a8 fun s7 => asNil r8 <| asCons σ fun a9 r9 => asRw .bool false a9 fun s8 => asNil r9 <| l101r6 (fun z1 z2 z3 z4 z5 => K (.exit 2) [(1, .d (.sl (.sl .bool)) z1), (7, .vec 0), (21, .d (.sl (.int .i64)) z2), (22, I z3), (23, I z4)] [.row .bool z5 false]) s1 s2 s3 s4 s5 s6 s7 s8
theorem l101r6v : LoopV E (inlF (PA (ACall E)) E 8) (E.info 101).keep 0 Try.f101.ntmps 102000006 (body Try.f101 6) ([1, 7, 21, 22, 23, 30, 31, 32], lsl101r6) := by
  intro vs σ K (h0 : lsl101r6 vs σ K)
  unfold lsl101r6 at h0
  obtain ⟨a1, r1, rfl, h1⟩ := asCons_inv h0; clear h0
  obtain ⟨s1, rfl, h2⟩ := asD_inv h1; clear h1
  obtain ⟨a2, r2, rfl, h3⟩ := asCons_inv h2; clear h2
  obtain ⟨rfl, h4⟩ := asP_inv h3; clear h3
  obtain ⟨a3, r3, rfl, h5⟩ := asCons_inv h4; clear h4
  obtain ⟨s2, rfl, h6⟩ := asD_inv h5; clear h5
  obtain ⟨a4, r4, rfl, h7⟩ := asCons_inv h6; clear h6
  obtain ⟨s3, rfl, h8⟩ := asD_inv h7; clear h7
  obtain ⟨a5, r5, rfl, h9⟩ := asCons_inv h8; clear h8
  obtain ⟨s4, rfl, h10⟩ := asD_inv h9; clear h9
  obtain ⟨a6, r6, rfl, h11⟩ := asCons_inv h10; clear h10
  obtain ⟨s5, rfl, h12⟩ := asD_inv h11; clear h11
  obtain ⟨a7, r7, rfl, h13⟩ := asCons_inv h12; clear h12
  obtain ⟨s6, rfl, h14⟩ := asD_inv h13; clear h13
  obtain ⟨a8, r8, rfl, h15⟩ := asCons_inv h14; clear h14
  obtain ⟨s7, rfl, h16⟩ := asD_inv h15; clear h15
  obtain ⟨rfl, h17⟩ := asNil_inv h16; clear h16
  obtain ⟨a9, r9, rfl, h18⟩ := asCons_inv h17; clear h17
  obtain ⟨s8, rfl, h19⟩ := asRw_inv h18; clear h18
  obtain ⟨rfl, h20⟩ := asNil_inv h19; clear h19
  intro J hJ
  have hp : ∀ c' ∈ subsOf (E.info 101).keep (body Try.f101 6), SubOK E (inlF (PA (ACall E)) E 8) (E.info 101).keep 0 Try.f101.ntmps (lofL Ll101r6) c' := all_eq (by kernel_rfl : subsOf (E.info 101).keep (body Try.f101 6) = []) (all_nil)
  exact h20.of (fun s1 s2 s3 s4 s5 s6 s7 s8 => J [(102000006, .undef), (1, .d (.sl (.sl .bool)) s1), (7, .vec 0), (21, .d (.sl (.int .i64)) s2), (22, I s3), (23, I s4), (30, .d (.sl .bool) s5), (31, I s6), (32, I s7)] [.row .bool s8 false]) (fun s1 s2 s3 s4 s5 s6 s7 s8 hb => loop_round2 (S := ofL Sl101r6) (L := lofL Ll101r6) hSl101r6 (inlOK _) hp hJ (by kernel_rfl) hb)

abbrev Sl101r3 : List (Nat × Pat × Sp) := []
theorem hSl101r3 : SpecOK E (ofL Sl101r3) := specOK_nil
abbrev Ll101r3 : List (Nat × List Nat × Pat × LSp) := [(102000006, [1, 7, 21, 22, 23, 30, 31, 32], none, lsl101r6)]
def lsl101r3 : LSp := fun vs σ K => asCons vs fun a1 r1 => asD (.sl (.sl .bool)) a1 fun s1 => asCons r1 fun a2 r2 => asP (.vec 0) a2 <| asCons r2 fun a3 r3 => asD (.sl (.int .i64)) a3 fun s2 => asCons r3 fun a4 r4 => asD (.int .i64) a4 fun s3 => asCons r4 fun a5 r5 => asD (.int .i64) a5 fun s4 => asNil r5 <| asCons σ fun a6 r6 => asRw .bool false a6 fun s5 => asNil r6 <| l101r3 (fun z1 => K (.exit 0) [(7, .vec 0)] [.row .bool z1 false]) s1 s2 s3 s4 s5
theorem l101r3v : LoopV E (inlF (PA (ACall E)) E 8) (E.info 101).keep 0 Try.f101.ntmps 102000003 (body Try.f101 3) ([1, 7, 21, 22, 23], lsl101r3) := by
  intro vs σ K (h0 : lsl101r3 vs σ K)
  unfold lsl101r3 at h0
  obtain ⟨a1, r1, rfl, h1⟩ := asCons_inv h0; clear h0
  obtain ⟨s1, rfl, h2⟩ := asD_inv h1; clear h1
  obtain ⟨a2, r2, rfl, h3⟩ := asCons_inv h2; clear h2
  obtain ⟨rfl, h4⟩ := asP_inv h3; clear h3
  obtain ⟨a3, r3, rfl, h5⟩ := asCons_inv h4; clear h4
  obtain ⟨s2, rfl, h6⟩ := asD_inv h5; clear h5
  obtain ⟨a4, r4, rfl, h7⟩ := asCons_inv h6; clear h6
  obtain ⟨s3, rfl, h8⟩ := asD_inv h7; clear h7
  obtain ⟨a5, r5, rfl, h9⟩ := asCons_inv h8; clear h8
  obtain ⟨s4, rfl, h10⟩ := asD_inv h9; clear h9
  obtain ⟨rfl, h11⟩ := asNil_inv h10; clear h10
  obtain ⟨a6, r6, rfl, h12⟩ := asCons_inv h11; clear h11
  obtain ⟨s5, rfl, h13⟩ := asRw_inv h12; clear h12
  obtain ⟨rfl, h14⟩ := asNil_inv h13; clear h13
  intro J hJ
  have hp : ∀ c' ∈ subsOf (E.info 101).keep (body Try.f101 3), SubOK E (inlF (PA (ACall E)) E 8) (E.info 101).keep 0 Try.f101.ntmps (lofL Ll101r3) c' := all_eq (by kernel_rfl : subsOf (E.info 101).keep (body Try.f101 3) = [.loop (body Try.f101 6)]) (all_cons (loopOK_of (mk := 102000006) (sl := [1, 7, 21, 22, 23, 30, 31, 32]) (ss := [([1, 7, 21, 22, 23, 30, 31, 32], lsl101r6)]) (by kernel_rfl) (by kernel_rfl) (all_cons l101r6v (all_nil))) (all_nil))
  exact h14.of (fun s1 s2 s3 s4 s5 => J [(102000003, .undef), (1, .d (.sl (.sl .bool)) s1), (7, .vec 0), (21, .d (.sl (.int .i64)) s2), (22, I s3), (23, I s4)] [.row .bool s5 false]) (fun s1 s2 s3 s4 s5 hb => loop_round2 (S := ofL Sl101r3) (L := lofL Ll101r3) hSl101r3 (inlOK _) hp hJ (by kernel_rfl) hb)

abbrev S101 : List (Nat × Pat × Sp) := []
theorem hS101 : SpecOK E (ofL S101) := specOK_nil
abbrev L101 : List (Nat × List Nat × Pat × LSp) := [(102000003, [1, 7, 21, 22, 23], none, lsl101r3)]
def sp101 : Sp := fun args τ K => asCons args fun a1 r1 => asD (.pair (.int .i64) (.pair (.sl (.int .i64)) (.pair (.int .i64) (.pair (.sl (.pair (.sl (.pair (.int .i64) (.pair (.int .i64) (.pair (.int .i64) (.pair (.int .i64) (.pair (.int .i64) (.pair (.sl (.int .i64)) .unit))))))) (.pair (.pair (.int .i64) (.pair (.int .i64) (.pair (.int .i64) (.pair (.int .i64) (.pair (.int .i64) (.pair (.sl (.int .i64)) .unit)))))) .unit))) .unit)))) a1 fun x1 => asCons r1 fun a2 r2 => asD (.sl (.sl .bool)) a2 fun x2 => asCons r2 fun a3 r3 => asD (.int .i64) a3 fun x3 => asNil r3 <| asNil τ <| c101 x1 x2 x3 (fun z1 => K (.vec 0) [.row .bool z1 false])
theorem h101 : ∀ args τ K, sp101 args τ K → ACall E 101 args τ K := by
  intro args τ K h0
  unfold sp101 at h0
  obtain ⟨a1, r1, rfl, h1⟩ := asCons_inv h0; clear h0
  obtain ⟨x1, rfl, h2⟩ := asD_inv h1; clear h1
  obtain ⟨a2, r2, rfl, h3⟩ := asCons_inv h2; clear h2
  obtain ⟨x2, rfl, h4⟩ := asD_inv h3; clear h3
  obtain ⟨a3, r3, rfl, h5⟩ := asCons_inv h4; clear h4
  obtain ⟨x3, rfl, h6⟩ := asD_inv h5; clear h5
  obtain ⟨rfl, h7⟩ := asNil_inv h6; clear h6
  obtain ⟨rfl, h8⟩ := asNil_inv h7; clear h7
  exact ACall.spec2 (fn := Try.f101) (c := codeOf Try.f101) (S := ofL S101) (L := lofL L101) hS101 (by kernel_rfl) (by kernel_rfl) (inlOK _) (all_eq (by kernel_rfl : subsOf (E.info 101).keep (codeOf Try.f101) = [.loop (body Try.f101 3)]) (all_cons (loopOK_of (mk := 102000003) (sl := [1, 7, 21, 22, 23]) (ss := [([1, 7, 21, 22, 23], lsl101r3)]) (by kernel_rfl) (by kernel_rfl) (all_cons l101r3v (all_nil))) (all_nil))) (by kernel_rfl) h8.of

abbrev S92 : List (Nat × Pat × Sp) := []
theorem hS92 : SpecOK E (ofL S92) := specOK_nil
abbrev L92 : List (Nat × List Nat × Pat × LSp) := []
def sp92 : Sp := fun args τ K => asCons args fun a1 r1 => asD (.int .i64) a1 fun x1 => asNil r1 <| asNil τ <| c92 x1 (fun z1 => K (B z1) [])
theorem h92 : ∀ args τ K, sp92 args τ K → ACall E 92 args τ K := by
  intro args τ K h0
  unfold sp92 at h0
  obtain ⟨a1, r1, rfl, h1⟩ := asCons_inv h0; clear h0
  obtain ⟨x1, rfl, h2⟩ := asD_inv h1; clear h1
  obtain ⟨rfl, h3⟩ := asNil_inv h2; clear h2
  obtain ⟨rfl, h4⟩ := asNil_inv h3; clear h3
  exact ACall.spec2 (fn := Try.f92) (c := codeOf Try.f92) (S := ofL S92) (L := lofL L92) hS92 (by kernel_rfl) (by kernel_rfl) (inlOK _) (all_eq (by kernel_rfl : subsOf (E.info 92).keep (codeOf Try.f92) = []) (all_nil)) (by kernel_rfl) h4.of

abbrev Sl169r2 : List (Nat × Pat × Sp) := [(92, none, sp92)]
theorem hSl169r2 : SpecOK E (ofL Sl169r2) := specOK_cons h92 (specOK_nil)
abbrev Ll169r2 : List (Nat × List Nat × Pat × LSp) := []
def lsl169r2 : LSp := fun vs σ K => asCons vs fun a1 r1 => asD (.sl (.int .i64)) a1 fun s1 => asCons r1 fun a2 r2 => asFn 92 a2 fun l3 l4 => asNil l3 <| asNil l4 <| asCons r2 fun a5 r5 => asD (.int .i64) a5 fun s2 => asCons r5 fun a6 r6 => asD (.int .i64) a6 fun s3 => asNil r6 <| asNil σ <| l169r2 (fun z1 => K .ret [(4, I z1)] []) (K (.exit 0) [(4, .undef)] []) s1 s2 s3
theorem l169r2v : LoopV E (inlF (PA (ACall E)) E 8) (E.info 169).keep 0 Try.f169.ntmps 170000002 (body Try.f169 2) ([0, 1, 7, 8], lsl169r2) := by
  intro vs σ K (h0 : lsl169r2 vs σ K)
  unfold lsl169r2 at h0
  obtain ⟨a1, r1, rfl, h1⟩ := asCons_inv h0; clear h0
  obtain ⟨s1, rfl, h2⟩ := asD_inv h1; clear h1
  obtain ⟨a2, r2, rfl, h3⟩ := asCons_inv h2; clear h2
  obtain ⟨l3, l4, rfl, h4⟩ := asFn_inv h3; clear h3
  obtain ⟨rfl, h5⟩ := asNil_inv h4; clear h4
  obtain ⟨rfl, h6⟩ := asNil_inv h5; clear h5
  obtain ⟨a5, r5, rfl, h7⟩ := asCons_inv h6; clear h6
  obtain ⟨s2, rfl, h8⟩ := asD_inv h7; clear h7
  obtain ⟨a6, r6, rfl, h9⟩ := asCons_inv h8; clear h8
  obtain ⟨s3, rfl, h10⟩ := asD_inv h9; clear h9
  obtain ⟨rfl, h11⟩ := asNil_inv h10; clear h10
  obtain ⟨rfl, h12⟩ := asNil_inv h11; clear h11
  intro J hJ
  have hp : ∀ c' ∈ subsOf (E.info 169).keep (body Try.f169 2), SubOK E (inlF (PA (ACall E)) E 8) (E.info 169).keep 0 Try.f169.ntmps (lofL Ll169r2) c' := all_eq (by kernel_rfl : subsOf (E.info 169).keep (body Try.f169 2) = []) (all_nil)
  exact h12.of (fun s1 s2 s3 => J [(170000002, .undef), (0, .d (.sl (.int .i64)) s1), (1, .fn 92 [] []), (7, I s2), (8, I s3)] []) (fun s1 s2 s3 hb => loop_round2 (S := ofL Sl169r2) (L := lofL Ll169r2) hSl169r2 (inlOK _) hp hJ (by kernel_rfl) hb)

abbrev S169 : List (Nat × Pat × Sp) := []
theorem hS169 : SpecOK E (ofL S169) := specOK_nil
abbrev L169 : List (Nat × List Nat × Pat × LSp) := [(170000002, [0, 1, 7, 8], none, lsl169r2)]
def sp169 : Sp := fun args τ K => asCons args fun a1 r1 => asD (.sl (.int .i64)) a1 fun x1 => asCons r1 fun a2 r2 => asFn 92 a2 fun l3 l4 => asNil l3 <| asNil l4 <| asNil r2 <| asNil τ <| c169 x1 (fun z1 => K (I z1) [])
theorem h169 : ∀ args τ K, sp169 args τ K → ACall E 169 args τ K := by
  intro args τ K h0
  unfold sp169 at h0
  obtain ⟨a1, r1, rfl, h1⟩ := asCons_inv h0; clear h0
  obtain ⟨x1, rfl, h2⟩ := asD_inv h1; clear h1
  obtain ⟨a2, r2, rfl, h3⟩ := asCons_inv h2; clear h2
  obtain ⟨l3, l4, rfl, h4⟩ := asFn_inv h3; clear h3
  obtain ⟨rfl, h5⟩ := asNil_inv h4; clear h4
  obtain ⟨rfl, h6⟩ := asNil_inv h5; clear h5
  obtain ⟨rfl, h7⟩ := asNil_inv h6; clear h6
  obtain ⟨rfl, h8⟩ := asNil_inv h7; clear h7
  exact ACall.spec2 (fn := Try.f169) (c := codeOf Try.f169) (S := ofL S169) (L := lofL L169) hS169 (by kernel_rfl) (by kernel_rfl) (inlOK _) (all_eq (by kernel_rfl : subsOf (E.info 169).keep (codeOf Try.f169) = [.loop (body Try.f169 2)]) (all_cons (loopOK_of (mk := 170000002) (sl := [0, 1, 7, 8]) (ss := [([0, 1, 7, 8], lsl169r2)]) (by kernel_rfl) (by kernel_rfl) (all_cons l169r2v (all_nil))) (all_nil))) (by kernel_rfl) h8.of

abbrev Sl90r5 : List (Nat × Pat × Sp) := [(92, none, sp92)]
theorem hSl90r5 : SpecOK E (ofL Sl90r5) := specOK_cons h92 (specOK_nil)
abbrev Ll90r5 : List (Nat × List Nat × Pat × LSp) := []
def lsl90r5 : LSp := fun vs σ K => asCons vs fun a1 r1 => asP (.vec 0) a1 <| asCons r1 fun a2 r2 => asFn 92 a2 fun l3 l4 => asNil l3 <| asNil l4 <| asCons r2 fun a5 r5 => asD (.int .i64) a5 fun s1 => asCons r5 fun a6 r6 => asD (.int .i64) a6 fun s2 => asNil r6 <| asCons σ fun a7 r7 => asRw (.int .i64) false a7 fun s3 => asNil r7 <| l90r5 (fun z1 z2 => K (.exit 0) [(0, .vec 0), (5, I z1)] [.row (.int .i64) z2 false]) s1 s2 s3
theorem l90r5v : LoopV E (inlF (PA (ACall E)) E 8) (E.info 90).keep 1 Try.f90.ntmps 91000005 (body Try.f90 5) ([0, 1, 5, 6], lsl90r5) := by
  intro vs σ K (h0 : lsl90r5 vs σ K)
  unfold lsl90r5 at h0
  obtain ⟨a1, r1, rfl, h1⟩ := asCons_inv h0; clear h0
  obtain ⟨rfl, h2⟩ := asP_inv h1; clear h1
  obtain ⟨a2, r2, rfl, h3⟩ := asCons_inv h2; clear h2
  obtain ⟨l3, l4, rfl, h4⟩ := asFn_inv h3; clear h3
  obtain ⟨rfl, h5⟩ := asNil_inv h4; clear h4
  obtain ⟨rfl, h6⟩ := asNil_inv h5; clear h5
  obtain ⟨a5, r5, rfl, h7⟩ := asCons_inv h6; clear h6
  obtain ⟨s1, rfl, h8⟩ := asD_inv h7; clear h7
  obtain ⟨a6, r6, rfl, h9⟩ := asCons_inv h8; clear h8
  obtain ⟨s2, rfl, h10⟩ := asD_inv h9; clear h9
  obtain ⟨rfl, h11⟩ := asNil_inv h10; clear h10
  obtain ⟨a7, r7, rfl, h12⟩ := asCons_inv h11; clear h11
  obtain ⟨s3, rfl, h13⟩ := asRw_inv h12; clear h12
  obtain ⟨rfl, h14⟩ := asNil_inv h13; clear h13
  intro J hJ
  have hp : ∀ c' ∈ subsOf (E.info 90).keep (body Try.f90 5), SubOK E (inlF (PA (ACall E)) E 8) (E.info 90).keep 1 Try.f90.ntmps (lofL Ll90r5) c' := all_eq (by kernel_rfl : subsOf (E.info 90).keep (body Try.f90 5) = []) (all_nil)
  exact h14.of (fun s1 s2 s3 => J [(91000005, .undef), (0, .vec 0), (1, .fn 92 [] []), (5, I s1), (6, I s2)] [.row (.int .i64) s3 false]) (fun s1 s2 s3 hb => loop_round2 (S := ofL Sl90r5) (L := lofL Ll90r5) hSl90r5 (inlOK _) hp hJ (by kernel_rfl) hb)

abbrev S90 : List (Nat × Pat × Sp) := [(169, none, sp169)]
theorem hS90 : SpecOK E (ofL S90) := specOK_cons h169 (specOK_nil)
abbrev L90 : List (Nat × List Nat × Pat × LSp) := [(91000005, [0, 1, 5, 6], none, lsl90r5)]
def sp90 : Sp := fun args τ K => asCons args fun a1 r1 => asP (.vec 0) a1 <| asCons r1 fun a2 r2 => asFn 92 a2 fun l3 l4 => asNil l3 <| asNil l4 <| asNil r2 <| asCons τ fun a5 r5 => asRw (.int .i64) true a5 fun x1 => asNil r5 <| c90 x1 (fun z1 => K (.vec 0) [.row (.int .i64) z1 false]) (fun z1 z2 z3 z4 => K (.sl 0 z1 z2 z3 false) [.row (.int .i64) z4 false])
theorem h90 : ∀ args τ K, sp90 args τ K → ACall E 90 args τ K := by
  intro args τ K h0
  unfold sp90 at h0
  obtain ⟨a1, r1, rfl, h1⟩ := asCons_inv h0; clear h0
  obtain ⟨rfl, h2⟩ := asP_inv h1; clear h1
  obtain ⟨a2, r2, rfl, h3⟩ := asCons_inv h2; clear h2
  obtain ⟨l3, l4, rfl, h4⟩ := asFn_inv h3; clear h3
  obtain ⟨rfl, h5⟩ := asNil_inv h4; clear h4
  obtain ⟨rfl, h6⟩ := asNil_inv h5; clear h5
  obtain ⟨rfl, h7⟩ := asNil_inv h6; clear h6
  obtain ⟨a5, r5, rfl, h8⟩ := asCons_inv h7; clear h7
  obtain ⟨x1, rfl, h9⟩ := asRw_inv h8; clear h8
  obtain ⟨rfl, h10⟩ := asNil_inv h9; clear h9
  exact ACall.spec2 (fn := Try.f90) (c := codeOf Try.f90) (S := ofL S90) (L := lofL L90) hS90 (by kernel_rfl) (by kernel_rfl) (inlOK _) (all_eq (by kernel_rfl : subsOf (E.info 90).keep (codeOf Try.f90) = [.loop (body Try.f90 5)]) (all_cons (loopOK_of (mk := 91000005) (sl := [0, 1, 5, 6]) (ss := [([0, 1, 5, 6], lsl90r5)]) (by kernel_rfl) (by kernel_rfl) (all_cons l90r5v (all_nil))) (all_nil))) (by kernel_rfl) h10.of

abbrev S29 : List (Nat × Pat × Sp) := [(90, none, sp90)]
theorem hS29 : SpecOK E (ofL S29) := specOK_cons h90 (specOK_nil)
abbrev L29 : List (Nat × List Nat × Pat × LSp) := []
def sp29 : Sp := fun args τ K => asCons args fun a1 r1 => asD (.pair (.int .i64) (.pair (.int .i64) (.pair (.int .i64) (.pair (.int .i64) (.pair (.int .i64) (.pair (.sl (.int .i64)) .unit)))))) a1 fun x1 => asNil r1 <| asNil τ <| c29 x1 (fun z1 => K (.vec 0) [.row (.int .i64) z1 false]) (fun z1 z2 z3 z4 => K (.sl 0 z1 z2 z3 false) [.row (.int .i64) z4 false])
theorem h29 : ∀ args τ K, sp29 args τ K → ACall E 29 args τ K := by
  intro args τ K h0
  unfold sp29 at h0
  obtain ⟨a1, r1, rfl, h1⟩ := asCons_inv h0; clear h0
  obtain ⟨x1, rfl, h2⟩ := asD_inv h1; clear h1
  obtain ⟨rfl, h3⟩ := asNil_inv h2; clear h2
  obtain ⟨rfl, h4⟩ := asNil_inv h3; clear h3
  exact ACall.spec2 (fn := Try.f29) (c := codeOf Try.f29) (S := ofL S29) (L := lofL L29) hS29 (by kernel_rfl) (by kernel_rfl) (inlOK _) (all_eq (by kernel_rfl : subsOf (E.info 29).keep (codeOf Try.f29) = []) (all_nil)) (by kernel_rfl) h4.of

abbrev Sl171r2 : List (Nat × Pat × Sp) := []
theorem hSl171r2 : SpecOK E (ofL Sl171r2) := specOK_nil
abbrev Ll171r2 : List (Nat × List Nat × Pat × LSp) := []
def lsl171r2 : LSp := fun vs σ K => asCons vs fun a1 r1 => asP (.vec 0) a1 <| asCons r1 fun a2 r2 => asP (.ptr 1 0 []) a2 <| asCons r2 fun a3 r3 => asP (.vec 2) a3 <| asCons r3 fun a4 r4 => asD (.int .i64) a4 fun s1 => asCons r4 fun a5 r5 => asD (.int .i64) a5 fun s2 => asNil r5 <| asCons σ fun a6 r6 => asRw .bool false a6 fun s3 => asCons r6 fun a7 r7 => asOne (.pair (.sl (.pair (.int .i64) (.pair (.int .i64) (.pair (.int .i64) (.pair (.int .i64) (.pair (.int .i64) (.pair (.sl (.int .i64)) .unit))))))) (.pair (.pair (.int .i64) (.pair (.int .i64) (.pair (.int .i64) (.pair (.int .i64) (.pair (.int .i64) (.pair (.sl (.int .i64)) .unit)))))) .unit)) a7 fun a8 => asD (.pair (.sl (.pair (.int .i64) (.pair (.int .i64) (.pair (.int .i64) (.pair (.int .i64) (.pair (.int .i64) (.pair (.sl (.int .i64)) .unit))))))) (.pair (.pair (.int .i64) (.pair (.int .i64) (.pair (.int .i64) (.pair (.int .i64) (.pair (.int .i64) (.pair (.sl (.int .i64)) .unit)))))) .unit)) a8 fun s4 => asCons r7 fun a9 r9 => asRw (.int .i64) false a9 fun s5 => asNil r9 <| l171r2 (fun z1 z2 => K (.exit 0) [(1, .vec 0), (2, .ptr 1 0 [])] [.row .bool z1 false, .one (.pair (.sl (.pair (.int .i64) (.pair (.int .i64) (.pair (.int .i64) (.pair (.int .i64) (.pair (.int .i64) (.pair (.sl (.int .i64)) .unit))))))) (.pair (.pair (.int .i64) (.pair (.int .i64) (.pair (.int .i64) (.pair (.int .i64) (.pair (.int .i64) (.pair (.sl (.int .i64)) .unit)))))) .unit)) (.d (.pair (.sl (.pair (.int .i64) (.pair (.int .i64) (.pair (.int .i64) (.pair (.int .i64) (.pair (.int .i64) (.pair (.sl (.int .i64)) .unit))))))) (.pair (.pair (.int .i64) (.pair (.int .i64) (.pair (.int .i64) (.pair (.int .i64) (.pair (.int .i64) (.pair (.sl (.int .i64)) .unit)))))) .unit)) z2)]) s1 s2 s3 s4 s5
theorem l171r2v : LoopV E (inlF (PA (ACall E)) E 8) (E.info 171).keep 1 Try.f171.ntmps 172000002 (body Try.f171 2) ([1, 2, 11, 12, 13], lsl171r2) := by
  intro vs σ K (h0 : lsl171r2 vs σ K)
  unfold lsl171r2 at h0
  obtain ⟨a1, r1, rfl, h1⟩ := asCons_inv h0; clear h0
  obtain ⟨rfl, h2⟩ := asP_inv h1; clear h1
  obtain ⟨a2, r2, rfl, h3⟩ := asCons_inv h2; clear h2
  obtain ⟨rfl, h4⟩ := asP_inv h3; clear h3
  obtain ⟨a3, r3, rfl, h5⟩ := asCons_inv h4; clear h4
  obtain ⟨rfl, h6⟩ := asP_inv h5; clear h5
  obtain ⟨a4, r4, rfl, h7⟩ := asCons_inv h6; clear h6
  obtain ⟨s1, rfl, h8⟩ := asD_inv h7; clear h7
  obtain ⟨a5, r5, rfl, h9⟩ := asCons_inv h8; clear h8
  obtain ⟨s2, rfl, h10⟩ := asD_inv h9; clear h9
  obtain ⟨rfl, h11⟩ := asNil_inv h10; clear h10
  obtain ⟨a6, r6, rfl, h12⟩ := asCons_inv h11; clear h11
  obtain ⟨s3, rfl, h13⟩ := asRw_inv h12; clear h12
  obtain ⟨a7, r7, rfl, h14⟩ := asCons_inv h13; clear h13
  obtain ⟨a8, rfl, h15⟩ := asOne_inv h14; clear h14
  obtain ⟨s4, rfl, h16⟩ := asD_inv h15; clear h15
  obtain ⟨a9, r9, rfl, h17⟩ := asCons_inv h16; clear h16
  obtain ⟨s5, rfl, h18⟩ := asRw_inv h17; clear h17
  obtain ⟨rfl, h19⟩ := asNil_inv h18; clear h18
  intro J hJ
  have hp : ∀ c' ∈ subsOf (E.info 171).keep (body Try.f171 2), SubOK E (inlF (PA (ACall E)) E 8) (E.info 171).keep 1 Try.f171.ntmps (lofL Ll171r2) c' := all_eq (by kernel_rfl : subsOf (E.info 171).keep (body Try.f171 2) = []) (all_nil)
  exact h19.of (fun s1 s2 s3 s4 s5 => J [(172000002, .undef), (1, .vec 0), (2, .ptr 1 0 []), (11, .vec 2), (12, I s1), (13, I s2)] [.row .bool s3 false, .one (.pair (.sl (.pair (.int .i64) (.pair (.int .i64) (.pair (.int .i64) (.pair (.int .i64) (.pair (.int .i64) (.pair (.sl (.int .i64)) .unit))))))) (.pair (.pair (.int .i64) (.pair (.int .i64) (.pair (.int .i64) (.pair (.int .i64) (.pair (.int .i64) (.pair (.sl (.int .i64)) .unit)))))) .unit)) (.d (.pair (.sl (.pair (.int .i64) (.pair (.int .i64) (.pair (.int .i64) (.pair (.int .i64) (.pair (.int .i64) (.pair (.sl (.int .i64)) .unit))))))) (.pair (.pair (.int .i64) (.pair (.int .i64) (.pair (.int .i64) (.pair (.int .i64) (.pair (.int .i64) (.pair (.sl (.int .i64)) .unit)))))) .unit)) s4), .row (.int .i64) s5 false]) (fun s1 s2 s3 s4 s5 hb => loop_round2 (S := ofL Sl171r2) (L := lofL Ll171r2) hSl171r2 (inlOK _) hp hJ (by kernel_rfl) hb)

abbrev S24 : List (Nat × Pat × Sp) := []
theorem hS24 : SpecOK E (ofL S24) := specOK_nil
abbrev L24 : List (Nat × List Nat × Pat × LSp) := []
def sp24 : Sp := fun args τ K => asCons args fun a1 r1 => asD (.pair (.int .i64) (.pair (.int .i64) (.pair (.int .i64) (.pair (.int .i64) (.pair (.int .i64) (.pair (.sl (.int .i64)) .unit)))))) a1 fun x1 => asNil r1 <| asNil τ <| c24 x1 (fun z1 => K (I z1) [])
theorem h24 : ∀ args τ K, sp24 args τ K → ACall E 24 args τ K := by
  intro args τ K h0
  unfold sp24 at h0
  obtain ⟨a1, r1, rfl, h1⟩ := asCons_inv h0; clear h0
  obtain ⟨x1, rfl, h2⟩ := asD_inv h1; clear h1
  obtain ⟨rfl, h3⟩ := asNil_inv h2; clear h2
  obtain ⟨rfl, h4⟩ := asNil_inv h3; clear h3
  exact ACall.spec2 (fn := Try.f24) (c := codeOf Try.f24) (S := ofL S24) (L := lofL L24) hS24 (by kernel_rfl) (by kernel_rfl) (inlOK _) (all_eq (by kernel_rfl : subsOf (E.info 24).keep (codeOf Try.f24) = []) (all_nil)) (by kernel_rfl) h4.of

abbrev S91 : List (Nat × Pat × Sp) := []
theorem hS91 : SpecOK E (ofL S91) := specOK_nil
abbrev L91 : List (Nat × List Nat × Pat × LSp) := []
def sp91 : Sp := fun args τ K => asCons args fun a1 r1 => asD (.int .i64) a1 fun x1 => asNil r1 <| asNil τ <| c91 x1 (fun z1 => K (B z1) [])
theorem h91 : ∀ args τ K, sp91 args τ K → ACall E 91 args τ K := by
  intro args τ K h0
  unfold sp91 at h0
  obtain ⟨a1, r1, rfl, h1⟩ := asCons_inv h0; clear h0
  obtain ⟨x1, rfl, h2⟩ := asD_inv h1; clear h1
  obtain ⟨rfl, h3⟩ := asNil_inv h2; clear h2
  obtain ⟨rfl, h4⟩ := asNil_inv h3; clear h3
  exact ACall.spec2 (fn := Try.f91) (c := codeOf Try.f91) (S := ofL S91) (L := lofL L91) hS91 (by kernel_rfl) (by kernel_rfl) (inlOK _) (all_eq (by kernel_rfl : subsOf (E.info 91).keep (codeOf Try.f91) = []) (all_nil)) (by kernel_rfl) h4.of

abbrev Sl169r2v2 : List (Nat × Pat × Sp) := [(91, none, sp91)]
theorem hSl169r2v2 : SpecOK E (ofL Sl169r2v2) := specOK_cons h91 (specOK_nil)
abbrev Ll169r2v2 : List (Nat × List Nat × Pat × LSp) := []
def lsl169r2v2 : LSp := fun vs σ K => asCons vs fun a1 r1 => asD (.sl (.int .i64)) a1 fun s1 => asCons r1 fun a2 r2 => asFn 91 a2 fun l3 l4 => asNil l3 <| asNil l4 <| asCons r2 fun a5 r5 => asD (.int .i64) a5 fun s2 => asCons r5 fun a6 r6 => asD (.int .i64) a6 fun s3 => asNil r6 <| asNil σ <| l169r2v2 (fun z1 => K .ret [(4, I z1)] []) (K (.exit 0) [(4, .undef)] []) s1 s2 s3
theorem l169r2v2v : LoopV E (inlF (PA (ACall E)) E 8) (E.info 169).keep 0 Try.f169.ntmps 170000002 (body Try.f169 2) ([0, 1, 7, 8], lsl169r2v2) := by
  intro vs σ K (h0 : lsl169r2v2 vs σ K)
  unfold lsl169r2v2 at h0
  obtain ⟨a1, r1, rfl, h1⟩ := asCons_inv h0; clear h0
  obtain ⟨s1, rfl, h2⟩ := asD_inv h1; clear h1
  obtain ⟨a2, r2, rfl, h3⟩ := asCons_inv h2; clear h2
  obtain ⟨l3, l4, rfl, h4⟩ := asFn_inv h3; clear h3
  obtain ⟨rfl, h5⟩ := asNil_inv h4; clear h4
  obtain ⟨rfl, h6⟩ := asNil_inv h5; clear h5
  obtain ⟨a5, r5, rfl, h7⟩ := asCons_inv h6; clear h6
  obtain ⟨s2, rfl, h8⟩ := asD_inv h7; clear h7
  obtain ⟨a6, r6, rfl, h9⟩ := asCons_inv h8; clear h8
  obtain ⟨s3, rfl, h10⟩ := asD_inv h9; clear h9
  obtain ⟨rfl, h11⟩ := asNil_inv h10; clear h10
  obtain ⟨rfl, h12⟩ := asNil_inv h11; clear h11
  intro J hJ
  have hp : ∀ c' ∈ subsOf (E.info 169).keep (body Try.f169 2), SubOK E (inlF (PA (ACall E)) E 8) (E.info 169).keep 0 Try.f169.ntmps (lofL Ll169r2v2) c' := all_eq (by kernel_rfl : subsOf (E.info 169).keep (body Try.f169 2) = []) (all_nil)
  exact h12.of (fun s1 s2 s3 => J [(170000002, .undef), (0, .d (.sl (.int .i64)) s1), (1, .fn 91 [] []), (7, I s2), (8, I s3)] []) (fun s1 s2 s3 hb => loop_round2 (S := ofL Sl169r2v2) (L := lofL Ll169r2v2) hSl169r2v2 (inlOK _) hp hJ (by kernel_rfl) hb)

abbrev S169v2 : List (Nat × Pat × Sp) := []
theorem hS169v2 : SpecOK E (ofL S169v2) := specOK_nil
abbrev L169v2 : List (Nat × List Nat × Pat × LSp) := [(170000002, [0, 1, 7, 8], none, lsl169r2v2)]
def sp169v2 : Sp := fun args τ K => asCons args fun a1 r1 => asD (.sl (.int .i64)) a1 fun x1 => asCons r1 fun a2 r2 => asFn 91 a2 fun l3 l4 => asNil l3 <| asNil l4 <| asNil r2 <| asNil τ <| c169v2 x1 (fun z1 => K (I z1) [])
theorem h169v2 : ∀ args τ K, sp169v2 args τ K → ACall E 169 args τ K := by
  intro args τ K h0
  unfold sp169v2 at h0
  obtain ⟨a1, r1, rfl, h1⟩ := asCons_inv h0; clear h0
  obtain ⟨x1, rfl, h2⟩ := asD_inv h1; clear h1
  obtain ⟨a2, r2, rfl, h3⟩ := asCons_inv h2; clear h2
  obtain ⟨l3, l4, rfl, h4⟩ := asFn_inv h3; clear h3
  obtain ⟨rfl, h5⟩ := asNil_inv h4; clear h4
  obtain ⟨rfl, h6⟩ := asNil_inv h5; clear h5
  obtain ⟨rfl, h7⟩ := asNil_inv h6; clear h6
  obtain ⟨rfl, h8⟩ := asNil_inv h7; clear h7
  exact ACall.spec2 (fn := Try.f169) (c := codeOf Try.f169) (S := ofL S169v2) (L := lofL L169v2) hS169v2 (by kernel_rfl) (by kernel_rfl) (inlOK _) (all_eq (by kernel_rfl : subsOf (E.info 169).keep (codeOf Try.f169) = [.loop (body Try.f169 2)]) (all_cons (loopOK_of (mk := 170000002) (sl := [0, 1, 7, 8]) (ss := [([0, 1, 7, 8], lsl169r2v2)]) (by kernel_rfl) (by kernel_rfl) (all_cons l169r2v2v (all_nil))) (all_nil))) (by kernel_rfl) h8.of

abbrev Sl90r5v2 : List (Nat × Pat × Sp) := [(91, none, sp91)]
theorem hSl90r5v2 : SpecOK E (ofL Sl90r5v2) := specOK_cons h91 (specOK_nil)
abbrev Ll90r5v2 : List (Nat × List Nat × Pat × LSp) := []
def lsl90r5v2 : LSp := fun vs σ K => asCons vs fun a1 r1 => asP (.vec 0) a1 <| asCons r1 fun a2 r2 => asFn 91 a2 fun l3 l4 => asNil l3 <| asNil l4 <| asCons r2 fun a5 r5 => asD (.int .i64) a5 fun s1 => asCons r5 fun a6 r6 => asD (.int .i64) a6 fun s2 => asNil r6 <| asCons σ fun a7 r7 => asRw (.int .i64) false a7 fun s3 => asNil r7 <| l90r5v2 (fun z1 z2 => K (.exit 0) [(0, .vec 0), (5, I z1)] [.row (.int .i64) z2 false]) s1 s2 s3
theorem l90r5v2v : LoopV E (inlF (PA (ACall E)) E 8) (E.info 90).keep 1 Try.f90.ntmps 91000005 (body Try.f90 5) ([0, 1, 5, 6], lsl90r5v2) := by
  intro vs σ K (h0 : lsl90r5v2 vs σ K)
  unfold lsl90r5v2 at h0
  obtain ⟨a1, r1, rfl, h1⟩ := asCons_inv h0; clear h0
  obtain ⟨rfl, h2⟩ := asP_inv h1; clear h1
  obtain ⟨a2, r2, rfl, h3⟩ := asCons_inv h2; clear h2
  obtain ⟨l3, l4, rfl, h4⟩ := asFn_inv h3; clear h3
  obtain ⟨rfl, h5⟩ := asNil_inv h4; clear h4
  obtain ⟨rfl, h6⟩ := asNil_inv h5; clear h5
  obtain ⟨a5, r5, rfl, h7⟩ := asCons_inv h6; clear h6
  obtain ⟨s1, rfl, h8⟩ := asD_inv h7; clear h7
  obtain ⟨a6, r6, rfl, h9⟩ := asCons_inv h8; clear h8
  obtain ⟨s2, rfl, h10⟩ := asD_inv h9; clear h9
  obtain ⟨rfl, h11⟩ := asNil_inv h10; clear h10
  obtain ⟨a7, r7, rfl, h12⟩ := asCons_inv h11; clear h11
  obtain ⟨s3, rfl, h13⟩ := asRw_inv h12; clear h12
  obtain ⟨rfl, h14⟩ := asNil_inv h13; clear h13
  intro J hJ
  have hp : ∀ c' ∈ subsOf (E.info 90).keep (body Try.f90 5), SubOK E (inlF (PA (ACall E)) E 8) (E.info 90).keep 1 Try.f90.ntmps (lofL Ll90r5v2) c' := all_eq (by kernel_rfl : subsOf (E.info 90).keep (body Try.f90 5) = []) (all_nil)
  exact h14.of (fun s1 s2 s3 => J [(91000005, .undef), (0, .vec 0), (1, .fn 91 [] []), (5, I s1), (6, I s2)] [.row (.int .i64) s3 false]) (fun s1 s2 s3 hb => loop_round2 (S := ofL Sl90r5v2) (L := lofL Ll90r5v2) hSl90r5v2 (inlOK _) hp hJ (by kernel_rfl) hb)

abbrev S90v2 : List (Nat × Pat × Sp) := [(169, none, sp169v2)]
theorem hS90v2 : SpecOK E (ofL S90v2) := specOK_cons h169v2 (specOK_nil)
abbrev L90v2 : List (Nat × List Nat × Pat × LSp) := [(91000005, [0, 1, 5, 6], none, lsl90r5v2)]
def sp90v2 : Sp := fun args τ K => asCons args fun a1 r1 => asP (.vec 0) a1 <| asCons r1 fun a2 r2 => asFn 91 a2 fun l3 l4 => asNil l3 <| asNil l4 <| asNil r2 <| asCons τ fun a5 r5 => asRw (.int .i64) true a5 fun x1 => asNil r5 <| c90v2 x1 (fun z1 => K (.vec 0) [.row (.int .i64) z1 false]) (fun z1 z2 z3 z4 => K (.sl 0 z1 z2 z3 false) [.row (.int .i64) z4 false])
theorem h90v2 : ∀ args τ K, sp90v2 args τ K → ACall E 90 args τ K := by
  intro args τ K h0
  unfold sp90v2 at h0
  obtain ⟨a1, r1, rfl, h1⟩ := asCons_inv h0; clear h0
  obtain ⟨rfl, h2⟩ := asP_inv h1; clear h1
  obtain ⟨a2, r2, rfl, h3⟩ := asCons_inv h2; clear h2
  obtain ⟨l3, l4, rfl, h4⟩ := asFn_inv h3; clear h3
  obtain ⟨rfl, h5⟩ := asNil_inv h4; clear h4
  obtain ⟨rfl, h6⟩ := asNil_inv h5; clear h5
  obtain ⟨rfl, h7⟩ := asNil_inv h6; clear h6
  obtain ⟨a5, r5, rfl, h8⟩ := asCons_inv h7; clear h7
  obtain ⟨x1, rfl, h9⟩ := asRw_inv h8; clear h8
  obtain ⟨rfl, h10⟩ := asNil_inv h9; clear h9
  exact ACall.spec2 (fn := Try.f90) (c := codeOf Try.f90) (S := ofL S90v2) (L := lofL L90v2) hS90v2 (by kernel_rfl) (by kernel_rfl) (inlOK _) (all_eq (by kernel_rfl : subsOf (E.info 90).keep (codeOf Try.f90) = [.loop (body Try.f90 5)]) (all_cons (loopOK_of (mk := 91000005) (sl := [0, 1, 5, 6]) (ss := [([0, 1, 5, 6], lsl90r5v2)]) (by kernel_rfl) (by kernel_rfl) (all_cons l90r5v2v (all_nil))) (all_nil))) (by kernel_rfl) h10.of

abbrev S90v3 : List (Nat × Pat × Sp) := [(169, none, sp169v2)]
theorem hS90v3 : SpecOK E (ofL S90v3) := specOK_cons h169v2 (specOK_nil)
abbrev L90v3 : List (Nat × List Nat × Pat × LSp) := [(91000005, [0, 1, 5, 6], none, lsl90r5v2)]
def sp90v3 : Sp := fun args τ K => asCons args fun a1 r1 => asP (.vec 0) a1 <| asCons r1 fun a2 r2 => asFn 91 a2 fun l3 l4 => asNil l3 <| asNil l4 <| asNil r2 <| asCons τ fun a5 r5 => asRw (.int .i64) false a5 fun x1 => asNil r5 <| c90v3 x1 (fun z1 => K (.vec 0) [.row (.int .i64) z1 false]) (fun z1 z2 z3 z4 => K (.sl 0 z1 z2 z3 false) [.row (.int .i64) z4 false])
theorem h90v3 : ∀ args τ K, sp90v3 args τ K → ACall E 90 args τ K := by
  intro args τ K h0
  unfold sp90v3 at h0
  obtain ⟨a1, r1, rfl, h1⟩ := asCons_inv h0; clear h0
  obtain ⟨rfl, h2⟩ := asP_inv h1; clear h1
  obtain ⟨a2, r2, rfl, h3⟩ := asCons_inv h2; clear h2
  obtain ⟨l3, l4, rfl, h4⟩ := asFn_inv h3; clear h3
  obtain ⟨rfl, h5⟩ := asNil_inv h4; clear h4
  obtain ⟨rfl, h6⟩ := asNil_inv h5; clear h5
  obtain ⟨rfl, h7⟩ := asNil_inv h6; clear h6
  obtain ⟨a5, r5, rfl, h8⟩ := asCons_inv h7; clear h7
  obtain ⟨x1, rfl, h9⟩ := asRw_inv h8; clear h8
  obtain ⟨rfl, h10⟩ := asNil_inv h9; clear h9
  exact ACall.spec2 (fn := Try.f90) (c := codeOf Try.f90) (S := ofL S90v3) (L := lofL L90v3) hS90v3 (by kernel_rfl) (by kernel_rfl) (inlOK _) (all_eq (by kernel_rfl : subsOf (E.info 90).keep (codeOf Try.f90) = [.loop (body Try.f90 5)]) (all_cons (loopOK_of (mk := 91000005) (sl := [0, 1, 5, 6]) (ss := [([0, 1, 5, 6], lsl90r5v2)]) (by kernel_rfl) (by kernel_rfl) (all_cons l90r5v2v (all_nil))) (all_nil))) (by kernel_rfl) h10.of

abbrev S27 : List (Nat × Pat × Sp) := [(90, some ([.fix (.vec 0), .fn 91 [] []], [.row (.int .i64) true]), sp90v2), (90, some ([.fix (.vec 0), .fn 91 [] []], [.row (.int .i64) false]), sp90v3)]
theorem hS27 : SpecOK E (ofL S27) := specOK_cons h90v2 (specOK_cons h90v3 (specOK_nil))
abbrev L27 : List (Nat × List Nat × Pat × LSp) := []
def sp27 : Sp := fun args τ K => asCons args fun a1 r1 => asD (.pair (.int .i64) (.pair (.int .i64) (.pair (.int .i64) (.pair (.int .i64) (.pair (.int .i64) (.pair (.sl (.int .i64)) .unit)))))) a1 fun x1 => asNil r1 <| asNil τ <| c27 x1 (fun z1 => K (.vec 0) [.row (.int .i64) z1 false]) (fun z1 z2 z3 z4 => K (.sl 0 z1 z2 z3 false) [.row (.int .i64) z4 false])
theorem h27 : ∀ args τ K, sp27 args τ K → ACall E 27 args τ K := by
  intro args τ K h0
  unfold sp27 at h0
  obtain ⟨a1, r1, rfl, h1⟩ := asCons_inv h0; clear h0
  obtain ⟨x1, rfl, h2⟩ := asD_inv h1; clear h1
  obtain ⟨rfl, h3⟩ := asNil_inv h2; clear h2
  obtain ⟨rfl, h4⟩ := asNil_inv h3; clear h3
  exact ACall.spec2 (fn := Try.f27) (c := codeOf Try.f27) (S := ofL S27) (L := lofL L27) hS27 (by kernel_rfl) (by kernel_rfl) (inlOK _) (all_eq (by kernel_rfl : subsOf (E.info 27).keep (codeOf Try.f27) = []) (all_nil)) (by kernel_rfl) h4.of

abbrev Sl171r11 : List (Nat × Pat × Sp) := []
theorem hSl171r11 : SpecOK E (ofL Sl171r11) := specOK_nil
abbrev Ll171r11 : List (Nat × List Nat × Pat × LSp) := []
def lsl171r11 : LSp := fun vs σ K => asCons vs fun a1 r1 => asP (.vec 0) a1 <| asCons r1 fun a2 r2 => asP (.ptr 1 0 []) a2 <| asCons r2 fun a3 r3 => asD (.int .i64) a3 fun s1 => asCons r3 fun a4 r4 => asP (.vec 2) a4 <| asCons r4 fun a5 r5 => asD (.int .i64) a5 fun s2 => asCons r5 fun a6 r6 => asD (.int .i64) a6 fun s3 => asNil r6 <| asCons σ fun a7 r7 => asRw .bool false a7 fun s4 => asCons r7 fun a8 r8 => asOne (.pair (.sl (.pair (.int .i64) (.pair (.int .i64) (.pair (.int .i64) (.pair (.int .i64) (.pair (.int .i64) (.pair (.sl (.int .i64)) .unit))))))) (.pair (.pair (.int .i64) (.pair (.int .i64) (.pair (.int .i64) (.pair (.int .i64) (.pair (.int .i64) (.pair (.sl (.int .i64)) .unit)))))) .unit)) a8 fun a9 => asD (.pair (.sl (.pair (.int .i64) (.pair (.int .i64) (.pair (.int .i64) (.pair (.int .i64) (.pair (.int .i64) (.pair (.sl (.int .i64)) .unit))))))) (.pair (.pair (.int .i64) (.pair (.int .i64) (.pair (.int .i64) (.pair (.int .i64) (.pair (.int .i64) (.pair (.sl (.int .i64)) .unit)))))) .unit)) a9 fun s5 => asCons r8 fun a10 r10 => asRw (.int .i64) false a10 fun s6 => asNil r10 <| l171r11 (fun z1 z2 z3 => K (.exit 4) [(1, .vec 0), (2, .ptr 1 0 []), (6, I z1)] [.row .bool z2 false, .one (.pair (.sl (.pair (.int .i64) (.pair (.int .i64) (.pair (.int .i64) (.pair (.int .i64) (.pair (.int .i64) (.pair (.sl (.int .i64)) .unit))))))) (.pair (.pair (.int .i64) (.pair (.int .i64) (.pair (.int .i64) (.pair (.int .i64) (.pair (.int .i64) (.pair (.sl (.int .i64)) .unit)))))) .unit)) (.d (.pair (.sl (.pair (.int .i64) (.pair (.int .i64) (.pair (.int .i64) (.pair (.int .i64) (.pair (.int .i64) (.pair (.sl (.int .i64)) .unit))))))) (.pair (.pair (.int .i64) (.pair (.int .i64) (.pair (.int .i64) (.pair (.int .i64) (.pair (.int .i64) (.pair (.sl (.int .i64)) .unit)))))) .unit)) z3)]) s1 s2 s3 s4 s5 s6
theorem l171r11v : LoopV E (inlF (PA (ACall E)) E 8) (E.info 171).keep 1 Try.f171.ntmps 172000011 (body Try.f171 11) ([1, 2, 6, 42, 43, 44], lsl171r11) := by
  intro vs σ K (h0 : lsl171r11 vs σ K)
  unfold lsl171r11 at h0
  obtain ⟨a1, r1, rfl, h1⟩ := asCons_inv h0; clear h0
  obtain ⟨rfl, h2⟩ := asP_inv h1; clear h1
  obtain ⟨a2, r2, rfl, h3⟩ := asCons_inv h2; clear h2
  obtain ⟨rfl, h4⟩ := asP_inv h3; clear h3
  obtain ⟨a3, r3, rfl, h5⟩ := asCons_inv h4; clear h4
  obtain ⟨s1, rfl, h6⟩ := asD_inv h5; clear h5
  obtain ⟨a4, r4, rfl, h7⟩ := asCons_inv h6; clear h6
  obtain ⟨rfl, h8⟩ := asP_inv h7; clear h7
  obtain ⟨a5, r5, rfl, h9⟩ := asCons_inv h8; clear h8
  obtain ⟨s2, rfl, h10⟩ := asD_inv h9; clear h9
  obtain ⟨a6, r6, rfl, h11⟩ := asCons_inv h10; clear h10
  obtain ⟨s3, rfl, h12⟩ := asD_inv h11; clear h11
  obtain ⟨rfl, h13⟩ := asNil_inv h12; clear h12
  obtain ⟨a7, r7, rfl, h14⟩ := asCons_inv h13; clear h13
  obtain ⟨s4, rfl, h15⟩ := asRw_inv h14; clear h14
  obtain ⟨a8, r8, rfl, h16⟩ := asCons_inv h15; clear h15
  obtain ⟨a9, rfl, h17⟩ := asOne_inv h16; clear h16
  obtain ⟨s5, rfl, h18⟩ := asD_inv h17; clear h17
  obtain ⟨a10, r10, rfl, h19⟩ := asCons_inv h18; clear h18
  obtain ⟨s6, rfl, h20⟩ := asRw_inv h19; clear h19
  obtain ⟨rfl, h21⟩ := asNil_inv h20; clear h20
  intro J hJ
  have hp : ∀ c' ∈ subsOf (E.info 171).keep (body Try.f171 11), SubOK E (inlF (PA (ACall E)) E 8) (E.info 171).keep 1 Try.f171.ntmps (lofL Ll171r11) c' := all_eq (by kernel_rfl : subsOf (E.info 171).keep (body Try.f171 11) = []) (all_nil)
  exact h21.of (fun s1 s2 s3 s4 s5 s6 => J [(172000011, .undef), (1, .vec 0), (2, .ptr 1 0 []), (6, I s1), (42, .vec 2), (43, I s2), (44, I s3)] [.row .bool s4 false, .one (.pair (.sl (.pair (.int .i64) (.pair (.int .i64) (.pair (.int .i64) (.pair (.int .i64) (.pair (.int .i64) (.pair (.sl (.int .i64)) .unit))))))) (.pair (.pair (.int .i64) (.pair (.int .i64) (.pair (.int .i64) (.pair (.int .i64) (.pair (.int .i64) (.pair (.sl (.int .i64)) .unit)))))) .unit)) (.d (.pair (.sl (.pair (.int .i64) (.pair (.int .i64) (.pair (.int .i64) (.pair (.int .i64) (.pair (.int .i64) (.pair (.sl (.int .i64)) .unit))))))) (.pair (.pair (.int .i64) (.pair (.int .i64) (.pair (.int .i64) (.pair (.int .i64) (.pair (.int .i64) (.pair (.sl (.int .i64)) .unit)))))) .unit)) s5), .row (.int .i64) s6 false]) (fun s1 s2 s3 s4 s5 s6 hb => loop_round2 (S := ofL Sl171r11) (L := lofL Ll171r11) hSl171r11 (inlOK _) hp hJ (by kernel_rfl) hb)

abbrev Sl171r11v2 : List (Nat × Pat × Sp) := []
theorem hSl171r11v2 : SpecOK E (ofL Sl171r11v2) := specOK_nil
abbrev Ll171r11v2 : List (Nat × List Nat × Pat × LSp) := []
def lsl171r11v2 : LSp := fun vs σ K => asCons vs fun a1 r1 => asP (.vec 0) a1 <| asCons r1 fun a2 r2 => asP (.ptr 1 0 []) a2 <| asCons r2 fun a3 r3 => asD (.int .i64) a3 fun s1 => asCons r3 fun a4 r4 => asSl 2 false a4 fun s2 s3 s4 => asCons r4 fun a5 r5 => asD (.int .i64) a5 fun s5 => asCons r5 fun a6 r6 => asD (.int .i64) a6 fun s6 => asNil r6 <| asCons σ fun a7 r7 => asRw .bool false a7 fun s7 => asCons r7 fun a8 r8 => asOne (.pair (.sl (.pair (.int .i64) (.pair (.int .i64) (.pair (.int .i64) (.pair (.int .i64) (.pair (.int .i64) (.pair (.sl (.int .i64)) .unit))))))) (.pair (.pair (.int .i64) (.pair (.int .i64) (.pair (.int .i64) (.pair (.int .i64) (.pair (.int .i64) (.pair (.sl (.int .i64)) .unit)))))) .unit)) a8 fun a9 => asD (.pair (.sl (.pair (.int .i64) (.pair (.int .i64) (.pair (.int .i64) (.pair (.int .i64) (.pair (.int .i64) (.pair (.sl (.int .i64)) .unit))))))) (.pair (.pair (.int .i64) (.pair (.int .i64) (.pair (.int .i64) (.pair (.int .i64) (.pair (.int .i64) (.pair (.sl (.int .i64)) .unit)))))) .unit)) a9 fun s8 => asCons r8 fun a10 r10 => asRw (.int .i64) false a10 fun s9 => asNil r10 <| l171r11v2 (fun z1 z2 z3 => K (.exit 4) [(1, .vec 0), (2, .ptr 1 0 []), (6, I z1)] [.row .bool z2 false, .one (.pair (.sl (.pair (.int .i64) (.pair (.int .i64) (.pair (.int .i64) (.pair (.int .i64) (.pair (.int .i64) (.pair (.sl (.int .i64)) .unit))))))) (.pair (.pair (.int .i64) (.pair (.int .i64) (.pair (.int .i64) (.pair (.int .i64) (.pair (.int .i64) (.pair (.sl (.int .i64)) .unit)))))) .unit)) (.d (.pair (.sl (.pair (.int .i64) (.pair (.int .i64) (.pair (.int .i64) (.pair (.int .i64) (.pair (.int .i64) (.pair (.sl (.int .i64)) .unit))))))) (.pair (.pair (.int .i64) (.pair (.int .i64) (.pair (.int .i64) (.pair (.int .i64) (.pair (.int .i64) (.pair (.sl (.int .i64)) .unit)))))) .unit)) z3)]) s1 s2 s3 s4 s5 s6 s7 s8 s9
theorem l171r11v2v : LoopV E (inlF (PA (ACall E)) E 8) (E.info 171).keep 1 Try.f171.ntmps 172000011 (body Try.f171 11) ([1, 2, 6, 42, 43, 44], lsl171r11v2) := by
  intro vs σ K (h0 : lsl171r11v2 vs σ K)
  unfold lsl171r11v2 at h0
  obtain ⟨a1, r1, rfl, h1⟩ := asCons_inv h0; clear h0
  obtain ⟨rfl, h2⟩ := asP_inv h1; clear h1
  obtain ⟨a2, r2, rfl, h3⟩ := asCons_inv h2; clear h2
  obtain ⟨rfl, h4⟩ := asP_inv h3; clear h3
  obtain ⟨a3, r3, rfl, h5⟩ := asCons_inv h4; clear h4
  obtain ⟨s1, rfl, h6⟩ := asD_inv h5; clear h5
  obtain ⟨a4, r4, rfl, h7⟩ := asCons_inv h6; clear h6
  obtain ⟨s2, s3, s4, rfl, h8⟩ := asSl_inv h7; clear h7
  obtain ⟨a5, r5, rfl, h9⟩ := asCons_inv h8; clear h8
  obtain ⟨s5, rfl, h10⟩ := asD_inv h9; clear h9
  obtain ⟨a6, r6, rfl, h11⟩ := asCons_inv h10; clear h10
  obtain ⟨s6, rfl, h12⟩ := asD_inv h11; clear h11
  obtain ⟨rfl, h13⟩ := asNil_inv h12; clear h12
  obtain ⟨a7, r7, rfl, h14⟩ := asCons_inv h13; clear h13
  obtain ⟨s7, rfl, h15⟩ := asRw_inv h14; clear h14
  obtain ⟨a8, r8, rfl, h16⟩ := asCons_inv h15; clear h15
  obtain ⟨a9, rfl, h17⟩ := asOne_inv h16; clear h16
  obtain ⟨s8, rfl, h18⟩ := asD_inv h17; clear h17
  obtain ⟨a10, r10, rfl, h19⟩ := asCons_inv h18; clear h18
  obtain ⟨s9, rfl, h20⟩ := asRw_inv h19; clear h19
  obtain ⟨rfl, h21⟩ := asNil_inv h20; clear h20
  intro J hJ
  have hp : ∀ c' ∈ subsOf (E.info 171).keep (body Try.f171 11), SubOK E (inlF (PA (ACall E)) E 8) (E.info 171).keep 1 Try.f171.ntmps (lofL Ll171r11v2) c' := all_eq (by kernel_rfl : subsOf (E.info 171).keep (body Try.f171 11) = []) (all_nil)
  exact h21.of (fun s1 s2 s3 s4 s5 s6 s7 s8 s9 => J [(172000011, .undef), (1, .vec 0), (2, .ptr 1 0 []), (6, I s1), (42, .sl 2 s2 s3 s4 false), (43, I s5), (44, I s6)] [.row .bool s7 false, .one (.pair (.sl (.pair (.int .i64) (.pair (.int .i64) (.pair (.int .i64) (.pair (.int .i64) (.pair (.int .i64) (.pair (.sl (.int .i64)) .unit))))))) (.pair (.pair (.int .i64) (.pair (.int .i64) (.pair (.int .i64) (.pair (.int .i64) (.pair (.int .i64) (.pair (.sl (.int .i64)) .unit)))))) .unit)) (.d (.pair (.sl (.pair (.int .i64) (.pair (.int .i64) (.pair (.int .i64) (.pair (.int .i64) (.pair (.int .i64) (.pair (.sl (.int .i64)) .unit))))))) (.pair (.pair (.int .i64) (.pair (.int .i64) (.pair (.int .i64) (.pair (.int .i64) (.pair (.int .i64) (.pair (.sl (.int .i64)) .unit)))))) .unit)) s8), .row (.int .i64) s9 false]) (fun s1 s2 s3 s4 s5 s6 s7 s8 s9 hb => loop_round2 (S := ofL Sl171r11v2) (L := lofL Ll171r11v2) hSl171r11v2 (inlOK _) hp hJ (by kernel_rfl) hb)

abbrev Sl171r7 : List (Nat × Pat × Sp) := [(24, none, sp24), (27, none, sp27)]
theorem hSl171r7 : SpecOK E (ofL Sl171r7) := specOK_cons h24 (specOK_cons h27 (specOK_nil))
abbrev Ll171r7 : List (Nat × List Nat × Pat × LSp) := [(172000011, [1, 2, 6, 42, 43, 44], some ([.fix (.vec 0), .fix (.ptr 1 0 []), .d (.int .i64), .fix (.vec 2), .d (.int .i64), .d (.int .i64)], [.row .bool false, .one (.pair (.sl (.pair (.int .i64) (.pair (.int .i64) (.pair (.int .i64) (.pair (.int .i64) (.pair (.int .i64) (.pair (.sl (.int .i64)) .unit))))))) (.pair (.pair (.int .i64) (.pair (.int .i64) (.pair (.int .i64) (.pair (.int .i64) (.pair (.int .i64) (.pair (.sl (.int .i64)) .unit)))))) .unit)) (.d (.pair (.sl (.pair (.int .i64) (.pair (.int .i64) (.pair (.int .i64) (.pair (.int .i64) (.pair (.int .i64) (.pair (.sl (.int .i64)) .unit))))))) (.pair (.pair (.int .i64) (.pair (.int .i64) (.pair (.int .i64) (.pair (.int .i64) (.pair (.int .i64) (.pair (.sl (.int .i64)) .unit)))))) .unit))), .row (.int .i64) false]), lsl171r11), (172000011, [1, 2, 6, 42, 43, 44], some ([.fix (.vec 0), .fix (.ptr 1 0 []), .d (.int .i64), .sl 2 false, .d (.int .i64), .d (.int .i64)], [.row .bool false, .one (.pair (.sl (.pair (.int .i64) (.pair (.int .i64) (.pair (.int .i64) (.pair (.int .i64) (.pair (.int .i64) (.pair (.sl (.int .i64)) .unit))))))) (.pair (.pair (.int .i64) (.pair (.int .i64) (.pair (.int .i64) (.pair (.int .i64) (.pair (.int .i64) (.pair (.sl (.int .i64)) .unit)))))) .unit)) (.d (.pair (.sl (.pair (.int .i64) (.pair (.int .i64) (.pair (.int .i64) (.pair (.int .i64) (.pair (.int .i64) (.pair (.sl (.int .i64)) .unit))))))) (.pair (.pair (.int .i64) (.pair (.int .i64) (.pair (.int .i64) (.pair (.int .i64) (.pair (.int .i64) (.pair (.sl (.int .i64)) .unit)))))) .unit))), .row (.int .i64) false]), lsl171r11v2)]
def lsl171r7 : LSp := fun vs σ K => asCons vs fun a1 r1 => asP (.vec 0) a1 <| asCons r1 fun a2 r2 => asP (.ptr 1 0 []) a2 <| asCons r2 fun a3 r3 => asD (.int .i64) a3 fun s1 => asNil r3 <| asCons σ fun a4 r4 => asRw .bool false a4 fun s2 => asCons r4 fun a5 r5 => asOne (.pair (.sl (.pair (.int .i64) (.pair (.int .i64) (.pair (.int .i64) (.pair (.int .i64) (.pair (.int .i64) (.pair (.sl (.int .i64)) .unit))))))) (.pair (.pair (.int .i64) (.pair (.int .i64) (.pair (.int .i64) (.pair (.int .i64) (.pair (.int .i64) (.pair (.sl (.int .i64)) .unit)))))) .unit)) a5 fun a6 => asD (.pair (.sl (.pair (.int .i64) (.pair (.int .i64) (.pair (.int .i64) (.pair (.int .i64) (.pair (.int .i64) (.pair (.sl (.int .i64)) .unit))))))) (.pair (.pair (.int .i64) (.pair (.int .i64) (.pair (.int .i64) (.pair (.int .i64) (.pair (.int .i64) (.pair (.sl (.int .i64)) .unit)))))) .unit)) a6 fun s3 => asNil r5 <| l171r7 (fun z1 => K (.exit 2) [(1, .vec 0)] [.row .bool z1 false]) s1 s2 s3
theorem l171r7v : LoopV E (inlF (PA (ACall E)) E 8) (E.info 171).keep 1 Try.f171.ntmps 172000007 (body Try.f171 7) ([1, 2, 6], lsl171r7) := by
  intro vs σ K (h0 : lsl171r7 vs σ K)
  unfold lsl171r7 at h0
  obtain ⟨a1, r1, rfl, h1⟩ := asCons_inv h0; clear h0
  obtain ⟨rfl, h2⟩ := asP_inv h1; clear h1
  obtain ⟨a2, r2, rfl, h3⟩ := asCons_inv h2; clear h2
  obtain ⟨rfl, h4⟩ := asP_inv h3; clear h3
  obtain ⟨a3, r3, rfl, h5⟩ := asCons_inv h4; clear h4
  obtain ⟨s1, rfl, h6⟩ := asD_inv h5; clear h5
  obtain ⟨rfl, h7⟩ := asNil_inv h6; clear h6
  obtain ⟨a4, r4, rfl, h8⟩ := asCons_inv h7; clear h7
  obtain ⟨s2, rfl, h9⟩ := asRw_inv h8; clear h8
  obtain ⟨a5, r5, rfl, h10⟩ := asCons_inv h9; clear h9
  obtain ⟨a6, rfl, h11⟩ := asOne_inv h10; clear h10
  obtain ⟨s3, rfl, h12⟩ := asD_inv h11; clear h11
  obtain ⟨rfl, h13⟩ := asNil_inv h12; clear h12
  intro J hJ
  have hp : ∀ c' ∈ subsOf (E.info 171).keep (body Try.f171 7), SubOK E (inlF (PA (ACall E)) E 8) (E.info 171).keep 1 Try.f171.ntmps (lofL Ll171r7) c' := all_eq (by kernel_rfl : subsOf (E.info 171).keep (body Try.f171 7) = [.loop (body Try.f171 11)]) (all_cons (loopOK_of (mk := 172000011) (sl := [1, 2, 6, 42, 43, 44]) (ss := [([1, 2, 6, 42, 43, 44], lsl171r11), ([1, 2, 6, 42, 43, 44], lsl171r11v2)]) (by kernel_rfl) (by kernel_rfl) (all_cons l171r11v (all_cons l171r11v2v (all_nil)))) (all_nil))
  exact h13.of (fun s1 s2 s3 => J [(172000007, .undef), (1, .vec 0), (2, .ptr 1 0 []), (6, I s1)] [.row .bool s2 false, .one (.pair (.sl (.pair (.int .i64) (.pair (.int .i64) (.pair (.int .i64) (.pair (.int .i64) (.pair (.int .i64) (.pair (.sl (.int .i64)) .unit))))))) (.pair (.pair (.int .i64) (.pair (.int .i64) (.pair (.int .i64) (.pair (.int .i64) (.pair (.int .i64) (.pair (.sl (.int .i64)) .unit)))))) .unit)) (.d (.pair (.sl (.pair (.int .i64) (.pair (.int .i64) (.pair (.int .i64) (.pair (.int .i64) (.pair (.int .i64) (.pair (.sl (.int .i64)) .unit))))))) (.pair (.pair (.int .i64) (.pair (.int .i64) (.pair (.int .i64) (.pair (.int .i64) (.pair (.int .i64) (.pair (.sl (.int .i64)) .unit)))))) .unit)) s3)]) (fun s1 s2 s3 hb => loop_round2 (S := ofL Sl171r7) (L := lofL Ll171r7) hSl171r7 (inlOK _) hp hJ (by kernel_rfl) hb)

abbrev Sl171r2v2 : List (Nat × Pat × Sp) := []
theorem hSl171r2v2 : SpecOK E (ofL Sl171r2v2) := specOK_nil
abbrev Ll171r2v2 : List (Nat × List Nat × Pat × LSp) := []
def lsl171r2v2 : LSp := fun vs σ K => asCons vs fun a1 r1 => asP (.vec 0) a1 <| asCons r1 fun a2 r2 => asP (.ptr 1 0 []) a2 <| asCons r2 fun a3 r3 => asSl 2 false a3 fun s1 s2 s3 => asCons r3 fun a4 r4 => asD (.int .i64) a4 fun s4 => asCons r4 fun a5 r5 => asD (.int .i64) a5 fun s5 => asNil r5 <| asCons σ fun a6 r6 => asRw .bool false a6 fun s6 => asCons r6 fun a7 r7 => asOne (.pair (.sl (.pair (.int .i64) (.pair (.int .i64) (.pair (.int .i64) (.pair (.int .i64) (.pair (.int .i64) (.pair (.sl (.int .i64)) .unit))))))) (.pair (.pair (.int .i64) (.pair (.int .i64) (.pair (.int .i64) (.pair (.int .i64) (.pair (.int .i64) (.pair (.sl (.int .i64)) .unit)))))) .unit)) a7 fun a8 => asD (.pair (.sl (.pair (.int .i64) (.pair (.int .i64) (.pair (.int .i64) (.pair (.int .i64) (.pair (.int .i64) (.pair (.sl (.int .i64)) .unit))))))) (.pair (.pair (.int .i64) (.pair (.int .i64) (.pair (.int .i64) (.pair (.int .i64) (.pair (.int .i64) (.pair (.sl (.int .i64)) .unit)))))) .unit)) a8 fun s7 => asCons r7 fun a9 r9 => asRw (.int .i64) false a9 fun s8 => asNil r9 <| l171r2v2 (fun z1 z2 => K (.exit 0) [(1, .vec 0), (2, .ptr 1 0 [])] [.row .bool z1 false, .one (.pair (.sl (.pair (.int .i64) (.pair (.int .i64) (.pair (.int .i64) (.pair (.int .i64) (.pair (.int .i64) (.pair (.sl (.int .i64)) .unit))))))) (.pair (.pair (.int .i64) (.pair (.int .i64) (.pair (.int .i64) (.pair (.int .i64) (.pair (.int .i64) (.pair (.sl (.int .i64)) .unit)))))) .unit)) (.d (.pair (.sl (.pair (.int .i64) (.pair (.int .i64) (.pair (.int .i64) (.pair (.int .i64) (.pair (.int .i64) (.pair (.sl (.int .i64)) .unit))))))) (.pair (.pair (.int .i64) (.pair (.int .i64) (.pair (.int .i64) (.pair (.int .i64) (.pair (.int .i64) (.pair (.sl (.int .i64)) .unit)))))) .unit)) z2)]) s1 s2 s3 s4 s5 s6 s7 s8
theorem l171r2v2v : LoopV E (inlF (PA (ACall E)) E 8) (E.info 171).keep 1 Try.f171.ntmps 172000002 (body Try.f171 2) ([1, 2, 11, 12, 13], lsl171r2v2) := by
  intro vs σ K (h0 : lsl171r2v2 vs σ K)
  unfold lsl171r2v2 at h0
  obtain ⟨a1, r1, rfl, h1⟩ := asCons_inv h0; clear h0
  obtain ⟨rfl, h2⟩ := asP_inv h1; clear h1
  obtain ⟨a2, r2, rfl, h3⟩ := asCons_inv h2; clear h2
  obtain ⟨rfl, h4⟩ := asP_inv h3; clear h3
  obtain ⟨a3, r3, rfl, h5⟩ := asCons_inv h4; clear h4
  obtain ⟨s1, s2, s3, rfl, h6⟩ := asSl_inv h5; clear h5
  obtain ⟨a4, r4, rfl, h7⟩ := asCons_inv h6; clear h6
  obtain ⟨s4, rfl, h8⟩ := asD_inv h7; clear h7
  obtain ⟨a5, r5, rfl, h9⟩ := asCons_inv h8; clear h8
  obtain ⟨s5, rfl, h10⟩ := asD_inv h9; clear h9
  obtain ⟨rfl, h11⟩ := asNil_inv h10; clear h10
  obtain ⟨a6, r6, rfl, h12⟩ := asCons_inv h11; clear h11
  obtain ⟨s6, rfl, h13⟩ := asRw_inv h12; clear h12
  obtain ⟨a7, r7, rfl, h14⟩ := asCons_inv h13; clear h13
  obtain ⟨a8, rfl, h15⟩ := asOne_inv h14; clear h14
  obtain ⟨s7, rfl, h16⟩ := asD_inv h15; clear h15
  obtain ⟨a9, r9, rfl, h17⟩ := asCons_inv h16; clear h16
  obtain ⟨s8, rfl, h18⟩ := asRw_inv h17; clear h17
  obtain ⟨rfl, h19⟩ := asNil_inv h18; clear h18
  intro J hJ
  have hp : ∀ c' ∈ subsOf (E.info 171).keep (body Try.f171 2), SubOK E (inlF (PA (ACall E)) E 8) (E.info 171).keep 1 Try.f171.ntmps (lofL Ll171r2v2) c' := all_eq (by kernel_rfl : subsOf (E.info 171).keep (body Try.f171 2) = []) (all_nil)
  exact h19.of (fun s1 s2 s3 s4 s5 s6 s7 s8 => J [(172000002, .undef), (1, .vec 0), (2, .ptr 1 0 []), (11, .sl 2 s1 s2 s3 false), (12, I s4), (13, I s5)] [.row .bool s6 false, .one (.pair (.sl (.pair (.int .i64) (.pair (.int .i64) (.pair (.int .i64) (.pair (.int .i64) (.pair (.int .i64) (.pair (.sl (.int .i64)) .unit))))))) (.pair (.pair (.int .i64) (.pair (.int .i64) (.pair (.int .i64) (.pair (.int .i64) (.pair (.int .i64) (.pair (.sl (.int .i64)) .unit)))))) .unit)) (.d (.pair (.sl (.pair (.int .i64) (.pair (.int .i64) (.pair (.int .i64) (.pair (.int .i64) (.pair (.int .i64) (.pair (.sl (.int .i64)) .unit))))))) (.pair (.pair (.int .i64) (.pair (.int .i64) (.pair (.int .i64) (.pair (.int .i64) (.pair (.int .i64) (.pair (.sl (.int .i64)) .unit)))))) .unit)) s7), .row (.int .i64) s8 false]) (fun s1 s2 s3 s4 s5 s6 s7 s8 hb => loop_round2 (S := ofL Sl171r2v2) (L := lofL Ll171r2v2) hSl171r2v2 (inlOK _) hp hJ (by kernel_rfl) hb)

abbrev S171 : List (Nat × Pat × Sp) := [(29, none, sp29)]
theorem hS171 : SpecOK E (ofL S171) := specOK_cons h29 (specOK_nil)
abbrev L171 : List (Nat × List Nat × Pat × LSp) := [(172000002, [1, 2, 11, 12, 13], some ([.fix (.vec 0), .fix (.ptr 1 0 []), .fix (.vec 2), .d (.int .i64), .d (.int .i64)], [.row .bool false, .one (.pair (.sl (.pair (.int .i64) (.pair (.int .i64) (.pair (.int .i64) (.pair (.int .i64) (.pair (.int .i64) (.pair (.sl (.int .i64)) .unit))))))) (.pair (.pair (.int .i64) (.pair (.int .i64) (.pair (.int .i64) (.pair (.int .i64) (.pair (.int .i64) (.pair (.sl (.int .i64)) .unit)))))) .unit)) (.d (.pair (.sl (.pair (.int .i64) (.pair (.int .i64) (.pair (.int .i64) (.pair (.int .i64) (.pair (.int .i64) (.pair (.sl (.int .i64)) .unit))))))) (.pair (.pair (.int .i64) (.pair (.int .i64) (.pair (.int .i64) (.pair (.int .i64) (.pair (.int .i64) (.pair (.sl (.int .i64)) .unit)))))) .unit))), .row (.int .i64) false]), lsl171r2), (172000007, [1, 2, 6], none, lsl171r7), (172000002, [1, 2, 11, 12, 13], some ([.fix (.vec 0), .fix (.ptr 1 0 []), .sl 2 false, .d (.int .i64), .d (.int .i64)], [.row .bool false, .one (.pair (.sl (.pair (.int .i64) (.pair (.int .i64) (.pair (.int .i64) (.pair (.int .i64) (.pair (.int .i64) (.pair (.sl (.int .i64)) .unit))))))) (.pair (.pair (.int .i64) (.pair (.int .i64) (.pair (.int .i64) (.pair (.int .i64) (.pair (.int .i64) (.pair (.sl (.int .i64)) .unit)))))) .unit)) (.d (.pair (.sl (.pair (.int .i64) (.pair (.int .i64) (.pair (.int .i64) (.pair (.int .i64) (.pair (.int .i64) (.pair (.sl (.int .i64)) .unit))))))) (.pair (.pair (.int .i64) (.pair (.int .i64) (.pair (.int .i64) (.pair (.int .i64) (.pair (.int .i64) (.pair (.sl (.int .i64)) .unit)))))) .unit))), .row (.int .i64) false]), lsl171r2v2)]
def sp171 : Sp := fun args τ K => asCons args fun a1 r1 => asD (.pair (.sl (.pair (.int .i64) (.pair (.int .i64) (.pair (.int .i64) (.pair (.int .i64) (.pair (.int .i64) (.pair (.sl (.int .i64)) .unit))))))) (.pair (.pair (.int .i64) (.pair (.int .i64) (.pair (.int .i64) (.pair (.int .i64) (.pair (.int .i64) (.pair (.sl (.int .i64)) .unit)))))) .unit)) a1 fun x1 => asCons r1 fun a2 r2 => asP (.vec 0) a2 <| asNil r2 <| asCons τ fun a3 r3 => asRw .bool false a3 fun x2 => asNil r3 <| c171 x1 x2 (fun z1 => K (.tup []) [.row .bool z1 false])
theorem h171 : ∀ args τ K, sp171 args τ K → ACall E 171 args τ K := by
  intro args τ K h0
  unfold sp171 at h0
  obtain ⟨a1, r1, rfl, h1⟩ := asCons_inv h0; clear h0
  obtain ⟨x1, rfl, h2⟩ := asD_inv h1; clear h1
  obtain ⟨a2, r2, rfl, h3⟩ := asCons_inv h2; clear h2
  obtain ⟨rfl, h4⟩ := asP_inv h3; clear h3
  obtain ⟨rfl, h5⟩ := asNil_inv h4; clear h4
  obtain ⟨a3, r3, rfl, h6⟩ := asCons_inv h5; clear h5
  obtain ⟨x2, rfl, h7⟩ := asRw_inv h6; clear h6
  obtain ⟨rfl, h8⟩ := asNil_inv h7; clear h7
  exact ACall.spec2 (fn := Try.f171) (c := codeOf Try.f171) (S := ofL S171) (L := lofL L171) hS171 (by kernel_rfl) (by kernel_rfl) (inlOK _) (all_eq (by kernel_rfl : subsOf (E.info 171).keep (codeOf Try.f171) = [.loop (body Try.f171 2), .loop (body Try.f171 7)]) (all_cons (loopOK_of (mk := 172000002) (sl := [1, 2, 11, 12, 13]) (ss := [([1, 2, 11, 12, 13], lsl171r2), ([1, 2, 11, 12, 13], lsl171r2v2)]) (by kernel_rfl) (by kernel_rfl) (all_cons l171r2v (all_cons l171r2v2v (all_nil)))) (all_cons (loopOK_of (mk := 172000007) (sl := [1, 2, 6]) (ss := [([1, 2, 6], lsl171r7)]) (by kernel_rfl) (by kernel_rfl) (all_cons l171r7v (all_nil))) (all_nil)))) (by kernel_rfl) h8.of

abbrev Sl172r4 : List (Nat × Pat × Sp) := []
theorem hSl172r4 : SpecOK E (ofL Sl172r4) := specOK_nil
abbrev Ll172r4 : List (Nat × List Nat × Pat × LSp) := []
def lsl172r4 : LSp := fun vs σ K => asCons vs fun a1 r1 => asD (.sl .bool) a1 fun s1 => asCons r1 fun a2 r2 => asD (.sl .bool) a2 fun s2 => asCons r2 fun a3 r3 => asD (.int .i64) a3 fun s3 => asCons r3 fun a4 r4 => asD (.int .i64) a4 fun s4 => asNil r4 <| asNil σ <| l172r4 (fun z1 => K .ret [(4, B z1)] []) (K (.exit 0) [(4, .undef)] []) s1 s2 s3 s4
theorem l172r4v : LoopV E (inlF (PA (ACall E)) E 8) (E.info 172).keep 0 Try.f172.ntmps 173000004 (body Try.f172 4) ([0, 1, 12, 13], lsl172r4) := by
  intro vs σ K (h0 : lsl172r4 vs σ K)
  unfold lsl172r4 at h0
  obtain ⟨a1, r1, rfl, h1⟩ := asCons_inv h0; clear h0
  obtain ⟨s1, rfl, h2⟩ := asD_inv h1; clear h1
  obtain ⟨a2, r2, rfl, h3⟩ := asCons_inv h2; clear h2
  obtain ⟨s2, rfl, h4⟩ := asD_inv h3; clear h3
  obtain ⟨a3, r3, rfl, h5⟩ := asCons_inv h4; clear h4
  obtain ⟨s3, rfl, h6⟩ := asD_inv h5; clear h5
  obtain ⟨a4, r4, rfl, h7⟩ := asCons_inv h6; clear h6
  obtain ⟨s4, rfl, h8⟩ := asD_inv h7; clear h7
  obtain ⟨rfl, h9⟩ := asNil_inv h8; clear h8
  obtain ⟨rfl, h10⟩ := asNil_inv h9; clear h9
  intro J hJ
  have hp : ∀ c' ∈ subsOf (E.info 172).keep (body Try.f172 4), SubOK E (inlF (PA (ACall E)) E 8) (E.info 172).keep 0 Try.f172.ntmps (lofL Ll172r4) c' := all_eq (by kernel_rfl : subsOf (E.info 172).keep (body Try.f172 4) = []) (all_nil)
  exact h10.of (fun s1 s2 s3 s4 => J [(173000004, .undef), (0, .d (.sl .bool) s1), (1, .d (.sl .bool) s2), (12, I s3), (13, I s4)] []) (fun s1 s2 s3 s4 hb => loop_round2 (S := ofL Sl172r4) (L := lofL Ll172r4) hSl172r4 (inlOK _) hp hJ (by kernel_rfl) hb)

abbrev S172 : List (Nat × Pat × Sp) := []
theorem hS172 : SpecOK E (ofL S172) := specOK_nil
abbrev L172 : List (Nat × List Nat × Pat × LSp) := [(173000004, [0, 1, 12, 13], none, lsl172r4)]
def sp172 : Sp := fun args τ K => asCons args fun a1 r1 => asD (.sl .bool) a1 fun x1 => asCons r1 fun a2 r2 => asD (.sl .bool) a2 fun x2 => asNil r2 <| asNil τ <| c172 x1 x2 (fun z1 => K (B z1) [])
theorem h172 : ∀ args τ K, sp172 args τ K → ACall E 172 args τ K := by
  intro args τ K h0
  unfold sp172 at h0
  obtain ⟨a1, r1, rfl, h1⟩ := asCons_inv h0; clear h0
  obtain ⟨x1, rfl, h2⟩ := asD_inv h1; clear h1
  obtain ⟨a2, r2, rfl, h3⟩ := asCons_inv h2; clear h2
  obtain ⟨x2, rfl, h4⟩ := asD_inv h3; clear h3
  obtain ⟨rfl, h5⟩ := asNil_inv h4; clear h4
  obtain ⟨rfl, h6⟩ := asNil_inv h5; clear h5
  exact ACall.spec2 (fn := Try.f172) (c := codeOf Try.f172) (S := ofL S172) (L := lofL L172) hS172 (by kernel_rfl) (by kernel_rfl) (inlOK _) (all_eq (by kernel_rfl : subsOf (E.info 172).keep (codeOf Try.f172) = [.loop (body Try.f172 4)]) (all_cons (loopOK_of (mk := 173000004) (sl := [0, 1, 12, 13]) (ss := [([0, 1, 12, 13], lsl172r4)]) (by kernel_rfl) (by kernel_rfl) (all_cons l172r4v (all_nil))) (all_nil))) (by kernel_rfl) h6.of

abbrev Sl97r11 : List (Nat × Pat × Sp) := [(101, none, sp101), (171, none, sp171), (172, none, sp172)]
theorem hSl97r11 : SpecOK E (ofL Sl97r11) := specOK_cons h101 (specOK_cons h171 (specOK_cons h172 (specOK_nil)))
abbrev Ll97r11 : List (Nat × List Nat × Pat × LSp) := []
def lsl97r11 : LSp := fun vs σ K => asCons vs fun a1 r1 => asP (.ptr 0 0 []) a1 <| asCons r1 fun a2 r2 => asP (.vec 1) a2 <| asCons r2 fun a3 r3 => asD .bool a3 fun s1 => asCons r3 fun a4 r4 => asD (.int .i64) a4 fun s2 => asNil r4 <| asCons σ fun a5 r5 => asOne (.pair (.int .i64) (.pair (.sl (.int .i64)) (.pair (.int .i64) (.pair (.sl (.pair (.sl (.pair (.int .i64) (.pair (.int .i64) (.pair (.int .i64) (.pair (.int .i64) (.pair (.int .i64) (.pair (.sl (.int .i64)) .unit))))))) (.pair (.pair (.int .i64) (.pair (.int .i64) (.pair (.int .i64) (.pair (.int .i64) (.pair (.int .i64) (.pair (.sl (.int .i64)) .unit)))))) .unit))) .unit)))) a5 fun a6 => asD (.pair (.int .i64) (.pair (.sl (.int .i64)) (.pair (.int .i64) (.pair (.sl (.pair (.sl (.pair (.int .i64) (.pair (.int .i64) (.pair (.int .i64) (.pair (.int .i64) (.pair (.int .i64) (.pair (.sl (.int .i64)) .unit))))))) (.pair (.pair (.int .i64) (.pair (.int .i64) (.pair (.int .i64) (.pair (.int .i64) (.pair (.int .i64) (.pair (.sl (.int .i64)) .unit)))))) .unit))) .unit)))) a6 fun s3 => asCons r5 fun a7 r7 => asRw (.sl .bool) false a7 fun s4 => asNil r7 <| l97r11 (fun z1 z2 z3 => K (.exit 4) [(1, .ptr 0 0 []), (3, .vec 1), (5, B z1)] [.one (.pair (.int .i64) (.pair (.sl (.int .i64)) (.pair (.int .i64) (.pair (.sl (.pair (.sl (.pair (.int .i64) (.pair (.int .i64) (.pair (.int .i64) (.pair (.int .i64) (.pair (.int .i64) (.pair (.sl (.int .i64)) .unit))))))) (.pair (.pair (.int .i64) (.pair (.int .i64) (.pair (.int .i64) (.pair (.int .i64) (.pair (.int .i64) (.pair (.sl (.int .i64)) .unit)))))) .unit))) .unit)))) (.d (.pair (.int .i64) (.pair (.sl (.int .i64)) (.pair (.int .i64) (.pair (.sl (.pair (.sl (.pair (.int .i64) (.pair (.int .i64) (.pair (.int .i64) (.pair (.int .i64) (.pair (.int .i64) (.pair (.sl (.int .i64)) .unit))))))) (.pair (.pair (.int .i64) (.pair (.int .i64) (.pair (.int .i64) (.pair (.int .i64) (.pair (.int .i64) (.pair (.sl (.int .i64)) .unit)))))) .unit))) .unit)))) z2), .row (.sl .bool) z3 false]) s1 s2 s3 s4
theorem l97r11v : LoopV E (inlF (PA (ACall E)) E 8) (E.info 97).keep 0 Try.f97.ntmps 98000011 (body Try.f97 11) ([1, 3, 5, 6], lsl97r11) := by
  intro vs σ K (h0 : lsl97r11 vs σ K)
  unfold lsl97r11 at h0
  obtain ⟨a1, r1, rfl, h1⟩ := asCons_inv h0; clear h0
  obtain ⟨rfl, h2⟩ := asP_inv h1; clear h1
  obtain ⟨a2, r2, rfl, h3⟩ := asCons_inv h2; clear h2
  obtain ⟨rfl, h4⟩ := asP_inv h3; clear h3
  obtain ⟨a3, r3, rfl, h5⟩ := asCons_inv h4; clear h4
  obtain ⟨s1, rfl, h6⟩ := asD_inv h5; clear h5
  obtain ⟨a4, r4, rfl, h7⟩ := asCons_inv h6; clear h6
  obtain ⟨s2, rfl, h8⟩ := asD_inv h7; clear h7
  obtain ⟨rfl, h9⟩ := asNil_inv h8; clear h8
  obtain ⟨a5, r5, rfl, h10⟩ := asCons_inv h9; clear h9
  obtain ⟨a6, rfl, h11⟩ := asOne_inv h10; clear h10
  obtain ⟨s3, rfl, h12⟩ := asD_inv h11; clear h11
  obtain ⟨a7, r7, rfl, h13⟩ := asCons_inv h12; clear h12
  obtain ⟨s4, rfl, h14⟩ := asRw_inv h13; clear h13
  obtain ⟨rfl, h15⟩ := asNil_inv h14; clear h14
  intro J hJ
  have hp : ∀ c' ∈ subsOf (E.info 97).keep (body Try.f97 11), SubOK E (inlF (PA (ACall E)) E 8) (E.info 97).keep 0 Try.f97.ntmps (lofL Ll97r11) c' := all_eq (by kernel_rfl : subsOf (E.info 97).keep (body Try.f97 11) = []) (all_nil)
  exact h15.of (fun s1 s2 s3 s4 => J [(98000011, .undef), (1, .ptr 0 0 []), (3, .vec 1), (5, B s1), (6, I s2)] [.one (.pair (.int .i64) (.pair (.sl (.int .i64)) (.pair (.int .i64) (.pair (.sl (.pair (.sl (.pair (.int .i64) (.pair (.int .i64) (.pair (.int .i64) (.pair (.int .i64) (.pair (.int .i64) (.pair (.sl (.int .i64)) .unit))))))) (.pair (.pair (.int .i64) (.pair (.int .i64) (.pair (.int .i64) (.pair (.int .i64) (.pair (.int .i64) (.pair (.sl (.int .i64)) .unit)))))) .unit))) .unit)))) (.d (.pair (.int .i64) (.pair (.sl (.int .i64)) (.pair (.int .i64) (.pair (.sl (.pair (.sl (.pair (.int .i64) (.pair (.int .i64) (.pair (.int .i64) (.pair (.int .i64) (.pair (.int .i64) (.pair (.sl (.int .i64)) .unit))))))) (.pair (.pair (.int .i64) (.pair (.int .i64) (.pair (.int .i64) (.pair (.int .i64) (.pair (.int .i64) (.pair (.sl (.int .i64)) .unit)))))) .unit))) .unit)))) s3), .row (.sl .bool) s4 false]) (fun s1 s2 s3 s4 hb => loop_round2 (S := ofL Sl97r11) (L := lofL Ll97r11) hSl97r11 (inlOK _) hp hJ (by kernel_rfl) hb)

abbrev Sl97r8 : List (Nat × Pat × Sp) := []
theorem hSl97r8 : SpecOK E (ofL Sl97r8) := specOK_nil
abbrev Ll97r8 : List (Nat × List Nat × Pat × LSp) := [(98000011, [1, 3, 5, 6], none, lsl97r11)]
def lsl97r8 : LSp := fun vs σ K => asCons vs fun a1 r1 => asP (.ptr 0 0 []) a1 <| asCons r1 fun a2 r2 => asP (.vec 1) a2 <| asCons r2 fun a3 r3 => asD .bool a3 fun s1 => asNil r3 <| asCons σ fun a4 r4 => asOne (.pair (.int .i64) (.pair (.sl (.int .i64)) (.pair (.int .i64) (.pair (.sl (.pair (.sl (.pair (.int .i64) (.pair (.int .i64) (.pair (.int .i64) (.pair (.int .i64) (.pair (.int .i64) (.pair (.sl (.int .i64)) .unit))))))) (.pair (.pair (.int .i64) (.pair (.int .i64) (.pair (.int .i64) (.pair (.int .i64) (.pair (.int .i64) (.pair (.sl (.int .i64)) .unit)))))) .unit))) .unit)))) a4 fun a5 => asD (.pair (.int .i64) (.pair (.sl (.int .i64)) (.pair (.int .i64) (.pair (.sl (.pair (.sl (.pair (.int .i64) (.pair (.int .i64) (.pair (.int .i64) (.pair (.int .i64) (.pair (.int .i64) (.pair (.sl (.int .i64)) .unit))))))) (.pair (.pair (.int .i64) (.pair (.int .i64) (.pair (.int .i64) (.pair (.int .i64) (.pair (.int .i64) (.pair (.sl (.int .i64)) .unit)))))) .unit))) .unit)))) a5 fun s2 => asCons r4 fun a6 r6 => asRw (.sl .bool) false a6 fun s3 => asNil r6 <| l97r8 (fun z1 => K (.exit 2) [(3, .vec 0)] [.row (.sl .bool) z1 false]) s1 s2 s3
theorem l97r8v : LoopV E (inlF (PA (ACall E)) E 8) (E.info 97).keep 0 Try.f97.ntmps 98000008 (body Try.f97 8) ([1, 3, 5], lsl97r8) := by
  intro vs σ K (h0 : lsl97r8 vs σ K)
  unfold lsl97r8 at h0
  obtain ⟨a1, r1, rfl, h1⟩ := asCons_inv h0; clear h0
  obtain ⟨rfl, h2⟩ := asP_inv h1; clear h1
  obtain ⟨a2, r2, rfl, h3⟩ := asCons_inv h2; clear h2
  obtain ⟨rfl, h4⟩ := asP_inv h3; clear h3
  obtain ⟨a3, r3, rfl, h5⟩ := asCons_inv h4; clear h4
  obtain ⟨s1, rfl, h6⟩ := asD_inv h5; clear h5
  obtain ⟨rfl, h7⟩ := asNil_inv h6; clear h6
  obtain ⟨a4, r4, rfl, h8⟩ := asCons_inv h7; clear h7
  obtain ⟨a5, rfl, h9⟩ := asOne_inv h8; clear h8
  obtain ⟨s2, rfl, h10⟩ := asD_inv h9; clear h9
  obtain ⟨a6, r6, rfl, h11⟩ := asCons_inv h10; clear h10
  obtain ⟨s3, rfl, h12⟩ := asRw_inv h11; clear h11
  obtain ⟨rfl, h13⟩ := asNil_inv h12; clear h12
  intro J hJ
  have hp : ∀ c' ∈ subsOf (E.info 97).keep (body Try.f97 8), SubOK E (inlF (PA (ACall E)) E 8) (E.info 97).keep 0 Try.f97.ntmps (lofL Ll97r8) c' := all_eq (by kernel_rfl : subsOf (E.info 97).keep (body Try.f97 8) = [.loop (body Try.f97 11)]) (all_cons (loopOK_of (mk := 98000011) (sl := [1, 3, 5, 6]) (ss := [([1, 3, 5, 6], lsl97r11)]) (by kernel_rfl) (by kernel_rfl) (all_cons l97r11v (all_nil))) (all_nil))
  exact h13.of (fun s1 s2 s3 => J [(98000008, .undef), (1, .ptr 0 0 []), (3, .vec 1), (5, B s1)] [.one (.pair (.int .i64) (.pair (.sl (.int .i64)) (.pair (.int .i64) (.pair (.sl (.pair (.sl (.pair (.int .i64) (.pair (.int .i64) (.pair (.int .i64) (.pair (.int .i64) (.pair (.int .i64) (.pair (.sl (.int .i64)) .unit))))))) (.pair (.pair (.int .i64) (.pair (.int .i64) (.pair (.int .i64) (.pair (.int .i64) (.pair (.int .i64) (.pair (.sl (.int .i64)) .unit)))))) .unit))) .unit)))) (.d (.pair (.int .i64) (.pair (.sl (.int .i64)) (.pair (.int .i64) (.pair (.sl (.pair (.sl (.pair (.int .i64) (.pair (.int .i64) (.pair (.int .i64) (.pair (.int .i64) (.pair (.int .i64) (.pair (.sl (.int .i64)) .unit))))))) (.pair (.pair (.int .i64) (.pair (.int .i64) (.pair (.int .i64) (.pair (.int .i64) (.pair (.int .i64) (.pair (.sl (.int .i64)) .unit)))))) .unit))) .unit)))) s2), .row (.sl .bool) s3 false]) (fun s1 s2 s3 hb => loop_round2 (S := ofL Sl97r8) (L := lofL Ll97r8) hSl97r8 (inlOK _) hp hJ (by kernel_rfl) hb)

abbrev S97 : List (Nat × Pat × Sp) := []
theorem hS97 : SpecOK E (ofL S97) := specOK_nil
abbrev L97 : List (Nat × List Nat × Pat × LSp) := [(98000003, [1, 3, 13, 14], none, lsl97r3), (98000008, [1, 3, 5], none, lsl97r8)]
def sp97 : Sp := fun args τ K => asCons args fun a1 r1 => asD (.pair (.int .i64) (.pair (.sl (.int .i64)) (.pair (.int .i64) (.pair (.sl (.pair (.sl (.pair (.int .i64) (.pair (.int .i64) (.pair (.int .i64) (.pair (.int .i64) (.pair (.int .i64) (.pair (.sl (.int .i64)) .unit))))))) (.pair (.pair (.int .i64) (.pair (.int .i64) (.pair (.int .i64) (.pair (.int .i64) (.pair (.int .i64) (.pair (.sl (.int .i64)) .unit)))))) .unit))) .unit)))) a1 fun x1 => asNil r1 <| asNil τ <| c97 x1 (fun z1 => K (.vec 0) [.row (.sl .bool) z1 false])
theorem h97 : ∀ args τ K, sp97 args τ K → ACall E 97 args τ K := by
  intro args τ K h0
  unfold sp97 at h0
  obtain ⟨a1, r1, rfl, h1⟩ := asCons_inv h0; clear h0
  obtain ⟨x1, rfl, h2⟩ := asD_inv h1; clear h1
  obtain ⟨rfl, h3⟩ := asNil_inv h2; clear h2
  obtain ⟨rfl, h4⟩ := asNil_inv h3; clear h3
  exact ACall.spec2 (fn := Try.f97) (c := codeOf Try.f97) (S := ofL S97) (L := lofL L97) hS97 (by kernel_rfl) (by kernel_rfl) (inlOK _) (all_eq (by kernel_rfl : subsOf (E.info 97).keep (codeOf Try.f97) = [.loop (body Try.f97 3), .loop (body Try.f97 8)]) (all_cons (loopOK_of (mk := 98000003) (sl := [1, 3, 13, 14]) (ss := [([1, 3, 13, 14], lsl97r3)]) (by kernel_rfl) (by kernel_rfl) (all_cons l97r3v (all_nil))) (all_cons (loopOK_of (mk := 98000008) (sl := [1, 3, 5]) (ss := [([1, 3, 5], lsl97r8)]) (by kernel_rfl) (by kernel_rfl) (all_cons l97r8v (all_nil))) (all_nil)))) (by kernel_rfl) h4.of

abbrev Sl30r33 : List (Nat × Pat × Sp) := [(94, none, sp94)]
theorem hSl30r33 : SpecOK E (ofL Sl30r33) := specOK_cons h94 (specOK_nil)
abbrev Ll30r33 : List (Nat × List Nat × Pat × LSp) := []
def lsl30r33 : LSp := fun vs σ K => asCons vs fun a1 r1 => asP (.ptr 0 0 []) a1 <| asCons r1 fun a2 r2 => asP (.vec 1) a2 <| asCons r2 fun a3 r3 => asD (.int .i64) a3 fun s1 => asNil r3 <| asCons σ fun a4 r4 => asOne (.pair (.int .i64) (.pair (.sl (.int .i64)) (.pair (.int .i64) (.pair (.sl (.pair (.sl (.pair (.int .i64) (.pair (.int .i64) (.pair (.int .i64) (.pair (.int .i64) (.pair (.int .i64) (.pair (.sl (.int .i64)) .unit))))))) (.pair (.pair (.int .i64) (.pair (.int .i64) (.pair (.int .i64) (.pair (.int .i64) (.pair (.int .i64) (.pair (.sl (.int .i64)) .unit)))))) .unit))) .unit)))) a4 fun a5 => asD (.pair (.int .i64) (.pair (.sl (.int .i64)) (.pair (.int .i64) (.pair (.sl (.pair (.sl (.pair (.int .i64) (.pair (.int .i64) (.pair (.int .i64) (.pair (.int .i64) (.pair (.int .i64) (.pair (.sl (.int .i64)) .unit))))))) (.pair (.pair (.int .i64) (.pair (.int .i64) (.pair (.int .i64) (.pair (.int .i64) (.pair (.int .i64) (.pair (.sl (.int .i64)) .unit)))))) .unit))) .unit)))) a5 fun s2 => asCons r4 fun a6 r6 => asRw (.sl .bool) false a6 fun s3 => asNil r6 <| l30r33 (fun z1 => K .ret [(2, I z1)] []) (K (.exit 6) [(2, .undef)] []) s1 s2 s3
theorem l30r33v : LoopV E (inlF (PA (ACall E)) E 8) (E.info 30).keep 0 Try.f30.ntmps 31000033 (body Try.f30 33) ([1, 12, 13], lsl30r33) := by
  intro vs σ K (h0 : lsl30r33 vs σ K)
  unfold lsl30r33 at h0
  obtain ⟨a1, r1, rfl, h1⟩ := asCons_inv h0; clear h0
  obtain ⟨rfl, h2⟩ := asP_inv h1; clear h1
  obtain ⟨a2, r2, rfl, h3⟩ := asCons_inv h2; clear h2
  obtain ⟨rfl, h4⟩ := asP_inv h3; clear h3
  obtain ⟨a3, r3, rfl, h5⟩ := asCons_inv h4; clear h4
  obtain ⟨s1, rfl, h6⟩ := asD_inv h5; clear h5
  obtain ⟨rfl, h7⟩ := asNil_inv h6; clear h6
  obtain ⟨a4, r4, rfl, h8⟩ := asCons_inv h7; clear h7
  obtain ⟨a5, rfl, h9⟩ := asOne_inv h8; clear h8
  obtain ⟨s2, rfl, h10⟩ := asD_inv h9; clear h9
  obtain ⟨a6, r6, rfl, h11⟩ := asCons_inv h10; clear h10
  obtain ⟨s3, rfl, h12⟩ := asRw_inv h11; clear h11
  obtain ⟨rfl, h13⟩ := asNil_inv h12; clear h12
  intro J hJ
  have hp : ∀ c' ∈ subsOf (E.info 30).keep (body Try.f30 33), SubOK E (inlF (PA (ACall E)) E 8) (E.info 30).keep 0 Try.f30.ntmps (lofL Ll30r33) c' := all_eq (by kernel_rfl : subsOf (E.info 30).keep (body Try.f30 33) = []) (all_nil)
  exact h13.of (fun s1 s2 s3 => J [(31000033, .undef), (1, .ptr 0 0 []), (12, .vec 1), (13, I s1)] [.one (.pair (.int .i64) (.pair (.sl (.int .i64)) (.pair (.int .i64) (.pair (.sl (.pair (.sl (.pair (.int .i64) (.pair (.int .i64) (.pair (.int .i64) (.pair (.int .i64) (.pair (.int .i64) (.pair (.sl (.int .i64)) .unit))))))) (.pair (.pair (.int .i64) (.pair (.int .i64) (.pair (.int .i64) (.pair (.int .i64) (.pair (.int .i64) (.pair (.sl (.int .i64)) .unit)))))) .unit))) .unit)))) (.d (.pair (.int .i64) (.pair (.sl (.int .i64)) (.pair (.int .i64) (.pair (.sl (.pair (.sl (.pair (.int .i64) (.pair (.int .i64) (.pair (.int .i64) (.pair (.int .i64) (.pair (.int .i64) (.pair (.sl (.int .i64)) .unit))))))) (.pair (.pair (.int .i64) (.pair (.int .i64) (.pair (.int .i64) (.pair (.int .i64) (.pair (.int .i64) (.pair (.sl (.int .i64)) .unit)))))) .unit))) .unit)))) s2), .row (.sl .bool) s3 false]) (fun s1 s2 s3 hb => loop_round2 (S := ofL Sl30r33) (L := lofL Ll30r33) hSl30r33 (inlOK _) hp hJ (by kernel_rfl) hb)

abbrev S30 : List (Nat × Pat × Sp) := [(93, none, sp93), (97, none, sp97)]
theorem hS30 : SpecOK E (ofL S30) := specOK_cons h93 (specOK_cons h97 (specOK_nil))
abbrev L30 : List (Nat × List Nat × Pat × LSp) := [(31000006, [1, 35, 36, 37], none, lsl30r6), (31000015, [1, 5, 56, 57, 58], none, lsl30r15), (31000033, [1, 12, 13], none, lsl30r33)]
def sp30 : Sp := fun args τ K => asCons args fun a1 r1 => asD (.pair (.int .i64) (.pair (.sl (.int .i64)) (.pair (.int .i64) (.pair (.sl (.pair (.sl (.pair (.int .i64) (.pair (.int .i64) (.pair (.int .i64) (.pair (.int .i64) (.pair (.int .i64) (.pair (.sl (.int .i64)) .unit))))))) (.pair (.pair (.int .i64) (.pair (.int .i64) (.pair (.int .i64) (.pair (.int .i64) (.pair (.int .i64) (.pair (.sl (.int .i64)) .unit)))))) .unit))) .unit)))) a1 fun x1 => asNil r1 <| asNil τ <| c30 x1 (fun z1 => K (I z1) [])
theorem h30 : ∀ args τ K, sp30 args τ K → ACall E 30 args τ K := by
  intro args τ K h0
  unfold sp30 at h0
  obtain ⟨a1, r1, rfl, h1⟩ := asCons_inv h0; clear h0
  obtain ⟨x1, rfl, h2⟩ := asD_inv h1; clear h1
  obtain ⟨rfl, h3⟩ := asNil_inv h2; clear h2
  obtain ⟨rfl, h4⟩ := asNil_inv h3; clear h3
  exact ACall.spec2 (fn := Try.f30) (c := codeOf Try.f30) (S := ofL S30) (L := lofL L30) hS30 (by kernel_rfl) (by kernel_rfl) (inlOK _) (all_eq (by kernel_rfl : subsOf (E.info 30).keep (codeOf Try.f30) = [.loop (body Try.f30 6), .loop (body Try.f30 15), .loop (body Try.f30 33)]) (all_cons (loopOK_of (mk := 31000006) (sl := [1, 35, 36, 37]) (ss := [([1, 35, 36, 37], lsl30r6)]) (by kernel_rfl) (by kernel_rfl) (all_cons l30r6v (all_nil))) (all_cons (loopOK_of (mk := 31000015) (sl := [1, 5, 56, 57, 58]) (ss := [([1, 5, 56, 57, 58], lsl30r15)]) (by kernel_rfl) (by kernel_rfl) (all_cons l30r15v (all_nil))) (all_cons (loopOK_of (mk := 31000033) (sl := [1, 12, 13]) (ss := [([1, 12, 13], lsl30r33)]) (by kernel_rfl) (by kernel_rfl) (all_cons l30r33v (all_nil))) (all_nil))))) (by kernel_rfl) h4.of

abbrev Sl32r6 : List (Nat × Pat × Sp) := [(101, none, sp101)]
theorem hSl32r6 : SpecOK E (ofL Sl32r6) := specOK_cons h101 (specOK_nil)
abbrev Ll32r6 : List (Nat × List Nat × Pat × LSp) := []
def lsl32r6 : LSp := fun vs σ K => asCons vs fun a1 r1 => asP (.ptr 0 0 []) a1 <| asCons r1 fun a2 r2 => asP (.vec 1) a2 <| asCons r2 fun a3 r3 => asP (.vec 2) a3 <| asCons r3 fun a4 r4 => asD (.int .i64) a4 fun s1 => asCons r4 fun a5 r5 => asD (.int .i64) a5 fun s2 => asNil r5 <| asCons σ fun a6 r6 => asOne (.pair (.int .i64) (.pair (.sl (.int .i64)) (.pair (.int .i64) (.pair (.sl (.pair (.sl (.pair (.int .i64) (.pair (.int .i64) (.pair (.int .i64) (.pair (.int .i64) (.pair (.int .i64) (.pair (.sl (.int .i64)) .unit))))))) (.pair (.pair (.int .i64) (.pair (.int .i64) (.pair (.int .i64) (.pair (.int .i64) (.pair (.int .i64) (.pair (.sl (.int .i64)) .unit)))))) .unit))) .unit)))) a6 fun a7 => asD (.pair (.int .i64) (.pair (.sl (.int .i64)) (.pair (.int .i64) (.pair (.sl (.pair (.sl (.pair (.int .i64) (.pair (.int .i64) (.pair (.int .i64) (.pair (.int .i64) (.pair (.int .i64) (.pair (.sl (.int .i64)) .unit))))))) (.pair (.pair (.int .i64) (.pair (.int .i64) (.pair (.int .i64) (.pair (.int .i64) (.pair (.int .i64) (.pair (.sl (.int .i64)) .unit)))))) .unit))) .unit)))) a7 fun s3 => asCons r6 fun a8 r8 => asRw (.sl .bool) false a8 fun s4 => asCons r8 fun a9 r9 => asRw (.sl .bool) false a9 fun s5 => asNil r9 <| l32r6 (fun z1 z2 => K (.exit 0) [(2, .vec 0), (3, .vec 1)] [.row (.sl .bool) z1 false, .row (.sl .bool) z2 false]) s1 s2 s3 s4 s5
theorem l32r6v : LoopV E (inlF (PA (ACall E)) E 8) (E.info 32).keep 0 Try.f32.ntmps 33000006 (body Try.f32 6) ([1, 2, 3, 16, 17], lsl32r6) := by
  intro vs σ K (h0 : lsl32r6 vs σ K)
  unfold lsl32r6 at h0
  obtain ⟨a1, r1, rfl, h1⟩ := asCons_inv h0; clear h0
  obtain ⟨rfl, h2⟩ := asP_inv h1; clear h1
  obtain ⟨a2, r2, rfl, h3⟩ := asCons_inv h2; clear h2
  obtain ⟨rfl, h4⟩ := asP_inv h3; clear h3
  obtain ⟨a3, r3, rfl, h5⟩ := asCons_inv h4; clear h4
  obtain ⟨rfl, h6⟩ := asP_inv h5; clear h5
  obtain ⟨a4, r4, rfl, h7⟩ := asCons_inv h6; clear h6
  obtain ⟨s1, rfl, h8⟩ := asD_inv h7; clear h7
  obtain ⟨a5, r5, rfl, h9⟩ := asCons_inv h8; clear h8
  obtain ⟨s2, rfl, h10⟩ := asD_inv h9; clear h9
  obtain ⟨rfl, h11⟩ := asNil_inv h10; clear h10
  obtain ⟨a6, r6, rfl, h12⟩ := asCons_inv h11; clear h11
  obtain ⟨a7, rfl, h13⟩ := asOne_inv h12; clear h12
  obtain ⟨s3, rfl, h14⟩ := asD_inv h13; clear h13
  obtain ⟨a8, r8, rfl, h15⟩ := asCons_inv h14; clear h14
  obtain ⟨s4, rfl, h16⟩ := asRw_inv h15; clear h15
  obtain ⟨a9, r9, rfl, h17⟩ := asCons_inv h16; clear h16
  obtain ⟨s5, rfl, h18⟩ := asRw_inv h17; clear h17
  obtain ⟨rfl, h19⟩ := asNil_inv h18; clear h18
  intro J hJ
  have hp : ∀ c' ∈ subsOf (E.info 32).keep (body Try.f32 6), SubOK E (inlF (PA (ACall E)) E 8) (E.info 32).keep 0 Try.f32.ntmps (lofL Ll32r6) c' := all_eq (by kernel_rfl : subsOf (E.info 32).keep (body Try.f32 6) = []) (all_nil)
  exact h19.of (fun s1 s2 s3 s4 s5 => J [(33000006, .undef), (1, .ptr 0 0 []), (2, .vec 1), (3, .vec 2), (16, I s1), (17, I s2)] [.one (.pair (.int .i64) (.pair (.sl (.int .i64)) (.pair (.int .i64) (.pair (.sl (.pair (.sl (.pair (.int .i64) (.pair (.int .i64) (.pair (.int .i64) (.pair (.int .i64) (.pair (.int .i64) (.pair (.sl (.int .i64)) .unit))))))) (.pair (.pair (.int .i64) (.pair (.int .i64) (.pair (.int .i64) (.pair (.int .i64) (.pair (.int .i64) (.pair (.sl (.int .i64)) .unit)))))) .unit))) .unit)))) (.d (.pair (.int .i64) (.pair (.sl (.int .i64)) (.pair (.int .i64) (.pair (.sl (.pair (.sl (.pair (.int .i64) (.pair (.int .i64) (.pair (.int .i64) (.pair (.int .i64) (.pair (.int .i64) (.pair (.sl (.int .i64)) .unit))))))) (.pair (.pair (.int .i64) (.pair (.int .i64) (.pair (.int .i64) (.pair (.int .i64) (.pair (.int .i64) (.pair (.sl (.int .i64)) .unit)))))) .unit))) .unit)))) s3), .row (.sl .bool) s4 false, .row (.sl .bool) s5 false]) (fun s1 s2 s3 s4 s5 hb => loop_round2 (S := ofL Sl32r6) (L := lofL Ll32r6) hSl32r6 (inlOK _) hp hJ (by kernel_rfl) hb)

abbrev S32 : List (Nat × Pat × Sp) := [(30, none, sp30), (97, none, sp97)]
theorem hS32 : SpecOK E (ofL S32) := specOK_cons h30 (specOK_cons h97 (specOK_nil))
abbrev L32 : List (Nat × List Nat × Pat × LSp) := [(33000006, [1, 2, 3, 16, 17], none, lsl32r6)]
def sp32 : Sp := fun args τ K => asCons args fun a1 r1 => asD (.pair (.int .i64) (.pair (.sl (.int .i64)) (.pair (.int .i64) (.pair (.sl (.pair (.sl (.pair (.int .i64) (.pair (.int .i64) (.pair (.int .i64) (.pair (.int .i64) (.pair (.int .i64) (.pair (.sl (.int .i64)) .unit))))))) (.pair (.pair (.int .i64) (.pair (.int .i64) (.pair (.int .i64) (.pair (.int .i64) (.pair (.int .i64) (.pair (.sl (.int .i64)) .unit)))))) .unit))) .unit)))) a1 fun x1 => asNil r1 <| asNil τ <| c32 x1 (fun z1 z2 z3 => K (.tup [.vec 0, .vec 1, I z1]) [.row (.sl .bool) z2 false, .row (.sl .bool) z3 false])
theorem h32 : ∀ args τ K, sp32 args τ K → ACall E 32 args τ K := by
  intro args τ K h0
  unfold sp32 at h0
  obtain ⟨a1, r1, rfl, h1⟩ := asCons_inv h0; clear h0
  obtain ⟨x1, rfl, h2⟩ := asD_inv h1; clear h1
  obtain ⟨rfl, h3⟩ := asNil_inv h2; clear h2
  obtain ⟨rfl, h4⟩ := asNil_inv h3; clear h3
  exact ACall.spec2 (fn := Try.f32) (c := codeOf Try.f32) (S := ofL S32) (L := lofL L32) hS32 (by kernel_rfl) (by kernel_rfl) (inlOK _) (all_eq (by kernel_rfl : subsOf (E.info 32).keep (codeOf Try.f32) = [.loop (body Try.f32 6)]) (all_cons (loopOK_of (mk := 33000006) (sl := [1, 2, 3, 16, 17]) (ss := [([1, 2, 3, 16, 17], lsl32r6)]) (by kernel_rfl) (by kernel_rfl) (all_cons l32r6v (all_nil))) (all_nil))) (by kernel_rfl) h4.of

abbrev S22 : List (Nat × Pat × Sp) := [(69, none, sp69), (32, none, sp32)]
theorem hS22 : SpecOK E (ofL S22) := specOK_cons h69 (specOK_cons h32 (specOK_nil))
abbrev L22 : List (Nat × List Nat × Pat × LSp) := []
def sp22 : Sp := fun args τ K => asNil args <| asNil τ <| c22  (fun z1 => K (B z1) [])
theorem h22 : ∀ args τ K, sp22 args τ K → ACall E 22 args τ K := by
  intro args τ K h0
  unfold sp22 at h0
  obtain ⟨rfl, h1⟩ := asNil_inv h0; clear h0
  obtain ⟨rfl, h2⟩ := asNil_inv h1; clear h1
  exact ACall.spec2 (fn := Try.f22) (c := codeOf Try.f22) (S := ofL S22) (L := lofL L22) hS22 (by kernel_rfl) (by kernel_rfl) (inlOK _) (all_eq (by kernel_rfl : subsOf (E.info 22).keep (codeOf Try.f22) = []) (all_nil)) (by kernel_rfl) h2.of

abbrev Sl23r3 : List (Nat × Pat × Sp) := []
theorem hSl23r3 : SpecOK E (ofL Sl23r3) := specOK_nil
abbrev Ll23r3 : List (Nat × List Nat × Pat × LSp) := []
def lsl23r3 : LSp := fun vs σ K => asCons vs fun a1 r1 => asP (.ptr 0 0 []) a1 <| asCons r1 fun a2 r2 => asD (.int .i64) a2 fun s1 => asCons r2 fun a3 r3 => asD (.sl (.pair (.sl (.pair (.int .i64) (.pair (.int .i64) (.pair (.int .i64) (.pair (.int .i64) (.pair (.int .i64) (.pair (.sl (.int .i64)) .unit))))))) (.pair (.pair (.int .i64) (.pair (.int .i64) (.pair (.int .i64) (.pair (.int .i64) (.pair (.int .i64) (.pair (.sl (.int .i64)) .unit)))))) .unit))) a3 fun s2 => asCons r3 fun a4 r4 => asD (.int .i64) a4 fun s3 => asCons r4 fun a5 r5 => asD (.int .i64) a5 fun s4 => asNil r5 <| asCons σ fun a6 r6 => asOne (.pair (.int .i64) (.pair (.sl (.int .i64)) (.pair (.int .i64) (.pair (.sl (.pair (.sl (.pair (.int .i64) (.pair (.int .i64) (.pair (.int .i64) (.pair (.int .i64) (.pair (.int .i64) (.pair (.sl (.int .i64)) .unit))))))) (.pair (.pair (.int .i64) (.pair (.int .i64) (.pair (.int .i64) (.pair (.int .i64) (.pair (.int .i64) (.pair (.sl (.int .i64)) .unit)))))) .unit))) .unit)))) a6 fun a7 => asD (.pair (.int .i64) (.pair (.sl (.int .i64)) (.pair (.int .i64) (.pair (.sl (.pair (.sl (.pair (.int .i64) (.pair (.int .i64) (.pair (.int .i64) (.pair (.int .i64) (.pair (.int .i64) (.pair (.sl (.int .i64)) .unit))))))) (.pair (.pair (.int .i64) (.pair (.int .i64) (.pair (.int .i64) (.pair (.int .i64) (.pair (.int .i64) (.pair (.sl (.int .i64)) .unit)))))) .unit))) .unit)))) a7 fun s5 => asNil r6 <| l23r3 (fun z1 z2 => K (.exit 0) [(1, .ptr 0 0 []), (3, I z1)] [.one (.pair (.int .i64) (.pair (.sl (.int .i64)) (.pair (.int .i64) (.pair (.sl (.pair (.sl (.pair (.int .i64) (.pair (.int .i64) (.pair (.int .i64) (.pair (.int .i64) (.pair (.int .i64) (.pair (.sl (.int .i64)) .unit))))))) (.pair (.pair (.int .i64) (.pair (.int .i64) (.pair (.int .i64) (.pair (.int .i64) (.pair (.int .i64) (.pair (.sl (.int .i64)) .unit)))))) .unit))) .unit)))) (.d (.pair (.int .i64) (.pair (.sl (.int .i64)) (.pair (.int .i64) (.pair (.sl (.pair (.sl (.pair (.int .i64) (.pair (.int .i64) (.pair (.int .i64) (.pair (.int .i64) (.pair (.int .i64) (.pair (.sl (.int .i64)) .unit))))))) (.pair (.pair (.int .i64) (.pair (.int .i64) (.pair (.int .i64) (.pair (.int .i64) (.pair (.int .i64) (.pair (.sl (.int .i64)) .unit)))))) .unit))) .unit)))) z2)]) s1 s2 s3 s4 s5
theorem l23r3v : LoopV E (inlF (PA (ACall E)) E 8) (E.info 23).keep 0 Try.f23.ntmps 24000003 (body Try.f23 3) ([1, 3, 7, 8, 9], lsl23r3) := by
  intro vs σ K (h0 : lsl23r3 vs σ K)
  unfold lsl23r3 at h0
  obtain ⟨a1, r1, rfl, h1⟩ := asCons_inv h0; clear h0
  obtain ⟨rfl, h2⟩ := asP_inv h1; clear h1
  obtain ⟨a2, r2, rfl, h3⟩ := asCons_inv h2; clear h2
  obtain ⟨s1, rfl, h4⟩ := asD_inv h3; clear h3
  obtain ⟨a3, r3, rfl, h5⟩ := asCons_inv h4; clear h4
  obtain ⟨s2, rfl, h6⟩ := asD_inv h5; clear h5
  obtain ⟨a4, r4, rfl, h7⟩ := asCons_inv h6; clear h6
  obtain ⟨s3, rfl, h8⟩ := asD_inv h7; clear h7
  obtain ⟨a5, r5, rfl, h9⟩ := asCons_inv h8; clear h8
  obtain ⟨s4, rfl, h10⟩ := asD_inv h9; clear h9
  obtain ⟨rfl, h11⟩ := asNil_inv h10; clear h10
  obtain ⟨a6, r6, rfl, h12⟩ := asCons_inv h11; clear h11
  obtain ⟨a7, rfl, h13⟩ := asOne_inv h12; clear h12
  obtain ⟨s5, rfl, h14⟩ := asD_inv h13; clear h13
  obtain ⟨rfl, h15⟩ := asNil_inv h14; clear h14
  intro J hJ
  have hp : ∀ c' ∈ subsOf (E.info 23).keep (body Try.f23 3), SubOK E (inlF (PA (ACall E)) E 8) (E.info 23).keep 0 Try.f23.ntmps (lofL Ll23r3) c' := all_eq (by kernel_rfl : subsOf (E.info 23).keep (body Try.f23 3) = []) (all_nil)
  exact h15.of (fun s1 s2 s3 s4 s5 => J [(24000003, .undef), (1, .ptr 0 0 []), (3, I s1), (7, .d (.sl (.pair (.sl (.pair (.int .i64) (.pair (.int .i64) (.pair (.int .i64) (.pair (.int .i64) (.pair (.int .i64) (.pair (.sl (.int .i64)) .unit))))))) (.pair (.pair (.int .i64) (.pair (.int .i64) (.pair (.int .i64) (.pair (.int .i64) (.pair (.int .i64) (.pair (.sl (.int .i64)) .unit)))))) .unit))) s2), (8, I s3), (9, I s4)] [.one (.pair (.int .i64) (.pair (.sl (.int .i64)) (.pair (.int .i64) (.pair (.sl (.pair (.sl (.pair (.int .i64) (.pair (.int .i64) (.pair (.int .i64) (.pair (.int .i64) (.pair (.int .i64) (.pair (.sl (.int .i64)) .unit))))))) (.pair (.pair (.int .i64) (.pair (.int .i64) (.pair (.int .i64) (.pair (.int .i64) (.pair (.int .i64) (.pair (.sl (.int .i64)) .unit)))))) .unit))) .unit)))) (.d (.pair (.int .i64) (.pair (.sl (.int .i64)) (.pair (.int .i64) (.pair (.sl (.pair (.sl (.pair (.int .i64) (.pair (.int .i64) (.pair (.int .i64) (.pair (.int .i64) (.pair (.int .i64) (.pair (.sl (.int .i64)) .unit))))))) (.pair (.pair (.int .i64) (.pair (.int .i64) (.pair (.int .i64) (.pair (.int .i64) (.pair (.int .i64) (.pair (.sl (.int .i64)) .unit)))))) .unit))) .unit)))) s5)]) (fun s1 s2 s3 s4 s5 hb => loop_round2 (S := ofL Sl23r3) (L := lofL Ll23r3) hSl23r3 (inlOK _) hp hJ (by kernel_rfl) hb)

abbrev S23 : List (Nat × Pat × Sp) := []
theorem hS23 : SpecOK E (ofL S23) := specOK_nil
abbrev L23 : List (Nat × List Nat × Pat × LSp) := [(24000003, [1, 3, 7, 8, 9], none, lsl23r3)]
def sp23 : Sp := fun args τ K => asCons args fun a1 r1 => asD (.pair (.int .i64) (.pair (.sl (.int .i64)) (.pair (.int .i64) (.pair (.sl (.pair (.sl (.pair (.int .i64) (.pair (.int .i64) (.pair (.int .i64) (.pair (.int .i64) (.pair (.int .i64) (.pair (.sl (.int .i64)) .unit))))))) (.pair (.pair (.int .i64) (.pair (.int .i64) (.pair (.int .i64) (.pair (.int .i64) (.pair (.int .i64) (.pair (.sl (.int .i64)) .unit)))))) .unit))) .unit)))) a1 fun x1 => asNil r1 <| asNil τ <| c23 x1 (fun z1 => K (B z1) [])
theorem h23 : ∀ args τ K, sp23 args τ K → ACall E 23 args τ K := by
  intro args τ K h0
  unfold sp23 at h0
  obtain ⟨a1, r1, rfl, h1⟩ := asCons_inv h0; clear h0
  obtain ⟨x1, rfl, h2⟩ := asD_inv h1; clear h1
  obtain ⟨rfl, h3⟩ := asNil_inv h2; clear h2
  obtain ⟨rfl, h4⟩ := asNil_inv h3; clear h3
  exact ACall.spec2 (fn := Try.f23) (c := codeOf Try.f23) (S := ofL S23) (L := lofL L23) hS23 (by kernel_rfl) (by kernel_rfl) (inlOK _) (all_eq (by kernel_rfl : subsOf (E.info 23).keep (codeOf Try.f23) = [.loop (body Try.f23 3)]) (all_cons (loopOK_of (mk := 24000003) (sl := [1, 3, 7, 8, 9]) (ss := [([1, 3, 7, 8, 9], lsl23r3)]) (by kernel_rfl) (by kernel_rfl) (all_cons l23r3v (all_nil))) (all_nil))) (by kernel_rfl) h4.of

abbrev S25 : List (Nat × Pat × Sp) := []
theorem hS25 : SpecOK E (ofL S25) := specOK_nil
abbrev L25 : List (Nat × List Nat × Pat × LSp) := []
def sp25 : Sp := fun args τ K => asCons args fun a1 r1 => asD (.pair (.int .i64) (.pair (.int .i64) (.pair (.int .i64) (.pair (.int .i64) (.pair (.int .i64) (.pair (.sl (.int .i64)) .unit)))))) a1 fun x1 => asNil r1 <| asNil τ <| c25 x1 (fun z1 => K (I z1) [])
theorem h25 : ∀ args τ K, sp25 args τ K → ACall E 25 args τ K := by
  intro args τ K h0
  unfold sp25 at h0
  obtain ⟨a1, r1, rfl, h1⟩ := asCons_inv h0; clear h0
  obtain ⟨x1, rfl, h2⟩ := asD_inv h1; clear h1
  obtain ⟨rfl, h3⟩ := asNil_inv h2; clear h2
  obtain ⟨rfl, h4⟩ := asNil_inv h3; clear h3
  exact ACall.spec2 (fn := Try.f25) (c := codeOf Try.f25) (S := ofL S25) (L := lofL L25) hS25 (by kernel_rfl) (by kernel_rfl) (inlOK _) (all_eq (by kernel_rfl : subsOf (E.info 25).keep (codeOf Try.f25) = []) (all_nil)) (by kernel_rfl) h4.of

abbrev Sl28r3 : List (Nat × Pat × Sp) := []
theorem hSl28r3 : SpecOK E (ofL Sl28r3) := specOK_nil
abbrev Ll28r3 : List (Nat × List Nat × Pat × LSp) := []
def lsl28r3 : LSp := fun vs σ K => asCons vs fun a1 r1 => asP (.vec 0) a1 <| asCons r1 fun a2 r2 => asP (.vec 1) a2 <| asCons r2 fun a3 r3 => asD (.int .i64) a3 fun s1 => asCons r3 fun a4 r4 => asD (.int .i64) a4 fun s2 => asNil r4 <| asCons σ fun a5 r5 => asRw (.int .i64) false a5 fun s3 => asCons r5 fun a6 r6 => asRw (.int .i64) false a6 fun s4 => asNil r6 <| l28r3 (fun z1 => K (.exit 0) [(3, .vec 0)] [.row (.int .i64) z1 false]) s1 s2 s3 s4
theorem l28r3v : LoopV E (inlF (PA (ACall E)) E 8) (E.info 28).keep 0 Try.f28.ntmps 29000003 (body Try.f28 3) ([3, 13, 14, 15], lsl28r3) := by
  intro vs σ K (h0 : lsl28r3 vs σ K)
  unfold lsl28r3 at h0
  obtain ⟨a1, r1, rfl, h1⟩ := asCons_inv h0; clear h0
  obtain ⟨rfl, h2⟩ := asP_inv h1; clear h1
  obtain ⟨a2, r2, rfl, h3⟩ := asCons_inv h2; clear h2
  obtain ⟨rfl, h4⟩ := asP_inv h3; clear h3
  obtain ⟨a3, r3, rfl, h5⟩ := asCons_inv h4; clear h4
  obtain ⟨s1, rfl, h6⟩ := asD_inv h5; clear h5
  obtain ⟨a4, r4, rfl, h7⟩ := asCons_inv h6; clear h6
  obtain ⟨s2, rfl, h8⟩ := asD_inv h7; clear h7
  obtain ⟨rfl, h9⟩ := asNil_inv h8; clear h8
  obtain ⟨a5, r5, rfl, h10⟩ := asCons_inv h9; clear h9
  obtain ⟨s3, rfl, h11⟩ := asRw_inv h10; clear h10
  obtain ⟨a6, r6, rfl, h12⟩ := asCons_inv h11; clear h11
  obtain ⟨s4, rfl, h13⟩ := asRw_inv h12; clear h12
  obtain ⟨rfl, h14⟩ := asNil_inv h13; clear h13
  intro J hJ
  have hp : ∀ c' ∈ subsOf (E.info 28).keep (body Try.f28 3), SubOK E (inlF (PA (ACall E)) E 8) (E.info 28).keep 0 Try.f28.ntmps (lofL Ll28r3) c' := all_eq (by kernel_rfl : subsOf (E.info 28).keep (body Try.f28 3) = []) (all_nil)
  exact h14.of (fun s1 s2 s3 s4 => J [(29000003, .undef), (3, .vec 0), (13, .vec 1), (14, I s1), (15, I s2)] [.row (.int .i64) s3 false, .row (.int .i64) s4 false]) (fun s1 s2 s3 s4 hb => loop_round2 (S := ofL Sl28r3) (L := lofL Ll28r3) hSl28r3 (inlOK _) hp hJ (by kernel_rfl) hb)

abbrev S28 : List (Nat × Pat × Sp) := []
theorem hS28 : SpecOK E (ofL S28) := specOK_nil
abbrev L28 : List (Nat × List Nat × Pat × LSp) := [(29000003, [3, 13, 14, 15], none, lsl28r3)]
def sp28 : Sp := fun args τ K => asCons args fun a1 r1 => asD (.pair (.int .i64) (.pair (.int .i64) (.pair (.int .i64) (.pair (.int .i64) (.pair (.int .i64) (.pair (.sl (.int .i64)) .unit)))))) a1 fun x1 => asNil r1 <| asNil τ <| c28 x1 (fun z1 => K (.vec 0) [.row (.int .i64) z1 false])
theorem h28 : ∀ args τ K, sp28 args τ K → ACall E 28 args τ K := by
  intro args τ K h0
  unfold sp28 at h0
  obtain ⟨a1, r1, rfl, h1⟩ := asCons_inv h0; clear h0
  obtain ⟨x1, rfl, h2⟩ := asD_inv h1; clear h1
  obtain ⟨rfl, h3⟩ := asNil_inv h2; clear h2
  obtain ⟨rfl, h4⟩ := asNil_inv h3; clear h3
  exact ACall.spec2 (fn := Try.f28) (c := codeOf Try.f28) (S := ofL S28) (L := lofL L28) hS28 (by kernel_rfl) (by kernel_rfl) (inlOK _) (all_eq (by kernel_rfl : subsOf (E.info 28).keep (codeOf Try.f28) = [.loop (body Try.f28 3)]) (all_cons (loopOK_of (mk := 29000003) (sl := [3, 13, 14, 15]) (ss := [([3, 13, 14, 15], lsl28r3)]) (by kernel_rfl) (by kernel_rfl) (all_cons l28r3v (all_nil))) (all_nil))) (by kernel_rfl) h4.of

abbrev Sl26r4 : List (Nat × Pat × Sp) := []
theorem hSl26r4 : SpecOK E (ofL Sl26r4) := specOK_nil
abbrev Ll26r4 : List (Nat × List Nat × Pat × LSp) := []
def lsl26r4 : LSp := fun vs σ K => asCons vs fun a1 r1 => asD (.sl (.int .i64)) a1 fun s1 => asCons r1 fun a2 r2 => asD (.sl (.int .i64)) a2 fun s2 => asCons r2 fun a3 r3 => asD (.int .i64) a3 fun s3 => asCons r3 fun a4 r4 => asD (.int .i64) a4 fun s4 => asNil r4 <| asNil σ <| l26r4 (fun z1 => K .ret [(4, B z1)] []) (K (.exit 0) [(4, .undef)] []) s1 s2 s3 s4
theorem l26r4v : LoopV E (inlF (PA (ACall E)) E 8) (E.info 26).keep 0 Try.f26.ntmps 27000004 (body Try.f26 4) ([0, 1, 12, 13], lsl26r4) := by
  intro vs σ K (h0 : lsl26r4 vs σ K)
  unfold lsl26r4 at h0
  obtain ⟨a1, r1, rfl, h1⟩ := asCons_inv h0; clear h0
  obtain ⟨s1, rfl, h2⟩ := asD_inv h1; clear h1
  obtain ⟨a2, r2, rfl, h3⟩ := asCons_inv h2; clear h2
  obtain ⟨s2, rfl, h4⟩ := asD_inv h3; clear h3
  obtain ⟨a3, r3, rfl, h5⟩ := asCons_inv h4; clear h4
  obtain ⟨s3, rfl, h6⟩ := asD_inv h5; clear h5
  obtain ⟨a4, r4, rfl, h7⟩ := asCons_inv h6; clear h6
  obtain ⟨s4, rfl, h8⟩ := asD_inv h7; clear h7
  obtain ⟨rfl, h9⟩ := asNil_inv h8; clear h8
  obtain ⟨rfl, h10⟩ := asNil_inv h9; clear h9
  intro J hJ
  have hp : ∀ c' ∈ subsOf (E.info 26).keep (body Try.f26 4), SubOK E (inlF (PA (ACall E)) E 8) (E.info 26).keep 0 Try.f26.ntmps (lofL Ll26r4) c' := all_eq (by kernel_rfl : subsOf (E.info 26).keep (body Try.f26 4) = []) (all_nil)
  exact h10.of (fun s1 s2 s3 s4 => J [(27000004, .undef), (0, .d (.sl (.int .i64)) s1), (1, .d (.sl (.int .i64)) s2), (12, I s3), (13, I s4)] []) (fun s1 s2 s3 s4 hb => loop_round2 (S := ofL Sl26r4) (L := lofL Ll26r4) hSl26r4 (inlOK _) hp hJ (by kernel_rfl) hb)

abbrev S26 : List (Nat × Pat × Sp) := []
theorem hS26 : SpecOK E (ofL S26) := specOK_nil
abbrev L26 : List (Nat × List Nat × Pat × LSp) := [(27000004, [0, 1, 12, 13], none, lsl26r4)]
def sp26 : Sp := fun args τ K => asCons args fun a1 r1 => asD (.sl (.int .i64)) a1 fun x1 => asCons r1 fun a2 r2 => asD (.sl (.int .i64)) a2 fun x2 => asNil r2 <| asNil τ <| c26 x1 x2 (fun z1 => K (B z1) [])
theorem h26 : ∀ args τ K, sp26 args τ K → ACall E 26 args τ K := by
  intro args τ K h0
  unfold sp26 at h0
  obtain ⟨a1, r1, rfl, h1⟩ := asCons_inv h0; clear h0
  obtain ⟨x1, rfl, h2⟩ := asD_inv h1; clear h1
  obtain ⟨a2, r2, rfl, h3⟩ := asCons_inv h2; clear h2
  obtain ⟨x2, rfl, h4⟩ := asD_inv h3; clear h3
  obtain ⟨rfl, h5⟩ := asNil_inv h4; clear h4
  obtain ⟨rfl, h6⟩ := asNil_inv h5; clear h5
  exact ACall.spec2 (fn := Try.f26) (c := codeOf Try.f26) (S := ofL S26) (L := lofL L26) hS26 (by kernel_rfl) (by kernel_rfl) (inlOK _) (all_eq (by kernel_rfl : subsOf (E.info 26).keep (codeOf Try.f26) = [.loop (body Try.f26 4)]) (all_cons (loopOK_of (mk := 27000004) (sl := [0, 1, 12, 13]) (ss := [([0, 1, 12, 13], lsl26r4)]) (by kernel_rfl) (by kernel_rfl) (all_cons l26r4v (all_nil))) (all_nil))) (by kernel_rfl) h6.of

abbrev Sl4r9 : List (Nat × Pat × Sp) := [(24, none, sp24), (25, none, sp25), (27, none, sp27), (28, none, sp28), (26, none, sp26)]
theorem hSl4r9 : SpecOK E (ofL Sl4r9) := specOK_cons h24 (specOK_cons h25 (specOK_cons h27 (specOK_cons h28 (specOK_cons h26 (specOK_nil)))))
abbrev Ll4r9 : List (Nat × List Nat × Pat × LSp) := []
def lsl4r9 : LSp := fun vs σ K => asCons vs fun a1 r1 => asP (.ptr 0 0 []) a1 <| asCons r1 fun a2 r2 => asP (.ptr 1 0 []) a2 <| asCons r2 fun a3 r3 => asD (.sl (.pair (.sl (.pair (.int .i64) (.pair (.int .i64) (.pair (.int .i64) (.pair (.int .i64) (.pair (.int .i64) (.pair (.sl (.int .i64)) .unit))))))) (.pair (.pair (.int .i64) (.pair (.int .i64) (.pair (.int .i64) (.pair (.int .i64) (.pair (.int .i64) (.pair (.sl (.int .i64)) .unit)))))) .unit))) a3 fun s1 => asCons r3 fun a4 r4 => asD (.int .i64) a4 fun s2 => asCons r4 fun a5 r5 => asD (.int .i64) a5 fun s3 => asCons r5 fun a6 r6 => asD (.sl (.pair (.int .i64) (.pair (.int .i64) (.pair (.int .i64) (.pair (.int .i64) (.pair (.int .i64) (.pair (.sl (.int .i64)) .unit))))))) a6 fun s4 => asCons r6 fun a7 r7 => asD (.int .i64) a7 fun s5 => asCons r7 fun a8 r8 => asD (.int .i64) a8 fun s6 => asNil r8 <| asCons σ fun a9 r9 => asOne (.pair (.int .i64) (.pair (.sl (.int .i64)) (.pair (.int .i64) (.pair (.sl (.pair (.sl (.pair (.int .i64) (.pair (.int .i64) (.pair (.int .i64) (.pair (.int .i64) (.pair (.int .i64) (.pair (.sl (.int .i64)) .unit))))))) (.pair (.pair (.int .i64) (.pair (.int .i64) (.pair (.int .i64) (.pair (.int .i64) (.pair (.int .i64) (.pair (.sl (.int .i64)) .unit)))))) .unit))) .unit)))) a9 fun a10 => asD (.pair (.int .i64) (.pair (.sl (.int .i64)) (.pair (.int .i64) (.pair (.sl (.pair (.sl (.pair (.int .i64) (.pair (.int .i64) (.pair (.int .i64) (.pair (.int .i64) (.pair (.int .i64) (.pair (.sl (.int .i64)) .unit))))))) (.pair (.pair (.int .i64) (.pair (.int .i64) (.pair (.int .i64) (.pair (.int .i64) (.pair (.int .i64) (.pair (.sl (.int .i64)) .unit)))))) .unit))) .unit)))) a10 fun s7 => asCons r9 fun a11 r11 => asOne (.pair (.sl (.pair (.int .i64) (.pair (.int .i64) (.pair (.int .i64) (.pair (.int .i64) (.pair (.int .i64) (.pair (.sl (.int .i64)) .unit))))))) (.pair (.pair (.int .i64) (.pair (.int .i64) (.pair (.int .i64) (.pair (.int .i64) (.pair (.int .i64) (.pair (.sl (.int .i64)) .unit)))))) .unit)) a11 fun a12 => asD (.pair (.sl (.pair (.int .i64) (.pair (.int .i64) (.pair (.int .i64) (.pair (.int .i64) (.pair (.int .i64) (.pair (.sl (.int .i64)) .unit))))))) (.pair (.pair (.int .i64) (.pair (.int .i64) (.pair (.int .i64) (.pair (.int .i64) (.pair (.int .i64) (.pair (.sl (.int .i64)) .unit)))))) .unit)) a12 fun s8 => asNil r11 <| l4r9 (fun z1 => K .ret [(1, .undef), (2, B z1), (4, .undef), (13, .undef), (14, .undef), (15, .undef)] []) (fun z1 z2 z3 z4 z5 => K (.exit 2) [(1, .ptr 0 0 []), (2, .undef), (4, .ptr 1 0 []), (13, .d (.sl (.pair (.sl (.pair (.int .i64) (.pair (.int .i64) (.pair (.int .i64) (.pair (.int .i64) (.pair (.int .i64) (.pair (.sl (.int .i64)) .unit))))))) (.pair (.pair (.int .i64) (.pair (.int .i64) (.pair (.int .i64) (.pair (.int .i64) (.pair (.int .i64) (.pair (.sl (.int .i64)) .unit)))))) .unit))) z1), (14, I z2), (15, I z3)] [.one (.pair (.int .i64) (.pair (.sl (.int .i64)) (.pair (.int .i64) (.pair (.sl (.pair (.sl (.pair (.int .i64) (.pair (.int .i64) (.pair (.int .i64) (.pair (.int .i64) (.pair (.int .i64) (.pair (.sl (.int .i64)) .unit))))))) (.pair (.pair (.int .i64) (.pair (.int .i64) (.pair (.int .i64) (.pair (.int .i64) (.pair (.int .i64) (.pair (.sl (.int .i64)) .unit)))))) .unit))) .unit)))) (.d (.pair (.int .i64) (.pair (.sl (.int .i64)) (.pair (.int .i64) (.pair (.sl (.pair (.sl (.pair (.int .i64) (.pair (.int .i64) (.pair (.int .i64) (.pair (.int .i64) (.pair (.int .i64) (.pair (.sl (.int .i64)) .unit))))))) (.pair (.pair (.int .i64) (.pair (.int .i64) (.pair (.int .i64) (.pair (.int .i64) (.pair (.int .i64) (.pair (.sl (.int .i64)) .unit)))))) .unit))) .unit)))) z4), .one (.pair (.sl (.pair (.int .i64) (.pair (.int .i64) (.pair (.int .i64) (.pair (.int .i64) (.pair (.int .i64) (.pair (.sl (.int .i64)) .unit))))))) (.pair (.pair (.int .i64) (.pair (.int .i64) (.pair (.int .i64) (.pair (.int .i64) (.pair (.int .i64) (.pair (.sl (.int .i64)) .unit)))))) .unit)) (.d (.pair (.sl (.pair (.int .i64) (.pair (.int .i64) (.pair (.int .i64) (.pair (.int .i64) (.pair (.int .i64) (.pair (.sl (.int .i64)) .unit))))))) (.pair (.pair (.int .i64) (.pair (.int .i64) (.pair (.int .i64) (.pair (.int .i64) (.pair (.int .i64) (.pair (.sl (.int .i64)) .unit)))))) .unit)) z5)]) s1 s2 s3 s4 s5 s6 s7 s8
theorem l4r9v : LoopV E (inlF (PA (ACall E)) E 8) (E.info 4).keep 0 Try.f4.ntmps 5000009 (body Try.f4 9) ([1, 4, 13, 14, 15, 20, 21, 22], lsl4r9) := by
  intro vs σ K (h0 : lsl4r9 vs σ K)
  unfold lsl4r9 at h0
  obtain ⟨a1, r1, rfl, h1⟩ := asCons_inv h0; clear h0
  obtain ⟨rfl, h2⟩ := asP_inv h1; clear h1
  obtain ⟨a2, r2, rfl, h3⟩ := asCons_inv h2; clear h2
  obtain ⟨rfl, h4⟩ := asP_inv h3; clear h3
  obtain ⟨a3, r3, rfl, h5⟩ := asCons_inv h4; clear h4
  obtain ⟨s1, rfl, h6⟩ := asD_inv h5; clear h5
  obtain ⟨a4, r4, rfl, h7⟩ := asCons_inv h6; clear h6
  obtain ⟨s2, rfl, h8⟩ := asD_inv h7; clear h7
  obtain ⟨a5, r5, rfl, h9⟩ := asCons_inv h8; clear h8
  obtain ⟨s3, rfl, h10⟩ := asD_inv h9; clear h9
  obtain ⟨a6, r6, rfl, h11⟩ := asCons_inv h10; clear h10
  obtain ⟨s4, rfl, h12⟩ := asD_inv h11; clear h11
  obtain ⟨a7, r7, rfl, h13⟩ := asCons_inv h12; clear h12
  obtain ⟨s5, rfl, h14⟩ := asD_inv h13; clear h13
  obtain ⟨a8, r8, rfl, h15⟩ := asCons_inv h14; clear h14
  obtain ⟨s6, rfl, h16⟩ := asD_inv h15; clear h15
  obtain ⟨rfl, h17⟩ := asNil_inv h16; clear h16
  obtain ⟨a9, r9, rfl, h18⟩ := asCons_inv h17; clear h17
  obtain ⟨a10, rfl, h19⟩ := asOne_inv h18; clear h18
  obtain ⟨s7, rfl, h20⟩ := asD_inv h19; clear h19
  obtain ⟨a11, r11, rfl, h21⟩ := asCons_inv h20; clear h20
  obtain ⟨a12, rfl, h22⟩ := asOne_inv h21; clear h21
  obtain ⟨s8, rfl, h23⟩ := asD_inv h22; clear h22
  obtain ⟨rfl, h24⟩ := asNil_inv h23; clear h23
  intro J hJ
  have hp : ∀ c' ∈ subsOf (E.info 4).keep (body Try.f4 9), SubOK E (inlF (PA (ACall E)) E 8) (E.info 4).keep 0 Try.f4.ntmps (lofL Ll4r9) c' := all_eq (by kernel_rfl : subsOf (E.info 4).keep (body Try.f4 9) = []) (all_nil)
  exact h24.of (fun s1 s2 s3 s4 s5 s6 s7 s8 => J [(5000009, .undef), (1, .ptr 0 0 []), (4, .ptr 1 0 []), (13, .d (.sl (.pair (.sl (.pair (.int .i64) (.pair (.int .i64) (.pair (.int .i64) (.pair (.int .i64) (.pair (.int .i64) (.pair (.sl (.int .i64)) .unit))))))) (.pair (.pair (.int .i64) (.pair (.int .i64) (.pair (.int .i64) (.pair (.int .i64) (.pair (.int .i64) (.pair (.sl (.int .i64)) .unit)))))) .unit))) s1), (14, I s2), (15, I s3), (20, .d (.sl (.pair (.int .i64) (.pair (.int .i64) (.pair (.int .i64) (.pair (.int .i64) (.pair (.int .i64) (.pair (.sl (.int .i64)) .unit))))))) s4), (21, I s5), (22, I s6)] [.one (.pair (.int .i64) (.pair (.sl (.int .i64)) (.pair (.int .i64) (.pair (.sl (.pair (.sl (.pair (.int .i64) (.pair (.int .i64) (.pair (.int .i64) (.pair (.int .i64) (.pair (.int .i64) (.pair (.sl (.int .i64)) .unit))))))) (.pair (.pair (.int .i64) (.pair (.int .i64) (.pair (.int .i64) (.pair (.int .i64) (.pair (.int .i64) (.pair (.sl (.int .i64)) .unit)))))) .unit))) .unit)))) (.d (.pair (.int .i64) (.pair (.sl (.int .i64)) (.pair (.int .i64) (.pair (.sl (.pair (.sl (.pair (.int .i64) (.pair (.int .i64) (.pair (.int .i64) (.pair (.int .i64) (.pair (.int .i64) (.pair (.sl (.int .i64)) .unit))))))) (.pair (.pair (.int .i64) (.pair (.int .i64) (.pair (.int .i64) (.pair (.int .i64) (.pair (.int .i64) (.pair (.sl (.int .i64)) .unit)))))) .unit))) .unit)))) s7), .one (.pair (.sl (.pair (.int .i64) (.pair (.int .i64) (.pair (.int .i64) (.pair (.int .i64) (.pair (.int .i64) (.pair (.sl (.int .i64)) .unit))))))) (.pair (.pair (.int .i64) (.pair (.int .i64) (.pair (.int .i64) (.pair (.int .i64) (.pair (.int .i64) (.pair (.sl (.int .i64)) .unit)))))) .unit)) (.d (.pair (.sl (.pair (.int .i64) (.pair (.int .i64) (.pair (.int .i64) (.pair (.int .i64) (.pair (.int .i64) (.pair (.sl (.int .i64)) .unit))))))) (.pair (.pair (.int .i64) (.pair (.int .i64) (.pair (.int .i64) (.pair (.int .i64) (.pair (.int .i64) (.pair (.sl (.int .i64)) .unit)))))) .unit)) s8)]) (fun s1 s2 s3 s4 s5 s6 s7 s8 hb => loop_round2 (S := ofL Sl4r9) (L := lofL Ll4r9) hSl4r9 (inlOK _) hp hJ (by kernel_rfl) hb)

abbrev Sl4r6 : List (Nat × Pat × Sp) := [(29, none, sp29), (28, none, sp28), (26, none, sp26)]
theorem hSl4r6 : SpecOK E (ofL Sl4r6) := specOK_cons h29 (specOK_cons h28 (specOK_cons h26 (specOK_nil)))
abbrev Ll4r6 : List (Nat × List Nat × Pat × LSp) := [(5000009, [1, 4, 13, 14, 15, 20, 21, 22], none, lsl4r9)]
def lsl4r6 : LSp := fun vs σ K => asCons vs fun a1 r1 => asP (.ptr 0 0 []) a1 <| asCons r1 fun a2 r2 => asD (.sl (.pair (.sl (.pair (.int .i64) (.pair (.int .i64) (.pair (.int .i64) (.pair (.int .i64) (.pair (.int .i64) (.pair (.sl (.int .i64)) .unit))))))) (.pair (.pair (.int .i64) (.pair (.int .i64) (.pair (.int .i64) (.pair (.int .i64) (.pair (.int .i64) (.pair (.sl (.int .i64)) .unit)))))) .unit))) a2 fun s1 => asCons r2 fun a3 r3 => asD (.int .i64) a3 fun s2 => asCons r3 fun a4 r4 => asD (.int .i64) a4 fun s3 => asNil r4 <| asCons σ fun a5 r5 => asOne (.pair (.int .i64) (.pair (.sl (.int .i64)) (.pair (.int .i64) (.pair (.sl (.pair (.sl (.pair (.int .i64) (.pair (.int .i64) (.pair (.int .i64) (.pair (.int .i64) (.pair (.int .i64) (.pair (.sl (.int .i64)) .unit))))))) (.pair (.pair (.int .i64) (.pair (.int .i64) (.pair (.int .i64) (.pair (.int .i64) (.pair (.int .i64) (.pair (.sl (.int .i64)) .unit)))))) .unit))) .unit)))) a5 fun a6 => asD (.pair (.int .i64) (.pair (.sl (.int .i64)) (.pair (.int .i64) (.pair (.sl (.pair (.sl (.pair (.int .i64) (.pair (.int .i64) (.pair (.int .i64) (.pair (.int .i64) (.pair (.int .i64) (.pair (.sl (.int .i64)) .unit))))))) (.pair (.pair (.int .i64) (.pair (.int .i64) (.pair (.int .i64) (.pair (.int .i64) (.pair (.int .i64) (.pair (.sl (.int .i64)) .unit)))))) .unit))) .unit)))) a6 fun s4 => asNil r5 <| l4r6 (fun z1 => K .ret [(1, .undef), (2, B z1)] []) (fun z1 => K (.exit 0) [(1, .ptr 0 0 []), (2, .undef)] [.one (.pair (.int .i64) (.pair (.sl (.int .i64)) (.pair (.int .i64) (.pair (.sl (.pair (.sl (.pair (.int .i64) (.pair (.int .i64) (.pair (.int .i64) (.pair (.int .i64) (.pair (.int .i64) (.pair (.sl (.int .i64)) .unit))))))) (.pair (.pair (.int .i64) (.pair (.int .i64) (.pair (.int .i64) (.pair (.int .i64) (.pair (.int .i64) (.pair (.sl (.int .i64)) .unit)))))) .unit))) .unit)))) (.d (.pair (.int .i64) (.pair (.sl (.int .i64)) (.pair (.int .i64) (.pair (.sl (.pair (.sl (.pair (.int .i64) (.pair (.int .i64) (.pair (.int .i64) (.pair (.int .i64) (.pair (.int .i64) (.pair (.sl (.int .i64)) .unit))))))) (.pair (.pair (.int .i64) (.pair (.int .i64) (.pair (.int .i64) (.pair (.int .i64) (.pair (.int .i64) (.pair (.sl (.int .i64)) .unit)))))) .unit))) .unit)))) z1)]) s1 s2 s3 s4
theorem l4r6v : LoopV E (inlF (PA (ACall E)) E 8) (E.info 4).keep 0 Try.f4.ntmps 5000006 (body Try.f4 6) ([1, 13, 14, 15], lsl4r6) := by
  intro vs σ K (h0 : lsl4r6 vs σ K)
  unfold lsl4r6 at h0
  obtain ⟨a1, r1, rfl, h1⟩ := asCons_inv h0; clear h0
  obtain ⟨rfl, h2⟩ := asP_inv h1; clear h1
  obtain ⟨a2, r2, rfl, h3⟩ := asCons_inv h2; clear h2
  obtain ⟨s1, rfl, h4⟩ := asD_inv h3; clear h3
  obtain ⟨a3, r3, rfl, h5⟩ := asCons_inv h4; clear h4
  obtain ⟨s2, rfl, h6⟩ := asD_inv h5; clear h5
  obtain ⟨a4, r4, rfl, h7⟩ := asCons_inv h6; clear h6
  obtain ⟨s3, rfl, h8⟩ := asD_inv h7; clear h7
  obtain ⟨rfl, h9⟩ := asNil_inv h8; clear h8
  obtain ⟨a5, r5, rfl, h10⟩ := asCons_inv h9; clear h9
  obtain ⟨a6, rfl, h11⟩ := asOne_inv h10; clear h10
  obtain ⟨s4, rfl, h12⟩ := asD_inv h11; clear h11
  obtain ⟨rfl, h13⟩ := asNil_inv h12; clear h12
  intro J hJ
  have hp : ∀ c' ∈ subsOf (E.info 4).keep (body Try.f4 6), SubOK E (inlF (PA (ACall E)) E 8) (E.info 4).keep 0 Try.f4.ntmps (lofL Ll4r6) c' := all_eq (by kernel_rfl : subsOf (E.info 4).keep (body Try.f4 6) = [.loop (body Try.f4 9)]) (all_cons (loopOK_of (mk := 5000009) (sl := [1, 4, 13, 14, 15, 20, 21, 22]) (ss := [([1, 4, 13, 14, 15, 20, 21, 22], lsl4r9)]) (by kernel_rfl) (by kernel_rfl) (all_cons l4r9v (all_nil))) (all_nil))
  exact h13.of (fun s1 s2 s3 s4 => J [(5000006, .undef), (1, .ptr 0 0 []), (13, .d (.sl (.pair (.sl (.pair (.int .i64) (.pair (.int .i64) (.pair (.int .i64) (.pair (.int .i64) (.pair (.int .i64) (.pair (.sl (.int .i64)) .unit))))))) (.pair (.pair (.int .i64) (.pair (.int .i64) (.pair (.int .i64) (.pair (.int .i64) (.pair (.int .i64) (.pair (.sl (.int .i64)) .unit)))))) .unit))) s1), (14, I s2), (15, I s3)] [.one (.pair (.int .i64) (.pair (.sl (.int .i64)) (.pair (.int .i64) (.pair (.sl (.pair (.sl (.pair (.int .i64) (.pair (.int .i64) (.pair (.int .i64) (.pair (.int .i64) (.pair (.int .i64) (.pair (.sl (.int .i64)) .unit))))))) (.pair (.pair (.int .i64) (.pair (.int .i64) (.pair (.int .i64) (.pair (.int .i64) (.pair (.int .i64) (.pair (.sl (.int .i64)) .unit)))))) .unit))) .unit)))) (.d (.pair (.int .i64) (.pair (.sl (.int .i64)) (.pair (.int .i64) (.pair (.sl (.pair (.sl (.pair (.int .i64) (.pair (.int .i64) (.pair (.int .i64) (.pair (.int .i64) (.pair (.int .i64) (.pair (.sl (.int .i64)) .unit))))))) (.pair (.pair (.int .i64) (.pair (.int .i64) (.pair (.int .i64) (.pair (.int .i64) (.pair (.int .i64) (.pair (.sl (.int .i64)) .unit)))))) .unit))) .unit)))) s4)]) (fun s1 s2 s3 s4 hb => loop_round2 (S := ofL Sl4r6) (L := lofL Ll4r6) hSl4r6 (inlOK _) hp hJ (by kernel_rfl) hb)

abbrev Sl31r11 : List (Nat × Pat × Sp) := []
theorem hSl31r11 : SpecOK E (ofL Sl31r11) := specOK_nil
abbrev Ll31r11 : List (Nat × List Nat × Pat × LSp) := []
def lsl31r11 : LSp := fun vs σ K => asCons vs fun a1 r1 => asP (.ptr 0 0 []) a1 <| asCons r1 fun a2 r2 => asD (.int .i64) a2 fun s1 => asCons r2 fun a3 r3 => asD (.sl (.int .i64)) a3 fun s2 => asCons r3 fun a4 r4 => asD (.int .i64) a4 fun s3 => asCons r4 fun a5 r5 => asD (.int .i64) a5 fun s4 => asCons r5 fun a6 r6 => asD (.sl (.int .i64)) a6 fun s5 => asCons r6 fun a7 r7 => asD (.int .i64) a7 fun s6 => asCons r7 fun a8 r8 => asD (.int .i64) a8 fun s7 => asNil r8 <| asCons σ fun a9 r9 => asOne (.pair (.int .i64) (.pair (.sl (.int .i64)) (.pair (.int .i64) (.pair (.sl (.pair (.sl (.pair (.int .i64) (.pair (.int .i64) (.pair (.int .i64) (.pair (.int .i64) (.pair (.int .i64) (.pair (.sl (.int .i64)) .unit))))))) (.pair (.pair (.int .i64) (.pair (.int .i64) (.pair (.int .i64) (.pair (.int .i64) (.pair (.int .i64) (.pair (.sl (.int .i64)) .unit)))))) .unit))) .unit)))) a9 fun a10 => asD (.pair (.int .i64) (.pair (.sl (.int .i64)) (.pair (.int .i64) (.pair (.sl (.pair (.sl (.pair (.int .i64) (.pair (.int .i64) (.pair (.int .i64) (.pair (.int .i64) (.pair (.int .i64) (.pair (.sl (.int .i64)) .unit))))))) (.pair (.pair (.int .i64) (.pair (.int .i64) (.pair (.int .i64) (.pair (.int .i64) (.pair (.int .i64) (.pair (.sl (.int .i64)) .unit)))))) .unit))) .unit)))) a10 fun s8 => asNil r9 <| l31r11 (fun z1 => K .ret [(1, .undef), (2, I z1), (40, .undef), (41, .undef), (42, .undef)] []) (fun z1 z2 z3 z4 => K (.exit 2) [(1, .ptr 0 0 []), (2, .undef), (40, .d (.sl (.int .i64)) z1), (41, I z2), (42, I z3)] [.one (.pair (.int .i64) (.pair (.sl (.int .i64)) (.pair (.int .i64) (.pair (.sl (.pair (.sl (.pair (.int .i64) (.pair (.int .i64) (.pair (.int .i64) (.pair (.int .i64) (.pair (.int .i64) (.pair (.sl (.int .i64)) .unit))))))) (.pair (.pair (.int .i64) (.pair (.int .i64) (.pair (.int .i64) (.pair (.int .i64) (.pair (.int .i64) (.pair (.sl (.int .i64)) .unit)))))) .unit))) .unit)))) (.d (.pair (.int .i64) (.pair (.sl (.int .i64)) (.pair (.int .i64) (.pair (.sl (.pair (.sl (.pair (.int .i64) (.pair (.int .i64) (.pair (.int .i64) (.pair (.int .i64) (.pair (.int .i64) (.pair (.sl (.int .i64)) .unit))))))) (.pair (.pair (.int .i64) (.pair (.int .i64) (.pair (.int .i64) (.pair (.int .i64) (.pair (.int .i64) (.pair (.sl (.int .i64)) .unit)))))) .unit))) .unit)))) z4)]) s1 s2 s3 s4 s5 s6 s7 s8
theorem l31r11v : LoopV E (inlF (PA (ACall E)) E 8) (E.info 31).keep 0 Try.f31.ntmps 32000011 (body Try.f31 11) ([1, 4, 40, 41, 42, 58, 59, 60], lsl31r11) := by
  intro vs σ K (h0 : lsl31r11 vs σ K)
  unfold lsl31r11 at h0
  obtain ⟨a1, r1, rfl, h1⟩ := asCons_inv h0; clear h0
  obtain ⟨rfl, h2⟩ := asP_inv h1; clear h1
  obtain ⟨a2, r2, rfl, h3⟩ := asCons_inv h2; clear h2
  obtain ⟨s1, rfl, h4⟩ := asD_inv h3; clear h3
  obtain ⟨a3, r3, rfl, h5⟩ := asCons_inv h4; clear h4
  obtain ⟨s2, rfl, h6⟩ := asD_inv h5; clear h5
  obtain ⟨a4, r4, rfl, h7⟩ := asCons_inv h6; clear h6
  obtain ⟨s3, rfl, h8⟩ := asD_inv h7; clear h7
  obtain ⟨a5, r5, rfl, h9⟩ := asCons_inv h8; clear h8
  obtain ⟨s4, rfl, h10⟩ := asD_inv h9; clear h9
  obtain ⟨a6, r6, rfl, h11⟩ := asCons_inv h10; clear h10
  obtain ⟨s5, rfl, h12⟩ := asD_inv h11; clear h11
  obtain ⟨a7, r7, rfl, h13⟩ := asCons_inv h12; clear h12
  obtain ⟨s6, rfl, h14⟩ := asD_inv h13; clear h13
  obtain ⟨a8, r8, rfl, h15⟩ := asCons_inv h14; clear h14
  obtain ⟨s7, rfl, h16⟩ := asD_inv h15; clear h15
  obtain ⟨rfl, h17⟩ := asNil_inv h16; clear h16
  obtain ⟨a9, r9, rfl, h18⟩ := asCons_inv h17; clear h17
  obtain ⟨a10, rfl, h19⟩ := asOne_inv h18; clear h18
  obtain ⟨s8, rfl, h20⟩ := asD_inv h19; clear h19
  obtain ⟨rfl, h21⟩ := asNil_inv h20; clear h20
  intro J hJ
  have hp : ∀ c' ∈ subsOf (E.info 31).keep (body Try.f31 11), SubOK E (inlF (PA (ACall E)) E 8) (E.info 31).keep 0 Try.f31.ntmps (lofL Ll31r11) c' := all_eq (by kernel_rfl : subsOf (E.info 31).keep (body Try.f31 11) = []) (all_nil)
  exact h21.of (fun s1 s2 s3 s4 s5 s6 s7 s8 => J [(32000011, .undef), (1, .ptr 0 0 []), (4, I s1), (40, .d (.sl (.int .i64)) s2), (41, I s3), (42, I s4), (58, .d (.sl (.int .i64)) s5), (59, I s6), (60, I s7)] [.one (.pair (.int .i64) (.pair (.sl (.int .i64)) (.pair (.int .i64) (.pair (.sl (.pair (.sl (.pair (.int .i64) (.pair (.int .i64) (.pair (.int .i64) (.pair (.int .i64) (.pair (.int .i64) (.pair (.sl (.int .i64)) .unit))))))) (.pair (.pair (.int .i64) (.pair (.int .i64) (.pair (.int .i64) (.pair (.int .i64) (.pair (.int .i64) (.pair (.sl (.int .i64)) .unit)))))) .unit))) .unit)))) (.d (.pair (.int .i64) (.pair (.sl (.int .i64)) (.pair (.int .i64) (.pair (.sl (.pair (.sl (.pair (.int .i64) (.pair (.int .i64) (.pair (.int .i64) (.pair (.int .i64) (.pair (.int .i64) (.pair (.sl (.int .i64)) .unit))))))) (.pair (.pair (.int .i64) (.pair (.int .i64) (.pair (.int .i64) (.pair (.int .i64) (.pair (.int .i64) (.pair (.sl (.int .i64)) .unit)))))) .unit))) .unit)))) s8)]) (fun s1 s2 s3 s4 s5 s6 s7 s8 hb => loop_round2 (S := ofL Sl31r11) (L := lofL Ll31r11) hSl31r11 (inlOK _) hp hJ (by kernel_rfl) hb)

abbrev Sl31r6 : List (Nat × Pat × Sp) := []
theorem hSl31r6 : SpecOK E (ofL Sl31r6) := specOK_nil
abbrev Ll31r6 : List (Nat × List Nat × Pat × LSp) := [(32000011, [1, 4, 40, 41, 42, 58, 59, 60], none, lsl31r11)]
def lsl31r6 : LSp := fun vs σ K => asCons vs fun a1 r1 => asP (.ptr 0 0 []) a1 <| asCons r1 fun a2 r2 => asD (.sl (.int .i64)) a2 fun s1 => asCons r2 fun a3 r3 => asD (.int .i64) a3 fun s2 => asCons r3 fun a4 r4 => asD (.int .i64) a4 fun s3 => asNil r4 <| asCons σ fun a5 r5 => asOne (.pair (.int .i64) (.pair (.sl (.int .i64)) (.pair (.int .i64) (.pair (.sl (.pair (.sl (.pair (.int .i64) (.pair (.int .i64) (.pair (.int .i64) (.pair (.int .i64) (.pair (.int .i64) (.pair (.sl (.int .i64)) .unit))))))) (.pair (.pair (.int .i64) (.pair (.int .i64) (.pair (.int .i64) (.pair (.int .i64) (.pair (.int .i64) (.pair (.sl (.int .i64)) .unit)))))) .unit))) .unit)))) a5 fun a6 => asD (.pair (.int .i64) (.pair (.sl (.int .i64)) (.pair (.int .i64) (.pair (.sl (.pair (.sl (.pair (.int .i64) (.pair (.int .i64) (.pair (.int .i64) (.pair (.int .i64) (.pair (.int .i64) (.pair (.sl (.int .i64)) .unit))))))) (.pair (.pair (.int .i64) (.pair (.int .i64) (.pair (.int .i64) (.pair (.int .i64) (.pair (.int .i64) (.pair (.sl (.int .i64)) .unit)))))) .unit))) .unit)))) a6 fun s4 => asNil r5 <| l31r6 (fun z1 => K .ret [(1, .undef), (2, I z1)] []) (fun z1 => K (.exit 0) [(1, .ptr 0 0 []), (2, .undef)] [.one (.pair (.int .i64) (.pair (.sl (.int .i64)) (.pair (.int .i64) (.pair (.sl (.pair (.sl (.pair (.int .i64) (.pair (.int .i64) (.pair (.int .i64) (.pair (.int .i64) (.pair (.int .i64) (.pair (.sl (.int .i64)) .unit))))))) (.pair (.pair (.int .i64) (.pair (.int .i64) (.pair (.int .i64) (.pair (.int .i64) (.pair (.int .i64) (.pair (.sl (.int .i64)) .unit)))))) .unit))) .unit)))) (.d (.pair (.int .i64) (.pair (.sl (.int .i64)) (.pair (.int .i64) (.pair (.sl (.pair (.sl (.pair (.int .i64) (.pair (.int .i64) (.pair (.int .i64) (.pair (.int .i64) (.pair (.int .i64) (.pair (.sl (.int .i64)) .unit))))))) (.pair (.pair (.int .i64) (.pair (.int .i64) (.pair (.int .i64) (.pair (.int .i64) (.pair (.int .i64) (.pair (.sl (.int .i64)) .unit)))))) .unit))) .unit)))) z1)]) s1 s2 s3 s4
theorem l31r6v : LoopV E (inlF (PA (ACall E)) E 8) (E.info 31).keep 0 Try.f31.ntmps 32000006 (body Try.f31 6) ([1, 40, 41, 42], lsl31r6) := by
  intro vs σ K (h0 : lsl31r6 vs σ K)
  unfold lsl31r6 at h0
  obtain ⟨a1, r1, rfl, h1⟩ := asCons_inv h0; clear h0
  obtain ⟨rfl, h2⟩ := asP_inv h1; clear h1
  obtain ⟨a2, r2, rfl, h3⟩ := asCons_inv h2; clear h2
  obtain ⟨s1, rfl, h4⟩ := asD_inv h3; clear h3
  obtain ⟨a3, r3, rfl, h5⟩ := asCons_inv h4; clear h4
  obtain ⟨s2, rfl, h6⟩ := asD_inv h5; clear h5
  obtain ⟨a4, r4, rfl, h7⟩ := asCons_inv h6; clear h6
  obtain ⟨s3, rfl, h8⟩ := asD_inv h7; clear h7
  obtain ⟨rfl, h9⟩ := asNil_inv h8; clear h8
  obtain ⟨a5, r5, rfl, h10⟩ := asCons_inv h9; clear h9
  obtain ⟨a6, rfl, h11⟩ := asOne_inv h10; clear h10
  obtain ⟨s4, rfl, h12⟩ := asD_inv h11; clear h11
  obtain ⟨rfl, h13⟩ := asNil_inv h12; clear h12
  intro J hJ
  have hp : ∀ c' ∈ subsOf (E.info 31).keep (body Try.f31 6), SubOK E (inlF (PA (ACall E)) E 8) (E.info 31).keep 0 Try.f31.ntmps (lofL Ll31r6) c' := all_eq (by kernel_rfl : subsOf (E.info 31).keep (body Try.f31 6) = [.loop (body Try.f31 11)]) (all_cons (loopOK_of (mk := 32000011) (sl := [1, 4, 40, 41, 42, 58, 59, 60]) (ss := [([1, 4, 40, 41, 42, 58, 59, 60], lsl31r11)]) (by kernel_rfl) (by kernel_rfl) (all_cons l31r11v (all_nil))) (all_nil))
  exact h13.of (fun s1 s2 s3 s4 => J [(32000006, .undef), (1, .ptr 0 0 []), (40, .d (.sl (.int .i64)) s1), (41, I s2), (42, I s3)] [.one (.pair (.int .i64) (.pair (.sl (.int .i64)) (.pair (.int .i64) (.pair (.sl (.pair (.sl (.pair (.int .i64) (.pair (.int .i64) (.pair (.int .i64) (.pair (.int .i64) (.pair (.int .i64) (.pair (.sl (.int .i64)) .unit))))))) (.pair (.pair (.int .i64) (.pair (.int .i64) (.pair (.int .i64) (.pair (.int .i64) (.pair (.int .i64) (.pair (.sl (.int .i64)) .unit)))))) .unit))) .unit)))) (.d (.pair (.int .i64) (.pair (.sl (.int .i64)) (.pair (.int .i64) (.pair (.sl (.pair (.sl (.pair (.int .i64) (.pair (.int .i64) (.pair (.int .i64) (.pair (.int .i64) (.pair (.int .i64) (.pair (.sl (.int .i64)) .unit))))))) (.pair (.pair (.int .i64) (.pair (.int .i64) (.pair (.int .i64) (.pair (.int .i64) (.pair (.int .i64) (.pair (.sl (.int .i64)) .unit)))))) .unit))) .unit)))) s4)]) (fun s1 s2 s3 s4 hb => loop_round2 (S := ofL Sl31r6) (L := lofL Ll31r6) hSl31r6 (inlOK _) hp hJ (by kernel_rfl) hb)

abbrev S103 : List (Nat × Pat × Sp) := []
theorem hS103 : SpecOK E (ofL S103) := specOK_nil
abbrev L103 : List (Nat × List Nat × Pat × LSp) := []
def sp103 : Sp := fun args τ K => asNil args <| asNil τ <| c103  (fun z1 => K (.vec 0) [.row .str z1 false])
theorem h103 : ∀ args τ K, sp103 args τ K → ACall E 103 args τ K := by
  intro args τ K h0
  unfold sp103 at h0
  obtain ⟨rfl, h1⟩ := asNil_inv h0; clear h0
  obtain ⟨rfl, h2⟩ := asNil_inv h1; clear h1
  exact ACall.spec2 (fn := Try.f103) (c := codeOf Try.f103) (S := ofL S103) (L := lofL L103) hS103 (by kernel_rfl) (by kernel_rfl) (inlOK _) (all_eq (by kernel_rfl : subsOf (E.info 103).keep (codeOf Try.f103) = []) (all_nil)) (by kernel_rfl) h2.of

abbrev S173 : List (Nat × Pat × Sp) := [(103, none, sp103)]
theorem hS173 : SpecOK E (ofL S173) := specOK_cons h103 (specOK_nil)
abbrev L173 : List (Nat × List Nat × Pat × LSp) := []
def sp173 : Sp := fun args τ K => asCons args fun a1 r1 => asD (.int .i64) a1 fun x1 => asNil r1 <| asNil τ <| c173 x1 (fun z1 => K (.d .str z1) [])
theorem h173 : ∀ args τ K, sp173 args τ K → ACall E 173 args τ K := by
  intro args τ K h0
  unfold sp173 at h0
  obtain ⟨a1, r1, rfl, h1⟩ := asCons_inv h0; clear h0
  obtain ⟨x1, rfl, h2⟩ := asD_inv h1; clear h1
  obtain ⟨rfl, h3⟩ := asNil_inv h2; clear h2
  obtain ⟨rfl, h4⟩ := asNil_inv h3; clear h3
  exact ACall.spec2 (fn := Try.f173) (c := codeOf Try.f173) (S := ofL S173) (L := lofL L173) hS173 (by kernel_rfl) (by kernel_rfl) (inlOK _) (all_eq (by kernel_rfl : subsOf (E.info 173).keep (codeOf Try.f173) = []) (all_nil)) (by kernel_rfl) h4.of

abbrev Sl104r2 : List (Nat × Pat × Sp) := []
theorem hSl104r2 : SpecOK E (ofL Sl104r2) := specOK_nil
abbrev Ll104r2 : List (Nat × List Nat × Pat × LSp) := []
def lsl104r2 : LSp := fun vs σ K => asCons vs fun a1 r1 => asD .str a1 fun s1 => asCons r1 fun a2 r2 => asD (.int .u8) a2 fun s2 => asCons r2 fun a3 r3 => asD (.int .i64) a3 fun s3 => asCons r3 fun a4 r4 => asD (.int .i64) a4 fun s4 => asNil r4 <| asNil σ <| l104r2 (fun z1 => K .ret [(4, B z1)] []) (K (.exit 0) [(4, .undef)] []) s1 s2 s3 s4
theorem l104r2v : LoopV E (inlF (PA (ACall E)) E 8) (E.info 104).keep 0 Try.f104.ntmps 105000002 (body Try.f104 2) ([0, 1, 7, 8], lsl104r2) := by
  intro vs σ K (h0 : lsl104r2 vs σ K)
  unfold lsl104r2 at h0
  obtain ⟨a1, r1, rfl, h1⟩ := asCons_inv h0; clear h0
  obtain ⟨s1, rfl, h2⟩ := asD_inv h1; clear h1
  obtain ⟨a2, r2, rfl, h3⟩ := asCons_inv h2; clear h2
  obtain ⟨s2, rfl, h4⟩ := asD_inv h3; clear h3
  obtain ⟨a3, r3, rfl, h5⟩ := asCons_inv h4; clear h4
  obtain ⟨s3, rfl, h6⟩ := asD_inv h5; clear h5
  obtain ⟨a4, r4, rfl, h7⟩ := asCons_inv h6; clear h6
  obtain ⟨s4, rfl, h8⟩ := asD_inv h7; clear h7
  obtain ⟨rfl, h9⟩ := asNil_inv h8; clear h8
  obtain ⟨rfl, h10⟩ := asNil_inv h9; clear h9
  intro J hJ
  have hp : ∀ c' ∈ subsOf (E.info 104).keep (body Try.f104 2), SubOK E (inlF (PA (ACall E)) E 8) (E.info 104).keep 0 Try.f104.ntmps (lofL Ll104r2) c' := all_eq (by kernel_rfl : subsOf (E.info 104).keep (body Try.f104 2) = []) (all_nil)
  exact h10.of (fun s1 s2 s3 s4 => J [(105000002, .undef), (0, .d .str s1), (1, .d (.int .u8) s2), (7, I s3), (8, I s4)] []) (fun s1 s2 s3 s4 hb => loop_round2 (S := ofL Sl104r2) (L := lofL Ll104r2) hSl104r2 (inlOK _) hp hJ (by kernel_rfl) hb)

abbrev S104 : List (Nat × Pat × Sp) := []
theorem hS104 : SpecOK E (ofL S104) := specOK_nil
abbrev L104 : List (Nat × List Nat × Pat × LSp) := [(105000002, [0, 1, 7, 8], none, lsl104r2)]
def sp104 : Sp := fun args τ K => asCons args fun a1 r1 => asD .str a1 fun x1 => asCons r1 fun a2 r2 => asD (.int .u8) a2 fun x2 => asNil r2 <| asNil τ <| c104 x1 x2 (fun z1 => K (B z1) [])
theorem h104 : ∀ args τ K, sp104 args τ K → ACall E 104 args τ K := by
  intro args τ K h0
  unfold sp104 at h0
  obtain ⟨a1, r1, rfl, h1⟩ := asCons_inv h0; clear h0
  obtain ⟨x1, rfl, h2⟩ := asD_inv h1; clear h1
  obtain ⟨a2, r2, rfl, h3⟩ := asCons_inv h2; clear h2
  obtain ⟨x2, rfl, h4⟩ := asD_inv h3; clear h3
  obtain ⟨rfl, h5⟩ := asNil_inv h4; clear h4
  obtain ⟨rfl, h6⟩ := asNil_inv h5; clear h5
  exact ACall.spec2 (fn := Try.f104) (c := codeOf Try.f104) (S := ofL S104) (L := lofL L104) hS104 (by kernel_rfl) (by kernel_rfl) (inlOK _) (all_eq (by kernel_rfl : subsOf (E.info 104).keep (codeOf Try.f104) = [.loop (body Try.f104 2)]) (all_cons (loopOK_of (mk := 105000002) (sl := [0, 1, 7, 8]) (ss := [([0, 1, 7, 8], lsl104r2)]) (by kernel_rfl) (by kernel_rfl) (all_cons l104r2v (all_nil))) (all_nil))) (by kernel_rfl) h6.of

abbrev Sl98r5 : List (Nat × Pat × Sp) := [(104, none, sp104)]
theorem hSl98r5 : SpecOK E (ofL Sl98r5) := specOK_cons h104 (specOK_nil)
abbrev Ll98r5 : List (Nat × List Nat × Pat × LSp) := []
def lsl98r5 : LSp := fun vs σ K => asCons vs fun a1 r1 => asD (.int .i64) a1 fun s1 => asCons r1 fun a2 r2 => asP (.ptr 0 0 []) a2 <| asCons r2 fun a3 r3 => asD .str a3 fun s2 => asCons r3 fun a4 r4 => asP (.vec 1) a4 <| asCons r4 fun a5 r5 => asD (.int .i64) a5 fun s3 => asCons r5 fun a6 r6 => asD (.int .i64) a6 fun s4 => asNil r6 <| asCons σ fun a7 r7 => asOne (.pair (.int .i64) (.pair (.int .i64) (.pair (.int .i64) (.pair (.int .i64) (.pair (.int .i64) (.pair (.sl (.int .i64)) .unit)))))) a7 fun a8 => asD (.pair (.int .i64) (.pair (.int .i64) (.pair (.int .i64) (.pair (.int .i64) (.pair (.int .i64) (.pair (.sl (.int .i64)) .unit)))))) a8 fun s5 => asCons r7 fun a9 r9 => asRw (.int .i64) false a9 fun s6 => asNil r9 <| l98r5 (fun z1 => K .ret [(1, .undef), (2, .undef), (4, I z1)] []) (fun z1 z2 => K (.exit 0) [(1, I z1), (2, .ptr 0 0 []), (4, .undef)] [.one (.pair (.int .i64) (.pair (.int .i64) (.pair (.int .i64) (.pair (.int .i64) (.pair (.int .i64) (.pair (.sl (.int .i64)) .unit)))))) (.d (.pair (.int .i64) (.pair (.int .i64) (.pair (.int .i64) (.pair (.int .i64) (.pair (.int .i64) (.pair (.sl (.int .i64)) .unit)))))) z2)]) s1 s2 s3 s4 s5 s6
theorem l98r5v : LoopV E (inlF (PA (ACall E)) E 8) (E.info 98).keep 0 Try.f98.ntmps 99000005 (body Try.f98 5) ([1, 2, 5, 28, 29, 30], lsl98r5) := by
  intro vs σ K (h0 : lsl98r5 vs σ K)
  unfold lsl98r5 at h0
  obtain ⟨a1, r1, rfl, h1⟩ := asCons_inv h0; clear h0
  obtain ⟨s1, rfl, h2⟩ := asD_inv h1; clear h1
  obtain ⟨a2, r2, rfl, h3⟩ := asCons_inv h2; clear h2
  obtain ⟨rfl, h4⟩ := asP_inv h3; clear h3
  obtain ⟨a3, r3, rfl, h5⟩ := asCons_inv h4; clear h4
  obtain ⟨s2, rfl, h6⟩ := asD_inv h5; clear h5
  obtain ⟨a4, r4, rfl, h7⟩ := asCons_inv h6; clear h6
  obtain ⟨rfl, h8⟩ := asP_inv h7; clear h7
  obtain ⟨a5, r5, rfl, h9⟩ := asCons_inv h8; clear h8
  obtain ⟨s3, rfl, h10⟩ := asD_inv h9; clear h9
  obtain ⟨a6, r6, rfl, h11⟩ := asCons_inv h10; clear h10
  obtain ⟨s4, rfl, h12⟩ := asD_inv h11; clear h11
  obtain ⟨rfl, h13⟩ := asNil_inv h12; clear h12
  obtain ⟨a7, r7, rfl, h14⟩ := asCons_inv h13; clear h13
  obtain ⟨a8, rfl, h15⟩ := asOne_inv h14; clear h14
  obtain ⟨s5, rfl, h16⟩ := asD_inv h15; clear h15
  obtain ⟨a9, r9, rfl, h17⟩ := asCons_inv h16; clear h16
  obtain ⟨s6, rfl, h18⟩ := asRw_inv h17; clear h17
  obtain ⟨rfl, h19⟩ := asNil_inv h18; clear h18
  intro J hJ
  have hp : ∀ c' ∈ subsOf (E.info 98).keep (body Try.f98 5), SubOK E (inlF (PA (ACall E)) E 8) (E.info 98).keep 0 Try.f98.ntmps (lofL Ll98r5) c' := all_eq (by kernel_rfl : subsOf (E.info 98).keep (body Try.f98 5) = []) (all_nil)
  exact h19.of (fun s1 s2 s3 s4 s5 s6 => J [(99000005, .undef), (1, I s1), (2, .ptr 0 0 []), (5, .d .str s2), (28, .vec 1), (29, I s3), (30, I s4)] [.one (.pair (.int .i64) (.pair (.int .i64) (.pair (.int .i64) (.pair (.int .i64) (.pair (.int .i64) (.pair (.sl (.int .i64)) .unit)))))) (.d (.pair (.int .i64) (.pair (.int .i64) (.pair (.int .i64) (.pair (.int .i64) (.pair (.int .i64) (.pair (.sl (.int .i64)) .unit)))))) s5), .row (.int .i64) s6 false]) (fun s1 s2 s3 s4 s5 s6 hb => loop_round2 (S := ofL Sl98r5) (L := lofL Ll98r5) hSl98r5 (inlOK _) hp hJ (by kernel_rfl) hb)

abbrev Sl98r23 : List (Nat × Pat × Sp) := []
theorem hSl98r23 : SpecOK E (ofL Sl98r23) := specOK_nil
abbrev Ll98r23 : List (Nat × List Nat × Pat × LSp) := []
def lsl98r23 : LSp := fun vs σ K => asCons vs fun a1 r1 => asD (.int .i64) a1 fun s1 => asCons r1 fun a2 r2 => asP (.vec 0) a2 <| asCons r2 fun a3 r3 => asD (.int .i64) a3 fun s2 => asCons r3 fun a4 r4 => asD (.int .i64) a4 fun s3 => asNil r4 <| asCons σ fun a5 r5 => asRw (.int .i64) false a5 fun s4 => asNil r5 <| l98r23 (fun z1 => K .ret [(4, I z1)] []) (K (.exit 3) [(4, .undef)] []) s1 s2 s3 s4
theorem l98r23v : LoopV E (inlF (PA (ACall E)) E 8) (E.info 98).keep 0 Try.f98.ntmps 99000023 (body Try.f98 23) ([1, 80, 81, 82], lsl98r23) := by
  intro vs σ K (h0 : lsl98r23 vs σ K)
  unfold lsl98r23 at h0
  obtain ⟨a1, r1, rfl, h1⟩ := asCons_inv h0; clear h0
  obtain ⟨s1, rfl, h2⟩ := asD_inv h1; clear h1
  obtain ⟨a2, r2, rfl, h3⟩ := asCons_inv h2; clear h2
  obtain ⟨rfl, h4⟩ := asP_inv h3; clear h3
  obtain ⟨a3, r3, rfl, h5⟩ := asCons_inv h4; clear h4
  obtain ⟨s2, rfl, h6⟩ := asD_inv h5; clear h5
  obtain ⟨a4, r4, rfl, h7⟩ := asCons_inv h6; clear h6
  obtain ⟨s3, rfl, h8⟩ := asD_inv h7; clear h7
  obtain ⟨rfl, h9⟩ := asNil_inv h8; clear h8
  obtain ⟨a5, r5, rfl, h10⟩ := asCons_inv h9; clear h9
  obtain ⟨s4, rfl, h11⟩ := asRw_inv h10; clear h10
  obtain ⟨rfl, h12⟩ := asNil_inv h11; clear h11
  intro J hJ
  have hp : ∀ c' ∈ subsOf (E.info 98).keep (body Try.f98 23), SubOK E (inlF (PA (ACall E)) E 8) (E.info 98).keep 0 Try.f98.ntmps (lofL Ll98r23) c' := all_eq (by kernel_rfl : subsOf (E.info 98).keep (body Try.f98 23) = []) (all_nil)
  exact h12.of (fun s1 s2 s3 s4 => J [(99000023, .undef), (1, I s1), (80, .vec 0), (81, I s2), (82, I s3)] [.row (.int .i64) s4 false]) (fun s1 s2 s3 s4 hb => loop_round2 (S := ofL Sl98r23) (L := lofL Ll98r23) hSl98r23 (inlOK _) hp hJ (by kernel_rfl) hb)

abbrev Sj98r20 : List (Nat × Pat × Sp) := []
theorem hSj98r20 : SpecOK E (ofL Sj98r20) := specOK_nil
abbrev Lj98r20 : List (Nat × List Nat × Pat × LSp) := [(99000023, [1, 80, 81, 82], none, lsl98r23)]
def lsj98r20 : LSp := fun vs σ K => asCons vs fun a1 r1 => asD (.int .i64) a1 fun s1 => asCons r1 fun a2 r2 => asP (.ptr 0 0 []) a2 <| asCons r2 fun a3 r3 => asD (.int .i64) a3 fun s2 => asCons r3 fun a4 r4 => asD (.int .i64) a4 fun s3 => asNil r4 <| asCons σ fun a5 r5 => asOne (.pair (.int .i64) (.pair (.int .i64) (.pair (.int .i64) (.pair (.int .i64) (.pair (.int .i64) (.pair (.sl (.int .i64)) .unit)))))) a5 fun a6 => asD (.pair (.int .i64) (.pair (.int .i64) (.pair (.int .i64) (.pair (.int .i64) (.pair (.int .i64) (.pair (.sl (.int .i64)) .unit)))))) a6 fun s4 => asNil r5 <| j98r20 (fun z1 => K .ret [(4, I z1)] []) s1 s2 s3 s4
theorem j98r20v : JoinV E (inlF (PA (ACall E)) E 8) (E.info 98).keep 0 Try.f98.ntmps 99400020 4000020 (jbody Try.f98 4000020) ([1, 2, 8, 9], lsj98r20) := by
  intro vs σ K (h0 : lsj98r20 vs σ K)
  unfold lsj98r20 at h0
  obtain ⟨a1, r1, rfl, h1⟩ := asCons_inv h0; clear h0
  obtain ⟨s1, rfl, h2⟩ := asD_inv h1; clear h1
  obtain ⟨a2, r2, rfl, h3⟩ := asCons_inv h2; clear h2
  obtain ⟨rfl, h4⟩ := asP_inv h3; clear h3
  obtain ⟨a3, r3, rfl, h5⟩ := asCons_inv h4; clear h4
  obtain ⟨s2, rfl, h6⟩ := asD_inv h5; clear h5
  obtain ⟨a4, r4, rfl, h7⟩ := asCons_inv h6; clear h6
  obtain ⟨s3, rfl, h8⟩ := asD_inv h7; clear h7
  obtain ⟨rfl, h9⟩ := asNil_inv h8; clear h8
  obtain ⟨a5, r5, rfl, h10⟩ := asCons_inv h9; clear h9
  obtain ⟨a6, rfl, h11⟩ := asOne_inv h10; clear h10
  obtain ⟨s4, rfl, h12⟩ := asD_inv h11; clear h11
  obtain ⟨rfl, h13⟩ := asNil_inv h12; clear h12
  exact join_round2 (S := ofL Sj98r20) (L := lofL Lj98r20) hSj98r20 (inlOK _) (all_eq (by kernel_rfl : subsOf (E.info 98).keep (jbody Try.f98 4000020) = [.loop (body Try.f98 23)]) (all_cons (loopOK_of (mk := 99000023) (sl := [1, 80, 81, 82]) (ss := [([1, 80, 81, 82], lsl98r23)]) (by kernel_rfl) (by kernel_rfl) (all_cons l98r23v (all_nil))) (all_nil))) (by kernel_rfl) h13.of

abbrev S98 : List (Nat × Pat × Sp) := [(173, none, sp173)]
theorem hS98 : SpecOK E (ofL S98) := specOK_cons h173 (specOK_nil)
abbrev L98 : List (Nat × List Nat × Pat × LSp) := [(99000005, [1, 2, 5, 28, 29, 30], none, lsl98r5), (99400020, [1, 2, 8, 9], none, lsj98r20)]
def sp98 : Sp := fun args τ K => asCons args fun a1 r1 => asD (.pair (.int .i64) (.pair (.int .i64) (.pair (.int .i64) (.pair (.int .i64) (.pair (.int .i64) (.pair (.sl (.int .i64)) .unit)))))) a1 fun x1 => asCons r1 fun a2 r2 => asD (.int .i64) a2 fun x2 => asNil r2 <| asNil τ <| c98 x1 x2 (fun z1 => K (I z1) [])
theorem h98 : ∀ args τ K, sp98 args τ K → ACall E 98 args τ K := by
  intro args τ K h0
  unfold sp98 at h0
  obtain ⟨a1, r1, rfl, h1⟩ := asCons_inv h0; clear h0
  obtain ⟨x1, rfl, h2⟩ := asD_inv h1; clear h1
  obtain ⟨a2, r2, rfl, h3⟩ := asCons_inv h2; clear h2
  obtain ⟨x2, rfl, h4⟩ := asD_inv h3; clear h3
  obtain ⟨rfl, h5⟩ := asNil_inv h4; clear h4
  obtain ⟨rfl, h6⟩ := asNil_inv h5; clear h5
  exact ACall.spec2 (fn := Try.f98) (c := codeOf Try.f98) (S := ofL S98) (L := lofL L98) hS98 (by kernel_rfl) (by kernel_rfl) (inlOK _) (all_eq (by kernel_rfl : subsOf (E.info 98).keep (codeOf Try.f98) = [.loop (body Try.f98 5), .join 4000020 (jbody Try.f98 4000020)]) (all_cons (loopOK_of (mk := 99000005) (sl := [1, 2, 5, 28, 29, 30]) (ss := [([1, 2, 5, 28, 29, 30], lsl98r5)]) (by kernel_rfl) (by kernel_rfl) (all_cons l98r5v (all_nil))) (all_cons (joinOK_of (mk := 99400020) (sl := [1, 2, 8, 9]) (ss := [([1, 2, 8, 9], lsj98r20)]) (by kernel_rfl) (by kernel_rfl) (all_cons j98r20v (all_nil))) (all_nil)))) (by kernel_rfl) h6.of

abbrev Sl31r25 : List (Nat × Pat × Sp) := [(98, none, sp98)]
theorem hSl31r25 : SpecOK E (ofL Sl31r25) := specOK_cons h98 (specOK_nil)
abbrev Ll31r25 : List (Nat × List Nat × Pat × LSp) := []
def lsl31r25 : LSp := fun vs σ K => asCons vs fun a1 r1 => asP (.ptr 0 0 []) a1 <| asCons r1 fun a2 r2 => asD (.int .i64) a2 fun s1 => asCons r2 fun a3 r3 => asP (.ptr 1 0 []) a3 <| asCons r3 fun a4 r4 => asD (.sl (.pair (.sl (.pair (.int .i64) (.pair (.int .i64) (.pair (.int .i64) (.pair (.int .i64) (.pair (.int .i64) (.pair (.sl (.int .i64)) .unit))))))) (.pair (.pair (.int .i64) (.pair (.int .i64) (.pair (.int .i64) (.pair (.int .i64) (.pair (.int .i64) (.pair (.sl (.int .i64)) .unit)))))) .unit))) a4 fun s2 => asCons r4 fun a5 r5 => asD (.int .i64) a5 fun s3 => asCons r5 fun a6 r6 => asD (.int .i64) a6 fun s4 => asCons r6 fun a7 r7 => asD (.sl (.pair (.int .i64) (.pair (.int .i64) (.pair (.int .i64) (.pair (.int .i64) (.pair (.int .i64) (.pair (.sl (.int .i64)) .unit))))))) a7 fun s5 => asCons r7 fun a8 r8 => asD (.int .i64) a8 fun s6 => asCons r8 fun a9 r9 => asD (.int .i64) a9 fun s7 => asNil r9 <| asCons σ fun a10 r10 => asOne (.pair (.int .i64) (.pair (.sl (.int .i64)) (.pair (.int .i64) (.pair (.sl (.pair (.sl (.pair (.int .i64) (.pair (.int .i64) (.pair (.int .i64) (.pair (.int .i64) (.pair (.int .i64) (.pair (.sl (.int .i64)) .unit))))))) (.pair (.pair (.int .i64) (.pair (.int .i64) (.pair (.int .i64) (.pair (.int .i64) (.pair (.int .i64) (.pair (.sl (.int .i64)) .unit)))))) .unit))) .unit)))) a10 fun a11 => asD (.pair (.int .i64) (.pair (.sl (.int .i64)) (.pair (.int .i64) (.pair (.sl (.pair (.sl (.pair (.int .i64) (.pair (.int .i64) (.pair (.int .i64) (.pair (.int .i64) (.pair (.int .i64) (.pair (.sl (.int .i64)) .unit))))))) (.pair (.pair (.int .i64) (.pair (.int .i64) (.pair (.int .i64) (.pair (.int .i64) (.pair (.int .i64) (.pair (.sl (.int .i64)) .unit)))))) .unit))) .unit)))) a11 fun s8 => asCons r10 fun a12 r12 => asOne (.pair (.sl (.pair (.int .i64) (.pair (.int .i64) (.pair (.int .i64) (.pair (.int .i64) (.pair (.int .i64) (.pair (.sl (.int .i64)) .unit))))))) (.pair (.pair (.int .i64) (.pair (.int .i64) (.pair (.int .i64) (.pair (.int .i64) (.pair (.int .i64) (.pair (.sl (.int .i64)) .unit)))))) .unit)) a12 fun a13 => asD (.pair (.sl (.pair (.int .i64) (.pair (.int .i64) (.pair (.int .i64) (.pair (.int .i64) (.pair (.int .i64) (.pair (.sl (.int .i64)) .unit))))))) (.pair (.pair (.int .i64) (.pair (.int .i64) (.pair (.int .i64) (.pair (.int .i64) (.pair (.int .i64) (.pair (.sl (.int .i64)) .unit)))))) .unit)) a13 fun s9 => asNil r12 <| l31r25 (fun z1 => K .ret [(1, .undef), (2, I z1), (7, .undef), (9, .undef), (70, .undef), (71, .undef), (72, .undef)] []) (fun z1 z2 z3 z4 z5 z6 => K (.exit 6) [(1, .ptr 0 0 []), (2, .undef), (7, I z1), (9, .ptr 1 0 []), (70, .d (.sl (.pair (.sl (.pair (.int .i64) (.pair (.int .i64) (.pair (.int .i64) (.pair (.int .i64) (.pair (.int .i64) (.pair (.sl (.int .i64)) .unit))))))) (.pair (.pair (.int .i64) (.pair (.int .i64) (.pair (.int .i64) (.pair (.int .i64) (.pair (.int .i64) (.pair (.sl (.int .i64)) .unit)))))) .unit))) z2), (71, I z3), (72, I z4)] [.one (.pair (.int .i64) (.pair (.sl (.int .i64)) (.pair (.int .i64) (.pair (.sl (.pair (.sl (.pair (.int .i64) (.pair (.int .i64) (.pair (.int .i64) (.pair (.int .i64) (.pair (.int .i64) (.pair (.sl (.int .i64)) .unit))))))) (.pair (.pair (.int .i64) (.pair (.int .i64) (.pair (.int .i64) (.pair (.int .i64) (.pair (.int .i64) (.pair (.sl (.int .i64)) .unit)))))) .unit))) .unit)))) (.d (.pair (.int .i64) (.pair (.sl (.int .i64)) (.pair (.int .i64) (.pair (.sl (.pair (.sl (.pair (.int .i64) (.pair (.int .i64) (.pair (.int .i64) (.pair (.int .i64) (.pair (.int .i64) (.pair (.sl (.int .i64)) .unit))))))) (.pair (.pair (.int .i64) (.pair (.int .i64) (.pair (.int .i64) (.pair (.int .i64) (.pair (.int .i64) (.pair (.sl (.int .i64)) .unit)))))) .unit))) .unit)))) z5), .one (.pair (.sl (.pair (.int .i64) (.pair (.int .i64) (.pair (.int .i64) (.pair (.int .i64) (.pair (.int .i64) (.pair (.sl (.int .i64)) .unit))))))) (.pair (.pair (.int .i64) (.pair (.int .i64) (.pair (.int .i64) (.pair (.int .i64) (.pair (.int .i64) (.pair (.sl (.int .i64)) .unit)))))) .unit)) (.d (.pair (.sl (.pair (.int .i64) (.pair (.int .i64) (.pair (.int .i64) (.pair (.int .i64) (.pair (.int .i64) (.pair (.sl (.int .i64)) .unit))))))) (.pair (.pair (.int .i64) (.pair (.int .i64) (.pair (.int .i64) (.pair (.int .i64) (.pair (.int .i64) (.pair (.sl (.int .i64)) .unit)))))) .unit)) z6)]) s1 s2 s3 s4 s5 s6 s7 s8 s9
theorem l31r25v : LoopV E (inlF (PA (ACall E)) E 8) (E.info 31).keep 0 Try.f31.ntmps 32000025 (body Try.f31 25) ([1, 7, 9, 70, 71, 72, 84, 85, 86], lsl31r25) := by
  intro vs σ K (h0 : lsl31r25 vs σ K)
  unfold lsl31r25 at h0
  obtain ⟨a1, r1, rfl, h1⟩ := asCons_inv h0; clear h0
  obtain ⟨rfl, h2⟩ := asP_inv h1; clear h1
  obtain ⟨a2, r2, rfl, h3⟩ := asCons_inv h2; clear h2
  obtain ⟨s1, rfl, h4⟩ := asD_inv h3; clear h3
  obtain ⟨a3, r3, rfl, h5⟩ := asCons_inv h4; clear h4
  obtain ⟨rfl, h6⟩ := asP_inv h5; clear h5
  obtain ⟨a4, r4, rfl, h7⟩ := asCons_inv h6; clear h6
  obtain ⟨s2, rfl, h8⟩ := asD_inv h7; clear h7
  obtain ⟨a5, r5, rfl, h9⟩ := asCons_inv h8; clear h8
  obtain ⟨s3, rfl, h10⟩ := asD_inv h9; clear h9
  obtain ⟨a6, r6, rfl, h11⟩ := asCons_inv h10; clear h10
  obtain ⟨s4, rfl, h12⟩ := asD_inv h11; clear h11
  obtain ⟨a7, r7, rfl, h13⟩ := asCons_inv h12; clear h12
  obtain ⟨s5, rfl, h14⟩ := asD_inv h13; clear h13
  obtain ⟨a8, r8, rfl, h15⟩ := asCons_inv h14; clear h14
  obtain ⟨s6, rfl, h16⟩ := asD_inv h15; clear h15
  obtain ⟨a9, r9, rfl, h17⟩ := asCons_inv h16; clear h16
  obtain ⟨s7, rfl, h18⟩ := asD_inv h17; clear h17
  obtain ⟨rfl, h19⟩ := asNil_inv h18; clear h18
  obtain ⟨a10, r10, rfl, h20⟩ := asCons_inv h19; clear h19
  obtain ⟨a11, rfl, h21⟩ := asOne_inv h20; clear h20
  obtain ⟨s8, rfl, h22⟩ := asD_inv h21; clear h21
  obtain ⟨a12, r12, rfl, h23⟩ := asCons_inv h22; clear h22
  obtain ⟨a13, rfl, h24⟩ := asOne_inv h23; clear h23
  obtain ⟨s9, rfl, h25⟩ := asD_inv h24; clear h24
  obtain ⟨rfl, h26⟩ := asNil_inv h25; clear h25
  intro J hJ
  have hp : ∀ c' ∈ subsOf (E.info 31).keep (body Try.f31 25), SubOK E (inlF (PA (ACall E)) E 8) (E.info 31).keep 0 Try.f31.ntmps (lofL Ll31r25) c' := all_eq (by kernel_rfl : subsOf (E.info 31).keep (body Try.f31 25) = []) (all_nil)
  exact h26.of (fun s1 s2 s3 s4 s5 s6 s7 s8 s9 => J [(32000025, .undef), (1, .ptr 0 0 []), (7, I s1), (9, .ptr 1 0 []), (70, .d (.sl (.pair (.sl (.pair (.int .i64) (.pair (.int .i64) (.pair (.int .i64) (.pair (.int .i64) (.pair (.int .i64) (.pair (.sl (.int .i64)) .unit))))))) (.pair (.pair (.int .i64) (.pair (.int .i64) (.pair (.int .i64) (.pair (.int .i64) (.pair (.int .i64) (.pair (.sl (.int .i64)) .unit)))))) .unit))) s2), (71, I s3), (72, I s4), (84, .d (.sl (.pair (.int .i64) (.pair (.int .i64) (.pair (.int .i64) (.pair (.int .i64) (.pair (.int .i64) (.pair (.sl (.int .i64)) .unit))))))) s5), (85, I s6), (86, I s7)] [.one (.pair (.int .i64) (.pair (.sl (.int .i64)) (.pair (.int .i64) (.pair (.sl (.pair (.sl (.pair (.int .i64) (.pair (.int .i64) (.pair (.int .i64) (.pair (.int .i64) (.pair (.int .i64) (.pair (.sl (.int .i64)) .unit))))))) (.pair (.pair (.int .i64) (.pair (.int .i64) (.pair (.int .i64) (.pair (.int .i64) (.pair (.int .i64) (.pair (.sl (.int .i64)) .unit)))))) .unit))) .unit)))) (.d (.pair (.int .i64) (.pair (.sl (.int .i64)) (.pair (.int .i64) (.pair (.sl (.pair (.sl (.pair (.int .i64) (.pair (.int .i64) (.pair (.int .i64) (.pair (.int .i64) (.pair (.int .i64) (.pair (.sl (.int .i64)) .unit))))))) (.pair (.pair (.int .i64) (.pair (.int .i64) (.pair (.int .i64) (.pair (.int .i64) (.pair (.int .i64) (.pair (.sl (.int .i64)) .unit)))))) .unit))) .unit)))) s8), .one (.pair (.sl (.pair (.int .i64) (.pair (.int .i64) (.pair (.int .i64) (.pair (.int .i64) (.pair (.int .i64) (.pair (.sl (.int .i64)) .unit))))))) (.pair (.pair (.int .i64) (.pair (.int .i64) (.pair (.int .i64) (.pair (.int .i64) (.pair (.int .i64) (.pair (.sl (.int .i64)) .unit)))))) .unit)) (.d (.pair (.sl (.pair (.int .i64) (.pair (.int .i64) (.pair (.int .i64) (.pair (.int .i64) (.pair (.int .i64) (.pair (.sl (.int .i64)) .unit))))))) (.pair (.pair (.int .i64) (.pair (.int .i64) (.pair (.int .i64) (.pair (.int .i64) (.pair (.int .i64) (.pair (.sl (.int .i64)) .unit)))))) .unit)) s9)]) (fun s1 s2 s3 s4 s5 s6 s7 s8 s9 hb => loop_round2 (S := ofL Sl31r25) (L := lofL Ll31r25) hSl31r25 (inlOK _) hp hJ (by kernel_rfl) hb)

abbrev Sl99r6 : List (Nat × Pat × Sp) := [(104, none, sp104)]
theorem hSl99r6 : SpecOK E (ofL Sl99r6) := specOK_cons h104 (specOK_nil)
abbrev Ll99r6 : List (Nat × List Nat × Pat × LSp) := []
def lsl99r6 : LSp := fun vs σ K => asCons vs fun a1 r1 => asD (.int .i64) a1 fun s1 => asCons r1 fun a2 r2 => asD (.int .i64) a2 fun s2 => asCons r2 fun a3 r3 => asP (.ptr 0 0 []) a3 <| asCons r3 fun a4 r4 => asD .str a4 fun s3 => asCons r4 fun a5 r5 => asD (.int .i64) a5 fun s4 => asCons r5 fun a6 r6 => asP (.vec 1) a6 <| asCons r6 fun a7 r7 => asD (.int .i64) a7 fun s5 => asCons r7 fun a8 r8 => asD (.int .i64) a8 fun s6 => asNil r8 <| asCons σ fun a9 r9 => asOne (.pair (.int .i64) (.pair (.int .i64) (.pair (.int .i64) (.pair (.int .i64) (.pair (.int .i64) (.pair (.sl (.int .i64)) .unit)))))) a9 fun a10 => asD (.pair (.int .i64) (.pair (.int .i64) (.pair (.int .i64) (.pair (.int .i64) (.pair (.int .i64) (.pair (.sl (.int .i64)) .unit)))))) a10 fun s7 => asCons r9 fun a11 r11 => asRw (.int .i64) false a11 fun s8 => asNil r11 <| l99r6 (fun z1 => K .ret [(1, .undef), (2, .undef), (3, .undef), (6, I z1), (8, .undef)] []) (fun z1 z2 z3 z4 => K (.exit 0) [(1, I z1), (2, I z2), (3, .ptr 0 0 []), (6, .undef), (8, I z3)] [.one (.pair (.int .i64) (.pair (.int .i64) (.pair (.int .i64) (.pair (.int .i64) (.pair (.int .i64) (.pair (.sl (.int .i64)) .unit)))))) (.d (.pair (.int .i64) (.pair (.int .i64) (.pair (.int .i64) (.pair (.int .i64) (.pair (.int .i64) (.pair (.sl (.int .i64)) .unit)))))) z4)]) s1 s2 s3 s4 s5 s6 s7 s8
theorem l99r6v : LoopV E (inlF (PA (ACall E)) E 8) (E.info 99).keep 0 Try.f99.ntmps 100000006 (body Try.f99 6) ([1, 2, 3, 7, 8, 39, 40, 41], lsl99r6) := by
  intro vs σ K (h0 : lsl99r6 vs σ K)
  unfold lsl99r6 at h0
  obtain ⟨a1, r1, rfl, h1⟩ := asCons_inv h0; clear h0
  obtain ⟨s1, rfl, h2⟩ := asD_inv h1; clear h1
  obtain ⟨a2, r2, rfl, h3⟩ := asCons_inv h2; clear h2
  obtain ⟨s2, rfl, h4⟩ := asD_inv h3; clear h3
  obtain ⟨a3, r3, rfl, h5⟩ := asCons_inv h4; clear h4
  obtain ⟨rfl, h6⟩ := asP_inv h5; clear h5
  obtain ⟨a4, r4, rfl, h7⟩ := asCons_inv h6; clear h6
  obtain ⟨s3, rfl, h8⟩ := asD_inv h7; clear h7
  obtain ⟨a5, r5, rfl, h9⟩ := asCons_inv h8; clear h8
  obtain ⟨s4, rfl, h10⟩ := asD_inv h9; clear h9
  obtain ⟨a6, r6, rfl, h11⟩ := asCons_inv h10; clear h10
  obtain ⟨rfl, h12⟩ := asP_inv h11; clear h11
  obtain ⟨a7, r7, rfl, h13⟩ := asCons_inv h12; clear h12
  obtain ⟨s5, rfl, h14⟩ := asD_inv h13; clear h13
  obtain ⟨a8, r8, rfl, h15⟩ := asCons_inv h14; clear h14
  obtain ⟨s6, rfl, h16⟩ := asD_inv h15; clear h15
  obtain ⟨rfl, h17⟩ := asNil_inv h16; clear h16
  obtain ⟨a9, r9, rfl, h18⟩ := asCons_inv h17; clear h17
  obtain ⟨a10, rfl, h19⟩ := asOne_inv h18; clear h18
  obtain ⟨s7, rfl, h20⟩ := asD_inv h19; clear h19
  obtain ⟨a11, r11, rfl, h21⟩ := asCons_inv h20; clear h20
  obtain ⟨s8, rfl, h22⟩ := asRw_inv h21; clear h21
  obtain ⟨rfl, h23⟩ := asNil_inv h22; clear h22
  intro J hJ
  have hp : ∀ c' ∈ subsOf (E.info 99).keep (body Try.f99 6), SubOK E (inlF (PA (ACall E)) E 8) (E.info 99).keep 0 Try.f99.ntmps (lofL Ll99r6) c' := all_eq (by kernel_rfl : subsOf (E.info 99).keep (body Try.f99 6) = []) (all_nil)
  exact h23.of (fun s1 s2 s3 s4 s5 s6 s7 s8 => J [(100000006, .undef), (1, I s1), (2, I s2), (3, .ptr 0 0 []), (7, .d .str s3), (8, I s4), (39, .vec 1), (40, I s5), (41, I s6)] [.one (.pair (.int .i64) (.pair (.int .i64) (.pair (.int .i64) (.pair (.int .i64) (.pair (.int .i64) (.pair (.sl (.int .i64)) .unit)))))) (.d (.pair (.int .i64) (.pair (.int .i64) (.pair (.int .i64) (.pair (.int .i64) (.pair (.int .i64) (.pair (.sl (.int .i64)) .unit)))))) s7), .row (.int .i64) s8 false]) (fun s1 s2 s3 s4 s5 s6 s7 s8 hb => loop_round2 (S := ofL Sl99r6) (L := lofL Ll99r6) hSl99r6 (inlOK _) hp hJ (by kernel_rfl) hb)

abbrev Sj99s11 : List (Nat × Pat × Sp) := []
theorem hSj99s11 : SpecOK E (ofL Sj99s11) := specOK_nil
abbrev Lj99s11 : List (Nat × List Nat × Pat × LSp) := []
def lsj99s11 : LSp := fun vs σ K => asCons vs fun a1 r1 => asD (.int .i64) a1 fun s1 => asCons r1 fun a2 r2 => asD (.int .i64) a2 fun s2 => asCons r2 fun a3 r3 => asP (.ptr 0 0 []) a3 <| asCons r3 fun a4 r4 => asD .bool a4 fun s3 => asNil r4 <| asCons σ fun a5 r5 => asOne (.pair (.int .i64) (.pair (.int .i64) (.pair (.int .i64) (.pair (.int .i64) (.pair (.int .i64) (.pair (.sl (.int .i64)) .unit)))))) a5 fun a6 => asD (.pair (.int .i64) (.pair (.int .i64) (.pair (.int .i64) (.pair (.int .i64) (.pair (.int .i64) (.pair (.sl (.int .i64)) .unit)))))) a6 fun s4 => asNil r5 <| j99s11 (fun z1 => K .ret [(1, .undef), (2, .undef), (3, .undef), (6, I z1)] []) (fun z1 z2 z3 => K .normal [(1, I z1), (2, I z2), (3, .ptr 0 0 []), (6, .undef)] [.one (.pair (.int .i64) (.pair (.int .i64) (.pair (.int .i64) (.pair (.int .i64) (.pair (.int .i64) (.pair (.sl (.int .i64)) .unit)))))) (.d (.pair (.int .i64) (.pair (.int .i64) (.pair (.int .i64) (.pair (.int .i64) (.pair (.int .i64) (.pair (.sl (.int .i64)) .unit)))))) z3)]) s1 s2 s3 s4
theorem j99s11v : JoinV E (inlF (PA (ACall E)) E 8) (E.info 99).keep 0 Try.f99.ntmps 100500011 5000011 (jbody Try.f99 5000011) ([1, 2, 3, 90], lsj99s11) := by
  intro vs σ K (h0 : lsj99s11 vs σ K)
  unfold lsj99s11 at h0
  obtain ⟨a1, r1, rfl, h1⟩ := asCons_inv h0; clear h0
  obtain ⟨s1, rfl, h2⟩ := asD_inv h1; clear h1
  obtain ⟨a2, r2, rfl, h3⟩ := asCons_inv h2; clear h2
  obtain ⟨s2, rfl, h4⟩ := asD_inv h3; clear h3
  obtain ⟨a3, r3, rfl, h5⟩ := asCons_inv h4; clear h4
  obtain ⟨rfl, h6⟩ := asP_inv h5; clear h5
  obtain ⟨a4, r4, rfl, h7⟩ := asCons_inv h6; clear h6
  obtain ⟨s3, rfl, h8⟩ := asD_inv h7; clear h7
  obtain ⟨rfl, h9⟩ := asNil_inv h8; clear h8
  obtain ⟨a5, r5, rfl, h10⟩ := asCons_inv h9; clear h9
  obtain ⟨a6, rfl, h11⟩ := asOne_inv h10; clear h10
  obtain ⟨s4, rfl, h12⟩ := asD_inv h11; clear h11
  obtain ⟨rfl, h13⟩ := asNil_inv h12; clear h12
  exact join_round2 (S := ofL Sj99s11) (L := lofL Lj99s11) hSj99s11 (inlOK _) (all_eq (by kernel_rfl : subsOf (E.info 99).keep (jbody Try.f99 5000011) = []) (all_nil)) (by kernel_rfl) h13.of

abbrev Sl99r16 : List (Nat × Pat × Sp) := []
theorem hSl99r16 : SpecOK E (ofL Sl99r16) := specOK_nil
abbrev Ll99r16 : List (Nat × List Nat × Pat × LSp) := []
def lsl99r16 : LSp := fun vs σ K => asCons vs fun a1 r1 => asD (.int .i64) a1 fun s1 => asCons r1 fun a2 r2 => asD (.sl (.int .i64)) a2 fun s2 => asCons r2 fun a3 r3 => asD (.int .i64) a3 fun s3 => asCons r3 fun a4 r4 => asD (.int .i64) a4 fun s4 => asNil r4 <| asNil σ <| l99r16 (fun z1 => K .ret [(6, I z1)] []) (K (.exit 2) [(6, .undef)] []) s1 s2 s3 s4
theorem l99r16v : LoopV E (inlF (PA (ACall E)) E 8) (E.info 99).keep 0 Try.f99.ntmps 100000016 (body Try.f99 16) ([2, 112, 113, 114], lsl99r16) := by
  intro vs σ K (h0 : lsl99r16 vs σ K)
  unfold lsl99r16 at h0
  obtain ⟨a1, r1, rfl, h1⟩ := asCons_inv h0; clear h0
  obtain ⟨s1, rfl, h2⟩ := asD_inv h1; clear h1
  obtain ⟨a2, r2, rfl, h3⟩ := asCons_inv h2; clear h2
  obtain ⟨s2, rfl, h4⟩ := asD_inv h3; clear h3
  obtain ⟨a3, r3, rfl, h5⟩ := asCons_inv h4; clear h4
  obtain ⟨s3, rfl, h6⟩ := asD_inv h5; clear h5
  obtain ⟨a4, r4, rfl, h7⟩ := asCons_inv h6; clear h6
  obtain ⟨s4, rfl, h8⟩ := asD_inv h7; clear h7
  obtain ⟨rfl, h9⟩ := asNil_inv h8; clear h8
  obtain ⟨rfl, h10⟩ := asNil_inv h9; clear h9
  intro J hJ
  have hp : ∀ c' ∈ subsOf (E.info 99).keep (body Try.f99 16), SubOK E (inlF (PA (ACall E)) E 8) (E.info 99).keep 0 Try.f99.ntmps (lofL Ll99r16) c' := all_eq (by kernel_rfl : subsOf (E.info 99).keep (body Try.f99 16) = []) (all_nil)
  exact h10.of (fun s1 s2 s3 s4 => J [(100000016, .undef), (2, I s1), (112, .d (.sl (.int .i64)) s2), (113, I s3), (114, I s4)] []) (fun s1 s2 s3 s4 hb => loop_round2 (S := ofL Sl99r16) (L := lofL Ll99r16) hSl99r16 (inlOK _) hp hJ (by kernel_rfl) hb)

abbrev Sj99r13 : List (Nat × Pat × Sp) := []
theorem hSj99r13 : SpecOK E (ofL Sj99r13) := specOK_nil
abbrev Lj99r13 : List (Nat × List Nat × Pat × LSp) := [(100000016, [2, 112, 113, 114], none, lsl99r16)]
def lsj99r13 : LSp := fun vs σ K => asCons vs fun a1 r1 => asD (.int .i64) a1 fun s1 => asCons r1 fun a2 r2 => asD (.int .i64) a2 fun s2 => asCons r2 fun a3 r3 => asP (.ptr 0 0 []) a3 <| asNil r3 <| asCons σ fun a4 r4 => asOne (.pair (.int .i64) (.pair (.int .i64) (.pair (.int .i64) (.pair (.int .i64) (.pair (.int .i64) (.pair (.sl (.int .i64)) .unit)))))) a4 fun a5 => asD (.pair (.int .i64) (.pair (.int .i64) (.pair (.int .i64) (.pair (.int .i64) (.pair (.int .i64) (.pair (.sl (.int .i64)) .unit)))))) a5 fun s3 => asNil r4 <| j99r13 (fun z1 => K .ret [(6, I z1)] []) s1 s2 s3
theorem j99r13v : JoinV E (inlF (PA (ACall E)) E 8) (E.info 99).keep 0 Try.f99.ntmps 100400013 4000013 (jbody Try.f99 4000013) ([1, 2, 3], lsj99r13) := by
  intro vs σ K (h0 : lsj99r13 vs σ K)
  unfold lsj99r13 at h0
  obtain ⟨a1, r1, rfl, h1⟩ := asCons_inv h0; clear h0
  obtain ⟨s1, rfl, h2⟩ := asD_inv h1; clear h1
  obtain ⟨a2, r2, rfl, h3⟩ := asCons_inv h2; clear h2
  obtain ⟨s2, rfl, h4⟩ := asD_inv h3; clear h3
  obtain ⟨a3, r3, rfl, h5⟩ := asCons_inv h4; clear h4
  obtain ⟨rfl, h6⟩ := asP_inv h5; clear h5
  obtain ⟨rfl, h7⟩ := asNil_inv h6; clear h6
  obtain ⟨a4, r4, rfl, h8⟩ := asCons_inv h7; clear h7
  obtain ⟨a5, rfl, h9⟩ := asOne_inv h8; clear h8
  obtain ⟨s3, rfl, h10⟩ := asD_inv h9; clear h9
  obtain ⟨rfl, h11⟩ := asNil_inv h10; clear h10
  exact join_round2 (S := ofL Sj99r13) (L := lofL Lj99r13) hSj99r13 (inlOK _) (all_eq (by kernel_rfl : subsOf (E.info 99).keep (jbody Try.f99 4000013) = [.loop (body Try.f99 16)]) (all_cons (loopOK_of (mk := 100000016) (sl := [2, 112, 113, 114]) (ss := [([2, 112, 113, 114], lsl99r16)]) (by kernel_rfl) (by kernel_rfl) (all_cons l99r16v (all_nil))) (all_nil))) (by kernel_rfl) h11.of

abbrev S99 : List (Nat × Pat × Sp) := []
theorem hS99 : SpecOK E (ofL S99) := specOK_nil
abbrev L99 : List (Nat × List Nat × Pat × LSp) := [(100000006, [1, 2, 3, 7, 8, 39, 40, 41], none, lsl99r6), (100500011, [1, 2, 3, 90], none, lsj99s11), (100400013, [1, 2, 3], none, lsj99r13)]
def sp99 : Sp := fun args τ K => asCons args fun a1 r1 => asD (.pair (.int .i64) (.pair (.int .i64) (.pair (.int .i64) (.pair (.int .i64) (.pair (.int .i64) (.pair (.sl (.int .i64)) .unit)))))) a1 fun x1 => asCons r1 fun a2 r2 => asD (.int .i64) a2 fun x2 => asCons r2 fun a3 r3 => asD (.int .i64) a3 fun x3 => asNil r3 <| asNil τ <| c99 x1 x2 x3 (fun z1 => K (I z1) [])
theorem h99 : ∀ args τ K, sp99 args τ K → ACall E 99 args τ K := by
  intro args τ K h0
  unfold sp99 at h0
  obtain ⟨a1, r1, rfl, h1⟩ := asCons_inv h0; clear h0
  obtain ⟨x1, rfl, h2⟩ := asD_inv h1; clear h1
  obtain ⟨a2, r2, rfl, h3⟩ := asCons_inv h2; clear h2
  obtain ⟨x2, rfl, h4⟩ := asD_inv h3; clear h3
  obtain ⟨a3, r3, rfl, h5⟩ := asCons_inv h4; clear h4
  obtain ⟨x3, rfl, h6⟩ := asD_inv h5; clear h5
  obtain ⟨rfl, h7⟩ := asNil_inv h6; clear h6
  obtain ⟨rfl, h8⟩ := asNil_inv h7; clear h7
  exact ACall.spec2 (fn := Try.f99) (c := codeOf Try.f99) (S := ofL S99) (L := lofL L99) hS99 (by kernel_rfl) (by kernel_rfl) (inlOK _) (all_eq (by kernel_rfl : subsOf (E.info 99).keep (codeOf Try.f99) = [.loop (body Try.f99 6), .join 4000013 (jbody Try.f99 4000013), .join 5000011 (jbody Try.f99 5000011)]) (all_cons (loopOK_of (mk := 100000006) (sl := [1, 2, 3, 7, 8, 39, 40, 41]) (ss := [([1, 2, 3, 7, 8, 39, 40, 41], lsl99r6)]) (by kernel_rfl) (by kernel_rfl) (all_cons l99r6v (all_nil))) (all_cons (joinOK_of (mk := 100400013) (sl := [1, 2, 3]) (ss := [([1, 2, 3], lsj99r13)]) (by kernel_rfl) (by kernel_rfl) (all_cons j99r13v (all_nil))) (all_cons (joinOK_of (mk := 100500011) (sl := [1, 2, 3, 90]) (ss := [([1, 2, 3, 90], lsj99s11)]) (by kernel_rfl) (by kernel_rfl) (all_cons j99s11v (all_nil))) (all_nil))))) (by kernel_rfl) h8.of

abbrev Sl31r19 : List (Nat × Pat × Sp) := [(99, none, sp99)]
theorem hSl31r19 : SpecOK E (ofL Sl31r19) := specOK_cons h99 (specOK_nil)
abbrev Ll31r19 : List (Nat × List Nat × Pat × LSp) := [(32000025, [1, 7, 9, 70, 71, 72, 84, 85, 86], none, lsl31r25)]
def lsl31r19 : LSp := fun vs σ K => asCons vs fun a1 r1 => asP (.ptr 0 0 []) a1 <| asCons r1 fun a2 r2 => asD (.int .i64) a2 fun s1 => asCons r2 fun a3 r3 => asD (.sl (.pair (.sl (.pair (.int .i64) (.pair (.int .i64) (.pair (.int .i64) (.pair (.int .i64) (.pair (.int .i64) (.pair (.sl (.int .i64)) .unit))))))) (.pair (.pair (.int .i64) (.pair (.int .i64) (.pair (.int .i64) (.pair (.int .i64) (.pair (.int .i64) (.pair (.sl (.int .i64)) .unit)))))) .unit))) a3 fun s2 => asCons r3 fun a4 r4 => asD (.int .i64) a4 fun s3 => asCons r4 fun a5 r5 => asD (.int .i64) a5 fun s4 => asNil r5 <| asCons σ fun a6 r6 => asOne (.pair (.int .i64) (.pair (.sl (.int .i64)) (.pair (.int .i64) (.pair (.sl (.pair (.sl (.pair (.int .i64) (.pair (.int .i64) (.pair (.int .i64) (.pair (.int .i64) (.pair (.int .i64) (.pair (.sl (.int .i64)) .unit))))))) (.pair (.pair (.int .i64) (.pair (.int .i64) (.pair (.int .i64) (.pair (.int .i64) (.pair (.int .i64) (.pair (.sl (.int .i64)) .unit)))))) .unit))) .unit)))) a6 fun a7 => asD (.pair (.int .i64) (.pair (.sl (.int .i64)) (.pair (.int .i64) (.pair (.sl (.pair (.sl (.pair (.int .i64) (.pair (.int .i64) (.pair (.int .i64) (.pair (.int .i64) (.pair (.int .i64) (.pair (.sl (.int .i64)) .unit))))))) (.pair (.pair (.int .i64) (.pair (.int .i64) (.pair (.int .i64) (.pair (.int .i64) (.pair (.int .i64) (.pair (.sl (.int .i64)) .unit)))))) .unit))) .unit)))) a7 fun s5 => asNil r6 <| l31r19 (fun z1 => K .ret [(1, .undef), (2, I z1)] []) (fun z1 => K (.exit 4) [(1, .ptr 0 0 []), (2, .undef)] [.one (.pair (.int .i64) (.pair (.sl (.int .i64)) (.pair (.int .i64) (.pair (.sl (.pair (.sl (.pair (.int .i64) (.pair (.int .i64) (.pair (.int .i64) (.pair (.int .i64) (.pair (.int .i64) (.pair (.sl (.int .i64)) .unit))))))) (.pair (.pair (.int .i64) (.pair (.int .i64) (.pair (.int .i64) (.pair (.int .i64) (.pair (.int .i64) (.pair (.sl (.int .i64)) .unit)))))) .unit))) .unit)))) (.d (.pair (.int .i64) (.pair (.sl (.int .i64)) (.pair (.int .i64) (.pair (.sl (.pair (.sl (.pair (.int .i64) (.pair (.int .i64) (.pair (.int .i64) (.pair (.int .i64) (.pair (.int .i64) (.pair (.sl (.int .i64)) .unit))))))) (.pair (.pair (.int .i64) (.pair (.int .i64) (.pair (.int .i64) (.pair (.int .i64) (.pair (.int .i64) (.pair (.sl (.int .i64)) .unit)))))) .unit))) .unit)))) z1)]) s1 s2 s3 s4 s5
theorem l31r19v : LoopV E (inlF (PA (ACall E)) E 8) (E.info 31).keep 0 Try.f31.ntmps 32000019 (body Try.f31 19) ([1, 7, 70, 71, 72], lsl31r19) := by
  intro vs σ K (h0 : lsl31r19 vs σ K)
  unfold lsl31r19 at h0
  obtain ⟨a1, r1, rfl, h1⟩ := asCons_inv h0; clear h0
  obtain ⟨rfl, h2⟩ := asP_inv h1; clear h1
  obtain ⟨a2, r2, rfl, h3⟩ := asCons_inv h2; clear h2
  obtain ⟨s1, rfl, h4⟩ := asD_inv h3; clear h3
  obtain ⟨a3, r3, rfl, h5⟩ := asCons_inv h4; clear h4
  obtain ⟨s2, rfl, h6⟩ := asD_inv h5; clear h5
  obtain ⟨a4, r4, rfl, h7⟩ := asCons_inv h6; clear h6
  obtain ⟨s3, rfl, h8⟩ := asD_inv h7; clear h7
  obtain ⟨a5, r5, rfl, h9⟩ := asCons_inv h8; clear h8
  obtain ⟨s4, rfl, h10⟩ := asD_inv h9; clear h9
  obtain ⟨rfl, h11⟩ := asNil_inv h10; clear h10
  obtain ⟨a6, r6, rfl, h12⟩ := asCons_inv h11; clear h11
  obtain ⟨a7, rfl, h13⟩ := asOne_inv h12; clear h12
  obtain ⟨s5, rfl, h14⟩ := asD_inv h13; clear h13
  obtain ⟨rfl, h15⟩ := asNil_inv h14; clear h14
  intro J hJ
  have hp : ∀ c' ∈ subsOf (E.info 31).keep (body Try.f31 19), SubOK E (inlF (PA (ACall E)) E 8) (E.info 31).keep 0 Try.f31.ntmps (lofL Ll31r19) c' := all_eq (by kernel_rfl : subsOf (E.info 31).keep (body Try.f31 19) = [.loop (body Try.f31 25)]) (all_cons (loopOK_of (mk := 32000025) (sl := [1, 7, 9, 70, 71, 72, 84, 85, 86]) (ss := [([1, 7, 9, 70, 71, 72, 84, 85, 86], lsl31r25)]) (by kernel_rfl) (by kernel_rfl) (all_cons l31r25v (all_nil))) (all_nil))
  exact h15.of (fun s1 s2 s3 s4 s5 => J [(32000019, .undef), (1, .ptr 0 0 []), (7, I s1), (70, .d (.sl (.pair (.sl (.pair (.int .i64) (.pair (.int .i64) (.pair (.int .i64) (.pair (.int .i64) (.pair (.int .i64) (.pair (.sl (.int .i64)) .unit))))))) (.pair (.pair (.int .i64) (.pair (.int .i64) (.pair (.int .i64) (.pair (.int .i64) (.pair (.int .i64) (.pair (.sl (.int .i64)) .unit)))))) .unit))) s2), (71, I s3), (72, I s4)] [.one (.pair (.int .i64) (.pair (.sl (.int .i64)) (.pair (.int .i64) (.pair (.sl (.pair (.sl (.pair (.int .i64) (.pair (.int .i64) (.pair (.int .i64) (.pair (.int .i64) (.pair (.int .i64) (.pair (.sl (.int .i64)) .unit))))))) (.pair (.pair (.int .i64) (.pair (.int .i64) (.pair (.int .i64) (.pair (.int .i64) (.pair (.int .i64) (.pair (.sl (.int .i64)) .unit)))))) .unit))) .unit)))) (.d (.pair (.int .i64) (.pair (.sl (.int .i64)) (.pair (.int .i64) (.pair (.sl (.pair (.sl (.pair (.int .i64) (.pair (.int .i64) (.pair (.int .i64) (.pair (.int .i64) (.pair (.int .i64) (.pair (.sl (.int .i64)) .unit))))))) (.pair (.pair (.int .i64) (.pair (.int .i64) (.pair (.int .i64) (.pair (.int .i64) (.pair (.int .i64) (.pair (.sl (.int .i64)) .unit)))))) .unit))) .unit)))) s5)]) (fun s1 s2 s3 s4 s5 hb => loop_round2 (S := ofL Sl31r19) (L := lofL Ll31r19) hSl31r19 (inlOK _) hp hJ (by kernel_rfl) hb)

abbrev Sl100r2 : List (Nat × Pat × Sp) := []
theorem hSl100r2 : SpecOK E (ofL Sl100r2) := specOK_nil
abbrev Ll100r2 : List (Nat × List Nat × Pat × LSp) := []
def lsl100r2 : LSp := fun vs σ K => asCons vs fun a1 r1 => asD (.int .i64) a1 fun s1 => asCons r1 fun a2 r2 => asD (.sl (.int .i64)) a2 fun s2 => asCons r2 fun a3 r3 => asD (.int .i64) a3 fun s3 => asCons r3 fun a4 r4 => asD (.int .i64) a4 fun s4 => asNil r4 <| asNil σ <| l100r2 (fun z1 => K .ret [(4, B z1)] []) (K (.exit 0) [(4, .undef)] []) s1 s2 s3 s4
theorem l100r2v : LoopV E (inlF (PA (ACall E)) E 8) (E.info 100).keep 0 Try.f100.ntmps 101000002 (body Try.f100 2) ([1, 7, 8, 9], lsl100r2) := by
  intro vs σ K (h0 : lsl100r2 vs σ K)
  unfold lsl100r2 at h0
  obtain ⟨a1, r1, rfl, h1⟩ := asCons_inv h0; clear h0
  obtain ⟨s1, rfl, h2⟩ := asD_inv h1; clear h1
  obtain ⟨a2, r2, rfl, h3⟩ := asCons_inv h2; clear h2
  obtain ⟨s2, rfl, h4⟩ := asD_inv h3; clear h3
  obtain ⟨a3, r3, rfl, h5⟩ := asCons_inv h4; clear h4
  obtain ⟨s3, rfl, h6⟩ := asD_inv h5; clear h5
  obtain ⟨a4, r4, rfl, h7⟩ := asCons_inv h6; clear h6
  obtain ⟨s4, rfl, h8⟩ := asD_inv h7; clear h7
  obtain ⟨rfl, h9⟩ := asNil_inv h8; clear h8
  obtain ⟨rfl, h10⟩ := asNil_inv h9; clear h9
  intro J hJ
  have hp : ∀ c' ∈ subsOf (E.info 100).keep (body Try.f100 2), SubOK E (inlF (PA (ACall E)) E 8) (E.info 100).keep 0 Try.f100.ntmps (lofL Ll100r2) c' := all_eq (by kernel_rfl : subsOf (E.info 100).keep (body Try.f100 2) = []) (all_nil)
  exact h10.of (fun s1 s2 s3 s4 => J [(101000002, .undef), (1, I s1), (7, .d (.sl (.int .i64)) s2), (8, I s3), (9, I s4)] []) (fun s1 s2 s3 s4 hb => loop_round2 (S := ofL Sl100r2) (L := lofL Ll100r2) hSl100r2 (inlOK _) hp hJ (by kernel_rfl) hb)

abbrev S100 : List (Nat × Pat × Sp) := []
theorem hS100 : SpecOK E (ofL S100) := specOK_nil
abbrev L100 : List (Nat × List Nat × Pat × LSp) := [(101000002, [1, 7, 8, 9], none, lsl100r2)]
def sp100 : Sp := fun args τ K => asCons args fun a1 r1 => asD (.sl (.int .i64)) a1 fun x1 => asCons r1 fun a2 r2 => asD (.int .i64) a2 fun x2 => asNil r2 <| asNil τ <| c100 x1 x2 (fun z1 => K (B z1) [])
theorem h100 : ∀ args τ K, sp100 args τ K → ACall E 100 args τ K := by
  intro args τ K h0
  unfold sp100 at h0
  obtain ⟨a1, r1, rfl, h1⟩ := asCons_inv h0; clear h0
  obtain ⟨x1, rfl, h2⟩ := asD_inv h1; clear h1
  obtain ⟨a2, r2, rfl, h3⟩ := asCons_inv h2; clear h2
  obtain ⟨x2, rfl, h4⟩ := asD_inv h3; clear h3
  obtain ⟨rfl, h5⟩ := asNil_inv h4; clear h4
  obtain ⟨rfl, h6⟩ := asNil_inv h5; clear h5
  exact ACall.spec2 (fn := Try.f100) (c := codeOf Try.f100) (S := ofL S100) (L := lofL L100) hS100 (by kernel_rfl) (by kernel_rfl) (inlOK _) (all_eq (by kernel_rfl : subsOf (E.info 100).keep (codeOf Try.f100) = [.loop (body Try.f100 2)]) (all_cons (loopOK_of (mk := 101000002) (sl := [1, 7, 8, 9]) (ss := [([1, 7, 8, 9], lsl100r2)]) (by kernel_rfl) (by kernel_rfl) (all_cons l100r2v (all_nil))) (all_nil))) (by kernel_rfl) h6.of

abbrev Sl33r9 : List (Nat × Pat × Sp) := [(28, none, sp28), (100, none, sp100), (25, none, sp25)]
theorem hSl33r9 : SpecOK E (ofL Sl33r9) := specOK_cons h28 (specOK_cons h100 (specOK_cons h25 (specOK_nil)))
abbrev Ll33r9 : List (Nat × List Nat × Pat × LSp) := []
def lsl33r9 : LSp := fun vs σ K => asCons vs fun a1 r1 => asD (.int .i64) a1 fun s1 => asCons r1 fun a2 r2 => asP (.ptr 0 0 []) a2 <| asCons r2 fun a3 r3 => asP (.vec 1) a3 <| asCons r3 fun a4 r4 => asSl 2 false a4 fun s2 s3 s4 => asCons r4 fun a5 r5 => asP (.ptr 3 0 []) a5 <| asCons r5 fun a6 r6 => asD .bool a6 fun s5 => asCons r6 fun a7 r7 => asD (.int .i64) a7 fun s6 => asNil r7 <| asCons σ fun a8 r8 => asOne (.pair (.int .i64) (.pair (.sl (.int .i64)) (.pair (.int .i64) (.pair (.sl (.pair (.sl (.pair (.int .i64) (.pair (.int .i64) (.pair (.int .i64) (.pair (.int .i64) (.pair (.int .i64) (.pair (.sl (.int .i64)) .unit))))))) (.pair (.pair (.int .i64) (.pair (.int .i64) (.pair (.int .i64) (.pair (.int .i64) (.pair (.int .i64) (.pair (.sl (.int .i64)) .unit)))))) .unit))) .unit)))) a8 fun a9 => asD (.pair (.int .i64) (.pair (.sl (.int .i64)) (.pair (.int .i64) (.pair (.sl (.pair (.sl (.pair (.int .i64) (.pair (.int .i64) (.pair (.int .i64) (.pair (.int .i64) (.pair (.int .i64) (.pair (.sl (.int .i64)) .unit))))))) (.pair (.pair (.int .i64) (.pair (.int .i64) (.pair (.int .i64) (.pair (.int .i64) (.pair (.int .i64) (.pair (.sl (.int .i64)) .unit)))))) .unit))) .unit)))) a9 fun s7 => asCons r8 fun a10 r10 => asRw .bool false a10 fun s8 => asCons r10 fun a11 r11 => asRw (.arr 2 (.int .i64)) false a11 fun s9 => asCons r11 fun a12 r12 => asOne (.pair (.sl (.pair (.int .i64) (.pair (.int .i64) (.pair (.int .i64) (.pair (.int .i64) (.pair (.int .i64) (.pair (.sl (.int .i64)) .unit))))))) (.pair (.pair (.int .i64) (.pair (.int .i64) (.pair (.int .i64) (.pair (.int .i64) (.pair (.int .i64) (.pair (.sl (.int .i64)) .unit)))))) .unit)) a12 fun a13 => asD (.pair (.sl (.pair (.int .i64) (.pair (.int .i64) (.pair (.int .i64) (.pair (.int .i64) (.pair (.int .i64) (.pair (.sl (.int .i64)) .unit))))))) (.pair (.pair (.int .i64) (.pair (.int .i64) (.pair (.int .i64) (.pair (.int .i64) (.pair (.int .i64) (.pair (.sl (.int .i64)) .unit)))))) .unit)) a13 fun s10 => asNil r12 <| l33r9 (fun z1 => K .ret [(3, .undef), (4, .undef), (8, B z1), (9, .undef), (10, .undef), (12, .undef), (13, .undef)] []) (fun z1 z2 z3 z4 z5 z6 z7 z8 z9 => K (.exit 2) [(3, I z1), (4, .ptr 0 0 []), (8, .undef), (9, .vec 1), (10, .sl 2 z2 z3 z4 false), (12, .ptr 3 0 []), (13, B z5)] [.one (.pair (.int .i64) (.pair (.sl (.int .i64)) (.pair (.int .i64) (.pair (.sl (.pair (.sl (.pair (.int .i64) (.pair (.int .i64) (.pair (.int .i64) (.pair (.int .i64) (.pair (.int .i64) (.pair (.sl (.int .i64)) .unit))))))) (.pair (.pair (.int .i64) (.pair (.int .i64) (.pair (.int .i64) (.pair (.int .i64) (.pair (.int .i64) (.pair (.sl (.int .i64)) .unit)))))) .unit))) .unit)))) (.d (.pair (.int .i64) (.pair (.sl (.int .i64)) (.pair (.int .i64) (.pair (.sl (.pair (.sl (.pair (.int .i64) (.pair (.int .i64) (.pair (.int .i64) (.pair (.int .i64) (.pair (.int .i64) (.pair (.sl (.int .i64)) .unit))))))) (.pair (.pair (.int .i64) (.pair (.int .i64) (.pair (.int .i64) (.pair (.int .i64) (.pair (.int .i64) (.pair (.sl (.int .i64)) .unit)))))) .unit))) .unit)))) z6), .row .bool z7 false, .row (.arr 2 (.int .i64)) z8 false, .one (.pair (.sl (.pair (.int .i64) (.pair (.int .i64) (.pair (.int .i64) (.pair (.int .i64) (.pair (.int .i64) (.pair (.sl (.int .i64)) .unit))))))) (.pair (.pair (.int .i64) (.pair (.int .i64) (.pair (.int .i64) (.pair (.int .i64) (.pair (.int .i64) (.pair (.sl (.int .i64)) .unit)))))) .unit)) (.d (.pair (.sl (.pair (.int .i64) (.pair (.int .i64) (.pair (.int .i64) (.pair (.int .i64) (.pair (.int .i64) (.pair (.sl (.int .i64)) .unit))))))) (.pair (.pair (.int .i64) (.pair (.int .i64) (.pair (.int .i64) (.pair (.int .i64) (.pair (.int .i64) (.pair (.sl (.int .i64)) .unit)))))) .unit)) z9)]) s1 s2 s3 s4 s5 s6 s7 s8 s9 s10
theorem l33r9v : LoopV E (inlF (PA (ACall E)) E 8) (E.info 33).keep 0 Try.f33.ntmps 34000009 (body Try.f33 9) ([3, 4, 9, 10, 12, 13, 14], lsl33r9) := by
  intro vs σ K (h0 : lsl33r9 vs σ K)
  unfold lsl33r9 at h0
  obtain ⟨a1, r1, rfl, h1⟩ := asCons_inv h0; clear h0
  obtain ⟨s1, rfl, h2⟩ := asD_inv h1; clear h1
  obtain ⟨a2, r2, rfl, h3⟩ := asCons_inv h2; clear h2
  obtain ⟨rfl, h4⟩ := asP_inv h3; clear h3
  obtain ⟨a3, r3, rfl, h5⟩ := asCons_inv h4; clear h4
  obtain ⟨rfl, h6⟩ := asP_inv h5; clear h5
  obtain ⟨a4, r4, rfl, h7⟩ := asCons_inv h6; clear h6
  obtain ⟨s2, s3, s4, rfl, h8⟩ := asSl_inv h7; clear h7
  obtain ⟨a5, r5, rfl, h9⟩ := asCons_inv h8; clear h8
  obtain ⟨rfl, h10⟩ := asP_inv h9; clear h9
  obtain ⟨a6, r6, rfl, h11⟩ := asCons_inv h10; clear h10
  obtain ⟨s5, rfl, h12⟩ := asD_inv h11; clear h11
  obtain ⟨a7, r7, rfl, h13⟩ := asCons_inv h12; clear h12
  obtain ⟨s6, rfl, h14⟩ := asD_inv h13; clear h13
  obtain ⟨rfl, h15⟩ := asNil_inv h14; clear h14
  obtain ⟨a8, r8, rfl, h16⟩ := asCons_inv h15; clear h15
  obtain ⟨a9, rfl, h17⟩ := asOne_inv h16; clear h16
  obtain ⟨s7, rfl, h18⟩ := asD_inv h17; clear h17
  obtain ⟨a10, r10, rfl, h19⟩ := asCons_inv h18; clear h18
  obtain ⟨s8, rfl, h20⟩ := asRw_inv h19; clear h19
  obtain ⟨a11, r11, rfl, h21⟩ := asCons_inv h20; clear h20
  obtain ⟨s9, rfl, h22⟩ := asRw_inv h21; clear h21
  obtain ⟨a12, r12, rfl, h23⟩ := asCons_inv h22; clear h22
  obtain ⟨a13, rfl, h24⟩ := asOne_inv h23; clear h23
  obtain ⟨s10, rfl, h25⟩ := asD_inv h24; clear h24
  obtain ⟨rfl, h26⟩ := asNil_inv h25; clear h25
  intro J hJ
  have hp : ∀ c' ∈ subsOf (E.info 33).keep (body Try.f33 9), SubOK E (inlF (PA (ACall E)) E 8) (E.info 33).keep 0 Try.f33.ntmps (lofL Ll33r9) c' := all_eq (by kernel_rfl : subsOf (E.info 33).keep (body Try.f33 9) = []) (all_nil)
  exact h26.of (fun s1 s2 s3 s4 s5 s6 s7 s8 s9 s10 => J [(34000009, .undef), (3, I s1), (4, .ptr 0 0 []), (9, .vec 1), (10, .sl 2 s2 s3 s4 false), (12, .ptr 3 0 []), (13, B s5), (14, I s6)] [.one (.pair (.int .i64) (.pair (.sl (.int .i64)) (.pair (.int .i64) (.pair (.sl (.pair (.sl (.pair (.int .i64) (.pair (.int .i64) (.pair (.int .i64) (.pair (.int .i64) (.pair (.int .i64) (.pair (.sl (.int .i64)) .unit))))))) (.pair (.pair (.int .i64) (.pair (.int .i64) (.pair (.int .i64) (.pair (.int .i64) (.pair (.int .i64) (.pair (.sl (.int .i64)) .unit)))))) .unit))) .unit)))) (.d (.pair (.int .i64) (.pair (.sl (.int .i64)) (.pair (.int .i64) (.pair (.sl (.pair (.sl (.pair (.int .i64) (.pair (.int .i64) (.pair (.int .i64) (.pair (.int .i64) (.pair (.int .i64) (.pair (.sl (.int .i64)) .unit))))))) (.pair (.pair (.int .i64) (.pair (.int .i64) (.pair (.int .i64) (.pair (.int .i64) (.pair (.int .i64) (.pair (.sl (.int .i64)) .unit)))))) .unit))) .unit)))) s7), .row .bool s8 false, .row (.arr 2 (.int .i64)) s9 false, .one (.pair (.sl (.pair (.int .i64) (.pair (.int .i64) (.pair (.int .i64) (.pair (.int .i64) (.pair (.int .i64) (.pair (.sl (.int .i64)) .unit))))))) (.pair (.pair (.int .i64) (.pair (.int .i64) (.pair (.int .i64) (.pair (.int .i64) (.pair (.int .i64) (.pair (.sl (.int .i64)) .unit)))))) .unit)) (.d (.pair (.sl (.pair (.int .i64) (.pair (.int .i64) (.pair (.int .i64) (.pair (.int .i64) (.pair (.int .i64) (.pair (.sl (.int .i64)) .unit))))))) (.pair (.pair (.int .i64) (.pair (.int .i64) (.pair (.int .i64) (.pair (.int .i64) (.pair (.int .i64) (.pair (.sl (.int .i64)) .unit)))))) .unit)) s10)]) (fun s1 s2 s3 s4 s5 s6 s7 s8 s9 s10 hb => loop_round2 (S := ofL Sl33r9) (L := lofL Ll33r9) hSl33r9 (inlOK _) hp hJ (by kernel_rfl) hb)

abbrev Sl33r18 : List (Nat × Pat × Sp) := []
theorem hSl33r18 : SpecOK E (ofL Sl33r18) := specOK_nil
abbrev Ll33r18 : List (Nat × List Nat × Pat × LSp) := []
def lsl33r18 : LSp := fun vs σ K => asCons vs fun a1 r1 => asD (.int .i64) a1 fun s1 => asCons r1 fun a2 r2 => asP (.ptr 0 0 []) a2 <| asCons r2 fun a3 r3 => asP (.vec 1) a3 <| asCons r3 fun a4 r4 => asSl 2 false a4 fun s2 s3 s4 => asCons r4 fun a5 r5 => asD (.sl (.int .i64)) a5 fun s5 => asCons r5 fun a6 r6 => asD (.int .i64) a6 fun s6 => asCons r6 fun a7 r7 => asD (.int .i64) a7 fun s7 => asNil r7 <| asCons σ fun a8 r8 => asOne (.pair (.int .i64) (.pair (.sl (.int .i64)) (.pair (.int .i64) (.pair (.sl (.pair (.sl (.pair (.int .i64) (.pair (.int .i64) (.pair (.int .i64) (.pair (.int .i64) (.pair (.int .i64) (.pair (.sl (.int .i64)) .unit))))))) (.pair (.pair (.int .i64) (.pair (.int .i64) (.pair (.int .i64) (.pair (.int .i64) (.pair (.int .i64) (.pair (.sl (.int .i64)) .unit)))))) .unit))) .unit)))) a8 fun a9 => asD (.pair (.int .i64) (.pair (.sl (.int .i64)) (.pair (.int .i64) (.pair (.sl (.pair (.sl (.pair (.int .i64) (.pair (.int .i64) (.pair (.int .i64) (.pair (.int .i64) (.pair (.int .i64) (.pair (.sl (.int .i64)) .unit))))))) (.pair (.pair (.int .i64) (.pair (.int .i64) (.pair (.int .i64) (.pair (.int .i64) (.pair (.int .i64) (.pair (.sl (.int .i64)) .unit)))))) .unit))) .unit)))) a9 fun s8 => asCons r8 fun a10 r10 => asRw .bool false a10 fun s9 => asCons r10 fun a11 r11 => asRw (.arr 2 (.int .i64)) false a11 fun s10 => asNil r11 <| l33r18 (fun z1 z2 z3 z4 z5 z6 z7 => K (.exit 4) [(3, I z1), (4, .ptr 0 0 []), (9, .vec 1), (10, .sl 2 z2 z3 z4 false)] [.one (.pair (.int .i64) (.pair (.sl (.int .i64)) (.pair (.int .i64) (.pair (.sl (.pair (.sl (.pair (.int .i64) (.pair (.int .i64) (.pair (.int .i64) (.pair (.int .i64) (.pair (.int .i64) (.pair (.sl (.int .i64)) .unit))))))) (.pair (.pair (.int .i64) (.pair (.int .i64) (.pair (.int .i64) (.pair (.int .i64) (.pair (.int .i64) (.pair (.sl (.int .i64)) .unit)))))) .unit))) .unit)))) (.d (.pair (.int .i64) (.pair (.sl (.int .i64)) (.pair (.int .i64) (.pair (.sl (.pair (.sl (.pair (.int .i64) (.pair (.int .i64) (.pair (.int .i64) (.pair (.int .i64) (.pair (.int .i64) (.pair (.sl (.int .i64)) .unit))))))) (.pair (.pair (.int .i64) (.pair (.int .i64) (.pair (.int .i64) (.pair (.int .i64) (.pair (.int .i64) (.pair (.sl (.int .i64)) .unit)))))) .unit))) .unit)))) z5), .row .bool z6 false, .row (.arr 2 (.int .i64)) z7 false]) (fun z1 z2 z3 z4 => K (.exit 4) [(3, I z1), (4, .ptr 0 0 []), (9, .vec 1), (10, .vec 2)] [.one (.pair (.int .i64) (.pair (.sl (.int .i64)) (.pair (.int .i64) (.pair (.sl (.pair (.sl (.pair (.int .i64) (.pair (.int .i64) (.pair (.int .i64) (.pair (.int .i64) (.pair (.int .i64) (.pair (.sl (.int .i64)) .unit))))))) (.pair (.pair (.int .i64) (.pair (.int .i64) (.pair (.int .i64) (.pair (.int .i64) (.pair (.int .i64) (.pair (.sl (.int .i64)) .unit)))))) .unit))) .unit)))) (.d (.pair (.int .i64) (.pair (.sl (.int .i64)) (.pair (.int .i64) (.pair (.sl (.pair (.sl (.pair (.int .i64) (.pair (.int .i64) (.pair (.int .i64) (.pair (.int .i64) (.pair (.int .i64) (.pair (.sl (.int .i64)) .unit))))))) (.pair (.pair (.int .i64) (.pair (.int .i64) (.pair (.int .i64) (.pair (.int .i64) (.pair (.int .i64) (.pair (.sl (.int .i64)) .unit)))))) .unit))) .unit)))) z2), .row .bool z3 false, .row (.arr 2 (.int .i64)) z4 false]) s1 s2 s3 s4 s5 s6 s7 s8 s9 s10
theorem l33r18v : LoopV E (inlF (PA (ACall E)) E 8) (E.info 33).keep 0 Try.f33.ntmps 34000018 (body Try.f33 18) ([3, 4, 9, 10, 89, 90, 91], lsl33r18) := by
  intro vs σ K (h0 : lsl33r18 vs σ K)
  unfold lsl33r18 at h0
  obtain ⟨a1, r1, rfl, h1⟩ := asCons_inv h0; clear h0
  obtain ⟨s1, rfl, h2⟩ := asD_inv h1; clear h1
  obtain ⟨a2, r2, rfl, h3⟩ := asCons_inv h2; clear h2
  obtain ⟨rfl, h4⟩ := asP_inv h3; clear h3
  obtain ⟨a3, r3, rfl, h5⟩ := asCons_inv h4; clear h4
  obtain ⟨rfl, h6⟩ := asP_inv h5; clear h5
  obtain ⟨a4, r4, rfl, h7⟩ := asCons_inv h6; clear h6
  obtain ⟨s2, s3, s4, rfl, h8⟩ := asSl_inv h7; clear h7
  obtain ⟨a5, r5, rfl, h9⟩ := asCons_inv h8; clear h8
  obtain ⟨s5, rfl, h10⟩ := asD_inv h9; clear h9
  obtain ⟨a6, r6, rfl, h11⟩ := asCons_inv h10; clear h10
  obtain ⟨s6, rfl, h12⟩ := asD_inv h11; clear h11
  obtain ⟨a7, r7, rfl, h13⟩ := asCons_inv h12; clear h12
  obtain ⟨s7, rfl, h14⟩ := asD_inv h13; clear h13
  obtain ⟨rfl, h15⟩ := asNil_inv h14; clear h14
  obtain ⟨a8, r8, rfl, h16⟩ := asCons_inv h15; clear h15
  obtain ⟨a9, rfl, h17⟩ := asOne_inv h16; clear h16
  obtain ⟨s8, rfl, h18⟩ := asD_inv h17; clear h17
  obtain ⟨a10, r10, rfl, h19⟩ := asCons_inv h18; clear h18
  obtain ⟨s9, rfl, h20⟩ := asRw_inv h19; clear h19
  obtain ⟨a11, r11, rfl, h21⟩ := asCons_inv h20; clear h20
  obtain ⟨s10, rfl, h22⟩ := asRw_inv h21; clear h21
  obtain ⟨rfl, h23⟩ := asNil_inv h22; clear h22
  intro J hJ
  have hp : ∀ c' ∈ subsOf (E.info 33).keep (body Try.f33 18), SubOK E (inlF (PA (ACall E)) E 8) (E.info 33).keep 0 Try.f33.ntmps (lofL Ll33r18) c' := all_eq (by kernel_rfl : subsOf (E.info 33).keep (body Try.f33 18) = []) (all_nil)
  exact h23.of (fun s1 s2 s3 s4 s5 s6 s7 s8 s9 s10 => J [(34000018, .undef), (3, I s1), (4, .ptr 0 0 []), (9, .vec 1), (10, .sl 2 s2 s3 s4 false), (89, .d (.sl (.int .i64)) s5), (90, I s6), (91, I s7)] [.one (.pair (.int .i64) (.pair (.sl (.int .i64)) (.pair (.int .i64) (.pair (.sl (.pair (.sl (.pair (.int .i64) (.pair (.int .i64) (.pair (.int .i64) (.pair (.int .i64) (.pair (.int .i64) (.pair (.sl (.int .i64)) .unit))))))) (.pair (.pair (.int .i64) (.pair (.int .i64) (.pair (.int .i64) (.pair (.int .i64) (.pair (.int .i64) (.pair (.sl (.int .i64)) .unit)))))) .unit))) .unit)))) (.d (.pair (.int .i64) (.pair (.sl (.int .i64)) (.pair (.int .i64) (.pair (.sl (.pair (.sl (.pair (.int .i64) (.pair (.int .i64) (.pair (.int .i64) (.pair (.int .i64) (.pair (.int .i64) (.pair (.sl (.int .i64)) .unit))))))) (.pair (.pair (.int .i64) (.pair (.int .i64) (.pair (.int .i64) (.pair (.int .i64) (.pair (.int .i64) (.pair (.sl (.int .i64)) .unit)))))) .unit))) .unit)))) s8), .row .bool s9 false, .row (.arr 2 (.int .i64)) s10 false]) (fun s14 s15 s16 s17 s18 s19 s20 => J [(34000018, .undef), (3, I s14), (4, .ptr 0 0 []), (9, .vec 1), (10, .vec 2), (89, .d (.sl (.int .i64)) s15), (90, I s16), (91, I s17)] [.one (.pair (.int .i64) (.pair (.sl (.int .i64)) (.pair (.int .i64) (.pair (.sl (.pair (.sl (.pair (.int .i64) (.pair (.int .i64) (.pair (.int .i64) (.pair (.int .i64) (.pair (.int .i64) (.pair (.sl (.int .i64)) .unit))))))) (.pair (.pair (.int .i64) (.pair (.int .i64) (.pair (.int .i64) (.pair (.int .i64) (.pair (.int .i64) (.pair (.sl (.int .i64)) .unit)))))) .unit))) .unit)))) (.d (.pair (.int .i64) (.pair (.sl (.int .i64)) (.pair (.int .i64) (.pair (.sl (.pair (.sl (.pair (.int .i64) (.pair (.int .i64) (.pair (.int .i64) (.pair (.int .i64) (.pair (.int .i64) (.pair (.sl (.int .i64)) .unit))))))) (.pair (.pair (.int .i64) (.pair (.int .i64) (.pair (.int .i64) (.pair (.int .i64) (.pair (.int .i64) (.pair (.sl (.int .i64)) .unit)))))) .unit))) .unit)))) s18), .row .bool s19 false, .row (.arr 2 (.int .i64)) s20 false]) (fun s1 s2 s3 s4 s5 s6 s7 s8 s9 s10 hb => loop_round2 (S := ofL Sl33r18) (L := lofL Ll33r18) hSl33r18 (inlOK _) hp hJ (by kernel_rfl) hb) (fun s14 s15 s16 s17 s18 s19 s20 hb => loop_round2 (S := ofL Sl33r18) (L := lofL Ll33r18) hSl33r18 (inlOK _) hp hJ (by kernel_rfl) hb)

abbrev Sl33r3 : List (Nat × Pat × Sp) := []
theorem hSl33r3 : SpecOK E (ofL Sl33r3) := specOK_nil
abbrev Ll33r3 : List (Nat × List Nat × Pat × LSp) := [(34000009, [3, 4, 9, 10, 12, 13, 14], none, lsl33r9), (34000018, [3, 4, 9, 10, 89, 90, 91], none, lsl33r18)]
def lsl33r3 : LSp := fun vs σ K => asCons vs fun a1 r1 => asD (.int .i64) a1 fun s1 => asCons r1 fun a2 r2 => asP (.ptr 0 0 []) a2 <| asCons r2 fun a3 r3 => asP (.vec 1) a3 <| asCons r3 fun a4 r4 => asP (.vec 2) a4 <| asNil r4 <| asCons σ fun a5 r5 => asOne (.pair (.int .i64) (.pair (.sl (.int .i64)) (.pair (.int .i64) (.pair (.sl (.pair (.sl (.pair (.int .i64) (.pair (.int .i64) (.pair (.int .i64) (.pair (.int .i64) (.pair (.int .i64) (.pair (.sl (.int .i64)) .unit))))))) (.pair (.pair (.int .i64) (.pair (.int .i64) (.pair (.int .i64) (.pair (.int .i64) (.pair (.int .i64) (.pair (.sl (.int .i64)) .unit)))))) .unit))) .unit)))) a5 fun a6 => asD (.pair (.int .i64) (.pair (.sl (.int .i64)) (.pair (.int .i64) (.pair (.sl (.pair (.sl (.pair (.int .i64) (.pair (.int .i64) (.pair (.int .i64) (.pair (.int .i64) (.pair (.int .i64) (.pair (.sl (.int .i64)) .unit))))))) (.pair (.pair (.int .i64) (.pair (.int .i64) (.pair (.int .i64) (.pair (.int .i64) (.pair (.int .i64) (.pair (.sl (.int .i64)) .unit)))))) .unit))) .unit)))) a6 fun s2 => asCons r5 fun a7 r7 => asRw .bool false a7 fun s3 => asCons r7 fun a8 r8 => asRw (.arr 2 (.int .i64)) false a8 fun s4 => asNil r8 <| l33r3 (fun z1 => K .ret [(8, B z1)] []) (K (.exit 0) [(8, .undef)] []) s1 s2 s3 s4
theorem l33r3v : LoopV E (inlF (PA (ACall E)) E 8) (E.info 33).keep 0 Try.f33.ntmps 34000003 (body Try.f33 3) ([3, 4, 9, 10], lsl33r3) := by
  intro vs σ K (h0 : lsl33r3 vs σ K)
  unfold lsl33r3 at h0
  obtain ⟨a1, r1, rfl, h1⟩ := asCons_inv h0; clear h0
  obtain ⟨s1, rfl, h2⟩ := asD_inv h1; clear h1
  obtain ⟨a2, r2, rfl, h3⟩ := asCons_inv h2; clear h2
  obtain ⟨rfl, h4⟩ := asP_inv h3; clear h3
  obtain ⟨a3, r3, rfl, h5⟩ := asCons_inv h4; clear h4
  obtain ⟨rfl, h6⟩ := asP_inv h5; clear h5
  obtain ⟨a4, r4, rfl, h7⟩ := asCons_inv h6; clear h6
  obtain ⟨rfl, h8⟩ := asP_inv h7; clear h7
  obtain ⟨rfl, h9⟩ := asNil_inv h8; clear h8
  obtain ⟨a5, r5, rfl, h10⟩ := asCons_inv h9; clear h9
  obtain ⟨a6, rfl, h11⟩ := asOne_inv h10; clear h10
  obtain ⟨s2, rfl, h12⟩ := asD_inv h11; clear h11
  obtain ⟨a7, r7, rfl, h13⟩ := asCons_inv h12; clear h12
  obtain ⟨s3, rfl, h14⟩ := asRw_inv h13; clear h13
  obtain ⟨a8, r8, rfl, h15⟩ := asCons_inv h14; clear h14
  obtain ⟨s4, rfl, h16⟩ := asRw_inv h15; clear h15
  obtain ⟨rfl, h17⟩ := asNil_inv h16; clear h16
  intro J hJ
  have hp : ∀ c' ∈ subsOf (E.info 33).keep (body Try.f33 3), SubOK E (inlF (PA (ACall E)) E 8) (E.info 33).keep 0 Try.f33.ntmps (lofL Ll33r3) c' := all_eq (by kernel_rfl : subsOf (E.info 33).keep (body Try.f33 3) = [.loop (body Try.f33 9), .loop (body Try.f33 18)]) (all_cons (loopOK_of (mk := 34000009) (sl := [3, 4, 9, 10, 12, 13, 14]) (ss := [([3, 4, 9, 10, 12, 13, 14], lsl33r9)]) (by kernel_rfl) (by kernel_rfl) (all_cons l33r9v (all_nil))) (all_cons (loopOK_of (mk := 34000018) (sl := [3, 4, 9, 10, 89, 90, 91]) (ss := [([3, 4, 9, 10, 89, 90, 91], lsl33r18)]) (by kernel_rfl) (by kernel_rfl) (all_cons l33r18v (all_nil))) (all_nil)))
  exact h17.of (fun s1 s2 s3 s4 => J [(34000003, .undef), (3, I s1), (4, .ptr 0 0 []), (9, .vec 1), (10, .vec 2)] [.one (.pair (.int .i64) (.pair (.sl (.int .i64)) (.pair (.int .i64) (.pair (.sl (.pair (.sl (.pair (.int .i64) (.pair (.int .i64) (.pair (.int .i64) (.pair (.int .i64) (.pair (.int .i64) (.pair (.sl (.int .i64)) .unit))))))) (.pair (.pair (.int .i64) (.pair (.int .i64) (.pair (.int .i64) (.pair (.int .i64) (.pair (.int .i64) (.pair (.sl (.int .i64)) .unit)))))) .unit))) .unit)))) (.d (.pair (.int .i64) (.pair (.sl (.int .i64)) (.pair (.int .i64) (.pair (.sl (.pair (.sl (.pair (.int .i64) (.pair (.int .i64) (.pair (.int .i64) (.pair (.int .i64) (.pair (.int .i64) (.pair (.sl (.int .i64)) .unit))))))) (.pair (.pair (.int .i64) (.pair (.int .i64) (.pair (.int .i64) (.pair (.int .i64) (.pair (.int .i64) (.pair (.sl (.int .i64)) .unit)))))) .unit))) .unit)))) s2), .row .bool s3 false, .row (.arr 2 (.int .i64)) s4 false]) (fun s30 s31 s32 s33 s34 s35 s36 => J [(34000003, .undef), (3, I s30), (4, .ptr 0 0 []), (9, .vec 1), (10, .sl 2 s31 s32 s33 false)] [.one (.pair (.int .i64) (.pair (.sl (.int .i64)) (.pair (.int .i64) (.pair (.sl (.pair (.sl (.pair (.int .i64) (.pair (.int .i64) (.pair (.int .i64) (.pair (.int .i64) (.pair (.int .i64) (.pair (.sl (.int .i64)) .unit))))))) (.pair (.pair (.int .i64) (.pair (.int .i64) (.pair (.int .i64) (.pair (.int .i64) (.pair (.int .i64) (.pair (.sl (.int .i64)) .unit)))))) .unit))) .unit)))) (.d (.pair (.int .i64) (.pair (.sl (.int .i64)) (.pair (.int .i64) (.pair (.sl (.pair (.sl (.pair (.int .i64) (.pair (.int .i64) (.pair (.int .i64) (.pair (.int .i64) (.pair (.int .i64) (.pair (.sl (.int .i64)) .unit))))))) (.pair (.pair (.int .i64) (.pair (.int .i64) (.pair (.int .i64) (.pair (.int .i64) (.pair (.int .i64) (.pair (.sl (.int .i64)) .unit)))))) .unit))) .unit)))) s34), .row .bool s35 false, .row (.arr 2 (.int .i64)) s36 false]) (fun s1 s2 s3 s4 hb => loop_round2 (S := ofL Sl33r3) (L := lofL Ll33r3) hSl33r3 (inlOK _) hp hJ (by kernel_rfl) hb) (fun s30 s31 s32 s33 s34 s35 s36 hb => loop_round2 (S := ofL Sl33r3) (L := lofL Ll33r3) hSl33r3 (inlOK _) hp hJ (by kernel_rfl) hb)

abbrev S33 : List (Nat × Pat × Sp) := []
theorem hS33 : SpecOK E (ofL S33) := specOK_nil
abbrev L33 : List (Nat × List Nat × Pat × LSp) := [(34000003, [3, 4, 9, 10], none, lsl33r3)]
def sp33 : Sp := fun args τ K => asCons args fun a1 r1 => asD (.pair (.int .i64) (.pair (.sl (.int .i64)) (.pair (.int .i64) (.pair (.sl (.pair (.sl (.pair (.int .i64) (.pair (.int .i64) (.pair (.int .i64) (.pair (.int .i64) (.pair (.int .i64) (.pair (.sl (.int .i64)) .unit))))))) (.pair (.pair (.int .i64) (.pair (.int .i64) (.pair (.int .i64) (.pair (.int .i64) (.pair (.int .i64) (.pair (.sl (.int .i64)) .unit)))))) .unit))) .unit)))) a1 fun x1 => asCons r1 fun a2 r2 => asD (.int .i64) a2 fun x2 => asCons r2 fun a3 r3 => asD (.int .i64) a3 fun x3 => asCons r3 fun a4 r4 => asD (.int .i64) a4 fun x4 => asNil r4 <| asNil τ <| c33 x1 x2 x3 x4 (fun z1 => K (B z1) [])
theorem h33 : ∀ args τ K, sp33 args τ K → ACall E 33 args τ K := by
  intro args τ K h0
  unfold sp33 at h0
  obtain ⟨a1, r1, rfl, h1⟩ := asCons_inv h0; clear h0
  obtain ⟨x1, rfl, h2⟩ := asD_inv h1; clear h1
  obtain ⟨a2, r2, rfl, h3⟩ := asCons_inv h2; clear h2
  obtain ⟨x2, rfl, h4⟩ := asD_inv h3; clear h3
  obtain ⟨a3, r3, rfl, h5⟩ := asCons_inv h4; clear h4
  obtain ⟨x3, rfl, h6⟩ := asD_inv h5; clear h5
  obtain ⟨a4, r4, rfl, h7⟩ := asCons_inv h6; clear h6
  obtain ⟨x4, rfl, h8⟩ := asD_inv h7; clear h7
  obtain ⟨rfl, h9⟩ := asNil_inv h8; clear h8
  obtain ⟨rfl, h10⟩ := asNil_inv h9; clear h9
  exact ACall.spec2 (fn := Try.f33) (c := codeOf Try.f33) (S := ofL S33) (L := lofL L33) hS33 (by kernel_rfl) (by kernel_rfl) (inlOK _) (all_eq (by kernel_rfl : subsOf (E.info 33).keep (codeOf Try.f33) = [.loop (body Try.f33 3)]) (all_cons (loopOK_of (mk := 34000003) (sl := [3, 4, 9, 10]) (ss := [([3, 4, 9, 10], lsl33r3)]) (by kernel_rfl) (by kernel_rfl) (all_cons l33r3v (all_nil))) (all_nil))) (by kernel_rfl) h10.of

abbrev Sl31r36 : List (Nat × Pat × Sp) := [(33, none, sp33), (100, none, sp100)]
theorem hSl31r36 : SpecOK E (ofL Sl31r36) := specOK_cons h33 (specOK_cons h100 (specOK_nil))
abbrev Ll31r36 : List (Nat × List Nat × Pat × LSp) := []
def lsl31r36 : LSp := fun vs σ K => asCons vs fun a1 r1 => asP (.ptr 0 0 []) a1 <| asCons r1 fun a2 r2 => asD (.int .i64) a2 fun s1 => asNil r2 <| asCons σ fun a3 r3 => asOne (.pair (.int .i64) (.pair (.sl (.int .i64)) (.pair (.int .i64) (.pair (.sl (.pair (.sl (.pair (.int .i64) (.pair (.int .i64) (.pair (.int .i64) (.pair (.int .i64) (.pair (.int .i64) (.pair (.sl (.int .i64)) .unit))))))) (.pair (.pair (.int .i64) (.pair (.int .i64) (.pair (.int .i64) (.pair (.int .i64) (.pair (.int .i64) (.pair (.sl (.int .i64)) .unit)))))) .unit))) .unit)))) a3 fun a4 => asD (.pair (.int .i64) (.pair (.sl (.int .i64)) (.pair (.int .i64) (.pair (.sl (.pair (.sl (.pair (.int .i64) (.pair (.int .i64) (.pair (.int .i64) (.pair (.int .i64) (.pair (.int .i64) (.pair (.sl (.int .i64)) .unit))))))) (.pair (.pair (.int .i64) (.pair (.int .i64) (.pair (.int .i64) (.pair (.int .i64) (.pair (.int .i64) (.pair (.sl (.int .i64)) .unit)))))) .unit))) .unit)))) a4 fun s2 => asNil r3 <| l31r36 (fun z1 => K .ret [(2, I z1)] []) (K (.exit 8) [(2, .undef)] []) s1 s2
theorem l31r36v : LoopV E (inlF (PA (ACall E)) E 8) (E.info 31).keep 0 Try.f31.ntmps 32000036 (body Try.f31 36) ([1, 14], lsl31r36) := by
  intro vs σ K (h0 : lsl31r36 vs σ K)
  unfold lsl31r36 at h0
  obtain ⟨a1, r1, rfl, h1⟩ := asCons_inv h0; clear h0
  obtain ⟨rfl, h2⟩ := asP_inv h1; clear h1
  obtain ⟨a2, r2, rfl, h3⟩ := asCons_inv h2; clear h2
  obtain ⟨s1, rfl, h4⟩ := asD_inv h3; clear h3
  obtain ⟨rfl, h5⟩ := asNil_inv h4; clear h4
  obtain ⟨a3, r3, rfl, h6⟩ := asCons_inv h5; clear h5
  obtain ⟨a4, rfl, h7⟩ := asOne_inv h6; clear h6
  obtain ⟨s2, rfl, h8⟩ := asD_inv h7; clear h7
  obtain ⟨rfl, h9⟩ := asNil_inv h8; clear h8
  intro J hJ
  have hp : ∀ c' ∈ subsOf (E.info 31).keep (body Try.f31 36), SubOK E (inlF (PA (ACall E)) E 8) (E.info 31).keep 0 Try.f31.ntmps (lofL Ll31r36) c' := all_eq (by kernel_rfl : subsOf (E.info 31).keep (body Try.f31 36) = []) (all_nil)
  exact h9.of (fun s1 s2 => J [(32000036, .undef), (1, .ptr 0 0 []), (14, I s1)] [.one (.pair (.int .i64) (.pair (.sl (.int .i64)) (.pair (.int .i64) (.pair (.sl (.pair (.sl (.pair (.int .i64) (.pair (.int .i64) (.pair (.int .i64) (.pair (.int .i64) (.pair (.int .i64) (.pair (.sl (.int .i64)) .unit))))))) (.pair (.pair (.int .i64) (.pair (.int .i64) (.pair (.int .i64) (.pair (.int .i64) (.pair (.int .i64) (.pair (.sl (.int .i64)) .unit)))))) .unit))) .unit)))) (.d (.pair (.int .i64) (.pair (.sl (.int .i64)) (.pair (.int .i64) (.pair (.sl (.pair (.sl (.pair (.int .i64) (.pair (.int .i64) (.pair (.int .i64) (.pair (.int .i64) (.pair (.int .i64) (.pair (.sl (.int .i64)) .unit))))))) (.pair (.pair (.int .i64) (.pair (.int .i64) (.pair (.int .i64) (.pair (.int .i64) (.pair (.int .i64) (.pair (.sl (.int .i64)) .unit)))))) .unit))) .unit)))) s2)]) (fun s1 s2 hb => loop_round2 (S := ofL Sl31r36) (L := lofL Ll31r36) hSl31r36 (inlOK _) hp hJ (by kernel_rfl) hb)

abbrev S31 : List (Nat × Pat × Sp) := []
theorem hS31 : SpecOK E (ofL S31) := specOK_nil
abbrev L31 : List (Nat × List Nat × Pat × LSp) := [(32000006, [1, 40, 41, 42], none, lsl31r6), (32000019, [1, 7, 70, 71, 72], none, lsl31r19), (32000036, [1, 14], none, lsl31r36)]
def sp31 : Sp := fun args τ K => asCons args fun a1 r1 => asD (.pair (.int .i64) (.pair (.sl (.int .i64)) (.pair (.int .i64) (.pair (.sl (.pair (.sl (.pair (.int .i64) (.pair (.int .i64) (.pair (.int .i64) (.pair (.int .i64) (.pair (.int .i64) (.pair (.sl (.int .i64)) .unit))))))) (.pair (.pair (.int .i64) (.pair (.int .i64) (.pair (.int .i64) (.pair (.int .i64) (.pair (.int .i64) (.pair (.sl (.int .i64)) .unit)))))) .unit))) .unit)))) a1 fun x1 => asNil r1 <| asNil τ <| c31 x1 (fun z1 => K (I z1) [])
theorem h31 : ∀ args τ K, sp31 args τ K → ACall E 31 args τ K := by
  intro args τ K h0
  unfold sp31 at h0
  obtain ⟨a1, r1, rfl, h1⟩ := asCons_inv h0; clear h0
  obtain ⟨x1, rfl, h2⟩ := asD_inv h1; clear h1
  obtain ⟨rfl, h3⟩ := asNil_inv h2; clear h2
  obtain ⟨rfl, h4⟩ := asNil_inv h3; clear h3
  exact ACall.spec2 (fn := Try.f31) (c := codeOf Try.f31) (S := ofL S31) (L := lofL L31) hS31 (by kernel_rfl) (by kernel_rfl) (inlOK _) (all_eq (by kernel_rfl : subsOf (E.info 31).keep (codeOf Try.f31) = [.loop (body Try.f31 6), .loop (body Try.f31 19), .loop (body Try.f31 36)]) (all_cons (loopOK_of (mk := 32000006) (sl := [1, 40, 41, 42]) (ss := [([1, 40, 41, 42], lsl31r6)]) (by kernel_rfl) (by kernel_rfl) (all_cons l31r6v (all_nil))) (all_cons (loopOK_of (mk := 32000019) (sl := [1, 7, 70, 71, 72]) (ss := [([1, 7, 70, 71, 72], lsl31r19)]) (by kernel_rfl) (by kernel_rfl) (all_cons l31r19v (all_nil))) (all_cons (loopOK_of (mk := 32000036) (sl := [1, 14]) (ss := [([1, 14], lsl31r36)]) (by kernel_rfl) (by kernel_rfl) (all_cons l31r36v (all_nil))) (all_nil))))) (by kernel_rfl) h4.of

abbrev S4 : List (Nat × Pat × Sp) := [(22, none, sp22), (23, none, sp23), (30, none, sp30), (31, none, sp31)]
theorem hS4 : SpecOK E (ofL S4) := specOK_cons h22 (specOK_cons h23 (specOK_cons h30 (specOK_cons h31 (specOK_nil))))
abbrev L4 : List (Nat × List Nat × Pat × LSp) := [(5000006, [1, 13, 14, 15], none, lsl4r6)]
def sp4 : Sp := fun args τ K => asCons args fun a1 r1 => asD (.pair (.int .i64) (.pair (.sl (.int .i64)) (.pair (.int .i64) (.pair (.sl (.pair (.sl (.pair (.int .i64) (.pair (.int .i64) (.pair (.int .i64) (.pair (.int .i64) (.pair (.int .i64) (.pair (.sl (.int .i64)) .unit))))))) (.pair (.pair (.int .i64) (.pair (.int .i64) (.pair (.int .i64) (.pair (.int .i64) (.pair (.int .i64) (.pair (.sl (.int .i64)) .unit)))))) .unit))) .unit)))) a1 fun x1 => asNil r1 <| asNil τ <| c4 x1 (fun z1 => K (B z1) [])
theorem h4 : ∀ args τ K, sp4 args τ K → ACall E 4 args τ K := by
  intro args τ K h0
  unfold sp4 at h0
  obtain ⟨a1, r1, rfl, h1⟩ := asCons_inv h0; clear h0
  obtain ⟨x1, rfl, h2⟩ := asD_inv h1; clear h1
  obtain ⟨rfl, h3⟩ := asNil_inv h2; clear h2
  obtain ⟨rfl, h4⟩ := asNil_inv h3; clear h3
  exact ACall.spec2 (fn := Try.f4) (c := codeOf Try.f4) (S := ofL S4) (L := lofL L4) hS4 (by kernel_rfl) (by kernel_rfl) (inlOK _) (all_eq (by kernel_rfl : subsOf (E.info 4).keep (codeOf Try.f4) = [.loop (body Try.f4 6)]) (all_cons (loopOK_of (mk := 5000006) (sl := [1, 13, 14, 15]) (ss := [([1, 13, 14, 15], lsl4r6)]) (by kernel_rfl) (by kernel_rfl) (all_cons l4r6v (all_nil))) (all_nil))) (by kernel_rfl) h4.of

end Go.Proofs.Ytfheeikjlehikaa
