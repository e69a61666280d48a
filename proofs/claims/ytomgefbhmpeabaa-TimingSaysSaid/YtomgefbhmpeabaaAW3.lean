/- The functions compute that (printed by a program). -/
import Derived.Test.YtomgefbhmpeabaaAD3
import Derived.Test.YtomgefbhmpeabaaAEnvC
import Derived.KernelRfl
namespace Go.Proofs.Ytomgefbhmpeabaa
open Go.Abs
set_option maxRecDepth 100000
set_option maxHeartbeats 4000000
set_option linter.unusedVariables false
abbrev S31 : List (Nat × Pat × Sp) := []
theorem hS31 : SpecOK E (ofL S31) := specOK_nil
abbrev L31 : List (Nat × List Nat × Pat × LSp) := []
def sp31 : Sp := fun args τ K => asCons args fun a1 r1 => asD (.int .i64) a1 fun x1 => asCons r1 fun a2 r2 => asD (.int .i64) a2 fun x2 => asCons r2 fun a3 r3 => asD (.int .i64) a3 fun x3 => asNil r3 <| asNil τ <| c31 x1 x2 x3 (fun z1 => K (B z1) [])
theorem h31 : ∀ args τ K, sp31 args τ K → ACall E 31 args τ K := by
  intro args τ K h0
  unfold sp31 at h0
  obtain ⟨a1, r1, rfl, h1⟩ := asCons_inv h0; clear h0
  obtain ⟨x1, rfl, h2⟩ := asD_inv h1; clear h1
  obtain ⟨a2, r2, rfl, h3⟩ := asCons_inv h2; clear h2
  obtain ⟨x2, rfl, h4⟩ := asD_inv h3; clear h3
  obtain ⟨a3, r3, rfl, h5⟩ := asCons_inv h4; clear h4
  obtain ⟨x3, rfl, h6⟩ := asD_inv h5; clear h5
  obtain ⟨rfl, h7⟩ := asNil_inv h6; clear h6
  obtain ⟨rfl, h8⟩ := asNil_inv h7; clear h7
  exact ACall.spec2 (fn := Try.f31) (c := codeOf Try.f31) (S := ofL S31) (L := lofL L31) hS31 (by kernel_rfl) (by kernel_rfl) (inlOK _) (all_eq (by kernel_rfl : subsOf (E.info 31).keep (codeOf Try.f31) = []) (all_nil)) (by kernel_rfl) h8.of

abbrev S32 : List (Nat × Pat × Sp) := []
theorem hS32 : SpecOK E (ofL S32) := specOK_nil
abbrev L32 : List (Nat × List Nat × Pat × LSp) := []
def sp32 : Sp := fun args τ K => asCons args fun a1 r1 => asD (.int .i64) a1 fun x1 => asNil r1 <| asNil τ <| c32 x1 (fun z1 => K (.d (.pair .bool (.pair .bool (.pair .bool (.pair .bool .unit)))) z1) [])
theorem h32 : ∀ args τ K, sp32 args τ K → ACall E 32 args τ K := by
  intro args τ K h0
  unfold sp32 at h0
  obtain ⟨a1, r1, rfl, h1⟩ := asCons_inv h0; clear h0
  obtain ⟨x1, rfl, h2⟩ := asD_inv h1; clear h1
  obtain ⟨rfl, h3⟩ := asNil_inv h2; clear h2
  obtain ⟨rfl, h4⟩ := asNil_inv h3; clear h3
  exact ACall.spec2 (fn := Try.f32) (c := codeOf Try.f32) (S := ofL S32) (L := lofL L32) hS32 (by kernel_rfl) (by kernel_rfl) (inlOK _) (all_eq (by kernel_rfl : subsOf (E.info 32).keep (codeOf Try.f32) = []) (all_nil)) (by kernel_rfl) h4.of

abbrev Sj25s6 : List (Nat × Pat × Sp) := []
theorem hSj25s6 : SpecOK E (ofL Sj25s6) := specOK_nil
abbrev Lj25s6 : List (Nat × List Nat × Pat × LSp) := []
def lsj25s6 : LSp := fun vs σ K => asCons vs fun a1 r1 => asP (.ptr 0 0 []) a1 <| asCons r1 fun a2 r2 => asD .bool a2 fun s1 => asNil r2 <| asCons σ fun a3 r3 => asOne opT a3 fun a4 => asD opT a4 fun s2 => asNil r3 <| j25s6 (fun z1 => K .ret [(1, .undef), (2, I z1)] []) (fun z1 => K .normal [(1, .ptr 0 0 []), (2, .undef)] [.one opT (.d opT z1)]) s1 s2
theorem j25s6v : JoinV E (inlF (PA (ACall E)) E 8) (E.info 25).keep 0 Try.f25.ntmps 26500006 5000006 (jbody Try.f25 5000006) ([1, 70], lsj25s6) := by
  intro vs σ K (h0 : lsj25s6 vs σ K)
  unfold lsj25s6 at h0
  obtain ⟨a1, r1, rfl, h1⟩ := asCons_inv h0; clear h0
  obtain ⟨rfl, h2⟩ := asP_inv h1; clear h1
  obtain ⟨a2, r2, rfl, h3⟩ := asCons_inv h2; clear h2
  obtain ⟨s1, rfl, h4⟩ := asD_inv h3; clear h3
  obtain ⟨rfl, h5⟩ := asNil_inv h4; clear h4
  obtain ⟨a3, r3, rfl, h6⟩ := asCons_inv h5; clear h5
  obtain ⟨a4, rfl, h7⟩ := asOne_inv h6; clear h6
  obtain ⟨s2, rfl, h8⟩ := asD_inv h7; clear h7
  obtain ⟨rfl, h9⟩ := asNil_inv h8; clear h8
  exact join_round2 (S := ofL Sj25s6) (L := lofL Lj25s6) hSj25s6 (inlOK _) (all_eq (by kernel_rfl : subsOf (E.info 25).keep (jbody Try.f25 5000006) = []) (all_nil)) (by kernel_rfl) h9.of

abbrev Sj25s8 : List (Nat × Pat × Sp) := []
theorem hSj25s8 : SpecOK E (ofL Sj25s8) := specOK_nil
abbrev Lj25s8 : List (Nat × List Nat × Pat × LSp) := []
def lsj25s8 : LSp := fun vs σ K => asCons vs fun a1 r1 => asD .bool a1 fun s1 => asNil r1 <| asNil σ <| j25s8 (fun z1 => K .ret [(2, I z1)] []) (K .normal [(2, .undef)] []) s1
theorem j25s8v : JoinV E (inlF (PA (ACall E)) E 8) (E.info 25).keep 0 Try.f25.ntmps 26500008 5000008 (jbody Try.f25 5000008) ([106], lsj25s8) := by
  intro vs σ K (h0 : lsj25s8 vs σ K)
  unfold lsj25s8 at h0
  obtain ⟨a1, r1, rfl, h1⟩ := asCons_inv h0; clear h0
  obtain ⟨s1, rfl, h2⟩ := asD_inv h1; clear h1
  obtain ⟨rfl, h3⟩ := asNil_inv h2; clear h2
  obtain ⟨rfl, h4⟩ := asNil_inv h3; clear h3
  exact join_round2 (S := ofL Sj25s8) (L := lofL Lj25s8) hSj25s8 (inlOK _) (all_eq (by kernel_rfl : subsOf (E.info 25).keep (jbody Try.f25 5000008) = []) (all_nil)) (by kernel_rfl) h4.of

abbrev Sj25r10 : List (Nat × Pat × Sp) := []
theorem hSj25r10 : SpecOK E (ofL Sj25r10) := specOK_nil
abbrev Lj25r10 : List (Nat × List Nat × Pat × LSp) := []
def lsj25r10 : LSp := fun vs σ K => asNil vs <| asNil σ <| j25r10 (fun z1 => K .ret [(2, I z1)] []) 
theorem j25r10v : JoinV E (inlF (PA (ACall E)) E 8) (E.info 25).keep 0 Try.f25.ntmps 26400010 4000010 (jbody Try.f25 4000010) ([], lsj25r10) := by
  intro vs σ K (h0 : lsj25r10 vs σ K)
  unfold lsj25r10 at h0
  obtain ⟨rfl, h1⟩ := asNil_inv h0; clear h0
  obtain ⟨rfl, h2⟩ := asNil_inv h1; clear h1
  exact join_round2 (S := ofL Sj25r10) (L := lofL Lj25r10) hSj25r10 (inlOK _) (all_eq (by kernel_rfl : subsOf (E.info 25).keep (jbody Try.f25 4000010) = []) (all_nil)) (by kernel_rfl) h2.of

abbrev Sj25r8 : List (Nat × Pat × Sp) := [(31, none, sp31)]
theorem hSj25r8 : SpecOK E (ofL Sj25r8) := specOK_cons h31 (specOK_nil)
abbrev Lj25r8 : List (Nat × List Nat × Pat × LSp) := [(26500008, [106], none, lsj25s8), (26400010, [], none, lsj25r10)]
def lsj25r8 : LSp := fun vs σ K => asCons vs fun a1 r1 => asP (.ptr 0 0 []) a1 <| asNil r1 <| asCons σ fun a2 r2 => asOne opT a2 fun a3 => asD opT a3 fun s1 => asNil r2 <| j25r8 (fun z1 => K .ret [(2, I z1)] []) s1
theorem j25r8v : JoinV E (inlF (PA (ACall E)) E 8) (E.info 25).keep 0 Try.f25.ntmps 26400008 4000008 (jbody Try.f25 4000008) ([1], lsj25r8) := by
  intro vs σ K (h0 : lsj25r8 vs σ K)
  unfold lsj25r8 at h0
  obtain ⟨a1, r1, rfl, h1⟩ := asCons_inv h0; clear h0
  obtain ⟨rfl, h2⟩ := asP_inv h1; clear h1
  obtain ⟨rfl, h3⟩ := asNil_inv h2; clear h2
  obtain ⟨a2, r2, rfl, h4⟩ := asCons_inv h3; clear h3
  obtain ⟨a3, rfl, h5⟩ := asOne_inv h4; clear h4
  obtain ⟨s1, rfl, h6⟩ := asD_inv h5; clear h5
  obtain ⟨rfl, h7⟩ := asNil_inv h6; clear h6
  exact join_round2 (S := ofL Sj25r8) (L := lofL Lj25r8) hSj25r8 (inlOK _) (all_eq (by kernel_rfl : subsOf (E.info 25).keep (jbody Try.f25 4000008) = [.join 4000010 (jbody Try.f25 4000010), .join 5000008 (jbody Try.f25 5000008)]) (all_cons (joinOK_of (mk := 26400010) (sl := []) (ss := [([], lsj25r10)]) (by kernel_rfl) (by kernel_rfl) (all_cons j25r10v (all_nil))) (all_cons (joinOK_of (mk := 26500008) (sl := [106]) (ss := [([106], lsj25s8)]) (by kernel_rfl) (by kernel_rfl) (all_cons j25s8v (all_nil))) (all_nil)))) (by kernel_rfl) h7.of

abbrev S25 : List (Nat × Pat × Sp) := [(31, none, sp31), (32, none, sp32)]
theorem hS25 : SpecOK E (ofL S25) := specOK_cons h31 (specOK_cons h32 (specOK_nil))
abbrev L25 : List (Nat × List Nat × Pat × LSp) := [(26500006, [1, 70], none, lsj25s6), (26400008, [1], none, lsj25r8)]
def sp25 : Sp := fun args τ K => asCons args fun a1 r1 => asD opT a1 fun x1 => asNil r1 <| asNil τ <| c25 x1 (fun z1 => K (I z1) [])
theorem h25 : ∀ args τ K, sp25 args τ K → ACall E 25 args τ K := by
  intro args τ K h0
  unfold sp25 at h0
  obtain ⟨a1, r1, rfl, h1⟩ := asCons_inv h0; clear h0
  obtain ⟨x1, rfl, h2⟩ := asD_inv h1; clear h1
  obtain ⟨rfl, h3⟩ := asNil_inv h2; clear h2
  obtain ⟨rfl, h4⟩ := asNil_inv h3; clear h3
  exact ACall.spec2 (fn := Try.f25) (c := codeOf Try.f25) (S := ofL S25) (L := lofL L25) hS25 (by kernel_rfl) (by kernel_rfl) (inlOK _) (all_eq (by kernel_rfl : subsOf (E.info 25).keep (codeOf Try.f25) = [.join 4000008 (jbody Try.f25 4000008), .join 5000006 (jbody Try.f25 5000006)]) (all_cons (joinOK_of (mk := 26400008) (sl := [1]) (ss := [([1], lsj25r8)]) (by kernel_rfl) (by kernel_rfl) (all_cons j25r8v (all_nil))) (all_cons (joinOK_of (mk := 26500006) (sl := [1, 70]) (ss := [([1, 70], lsj25s6)]) (by kernel_rfl) (by kernel_rfl) (all_cons j25s6v (all_nil))) (all_nil)))) (by kernel_rfl) h4.of

abbrev S12 : List (Nat × Pat × Sp) := []
theorem hS12 : SpecOK E (ofL S12) := specOK_nil
abbrev L12 : List (Nat × List Nat × Pat × LSp) := []
def sp12 : Sp := fun args τ K => asCons args fun a1 r1 => asD (.int .i64) a1 fun x1 => asNil r1 <| asNil τ <| c12 x1 (fun z1 => K (B z1) [])
theorem h12 : ∀ args τ K, sp12 args τ K → ACall E 12 args τ K := by
  intro args τ K h0
  unfold sp12 at h0
  obtain ⟨a1, r1, rfl, h1⟩ := asCons_inv h0; clear h0
  obtain ⟨x1, rfl, h2⟩ := asD_inv h1; clear h1
  obtain ⟨rfl, h3⟩ := asNil_inv h2; clear h2
  obtain ⟨rfl, h4⟩ := asNil_inv h3; clear h3
  exact ACall.spec2 (fn := Try.f12) (c := codeOf Try.f12) (S := ofL S12) (L := lofL L12) hS12 (by kernel_rfl) (by kernel_rfl) (inlOK _) (all_eq (by kernel_rfl : subsOf (E.info 12).keep (codeOf Try.f12) = []) (all_nil)) (by kernel_rfl) h4.of

abbrev Sl20r4 : List (Nat × Pat × Sp) := [(25, none, sp25), (12, none, sp12)]
theorem hSl20r4 : SpecOK E (ofL Sl20r4) := specOK_cons h25 (specOK_cons h12 (specOK_nil))
abbrev Ll20r4 : List (Nat × List Nat × Pat × LSp) := []
def lsl20r4 : LSp := fun vs σ K => asCons vs fun a1 r1 => asD (.sl (.pair (.int .i64) (.pair (.int .i64) (.pair (.int .i64) (.pair (.int .i64) (.pair (.int .i64) .unit)))))) a1 fun s1 => asCons r1 fun a2 r2 => asD (.sl (.pair (.int .i64) (.pair (.int .i64) (.pair (.int .i64) (.pair (.int .i64) (.pair (.int .i64) .unit)))))) a2 fun s2 => asCons r2 fun a3 r3 => asD (.int .i64) a3 fun s3 => asCons r3 fun a4 r4 => asD (.int .i64) a4 fun s4 => asNil r4 <| asNil σ <| l20r4 (fun z1 z2 => K .ret [(0, .undef), (2, I z1), (3, I z2)] []) (fun z1 => K (.exit 0) [(0, .d (.sl (.pair (.int .i64) (.pair (.int .i64) (.pair (.int .i64) (.pair (.int .i64) (.pair (.int .i64) .unit)))))) z1), (2, .undef), (3, .undef)] []) s1 s2 s3 s4
theorem l20r4v : LoopV E (inlF (PA (ACall E)) E 8) (E.info 20).keep 0 Try.f20.ntmps 21000004 (body Try.f20 4) ([0, 13, 14, 15], lsl20r4) := by
  intro vs σ K (h0 : lsl20r4 vs σ K)
  unfold lsl20r4 at h0
  obtain ⟨a1, r1, rfl, h1⟩ := asCons_inv h0; clear h0
  obtain ⟨s1, rfl, h2⟩ := asD_inv h1; clear h1
  obtain ⟨a2, r2, rfl, h3⟩ := asCons_inv h2; clear h2
  obtain ⟨s2, rfl, h4⟩ := asD_inv h3; clear h3
  obtain ⟨a3, r3, rfl, h5⟩ := asCons_inv h4; clear h4
  obtain ⟨s3, rfl, h6⟩ := asD_inv h5; clear h5
  obtain ⟨a4, r4, rfl, h7⟩ := asCons_inv h6; clear h6
  obtain ⟨s4, rfl, h8⟩ := asD_inv h7; clear h7
  obtain ⟨rfl, h9⟩ := asNil_inv h8; clear h8
  obtain ⟨rfl, h10⟩ := asNil_inv h9; clear h9
  intro J hJ
  have hp : ∀ c' ∈ subsOf (E.info 20).keep (body Try.f20 4), SubOK E (inlF (PA (ACall E)) E 8) (E.info 20).keep 0 Try.f20.ntmps (lofL Ll20r4) c' := all_eq (by kernel_rfl : subsOf (E.info 20).keep (body Try.f20 4) = []) (all_nil)
  exact h10.of (fun s1 s2 s3 s4 => J [(21000004, .undef), (0, .d (.sl (.pair (.int .i64) (.pair (.int .i64) (.pair (.int .i64) (.pair (.int .i64) (.pair (.int .i64) .unit)))))) s1), (13, .d (.sl (.pair (.int .i64) (.pair (.int .i64) (.pair (.int .i64) (.pair (.int .i64) (.pair (.int .i64) .unit)))))) s2), (14, I s3), (15, I s4)] []) (fun s1 s2 s3 s4 hb => loop_round2 (S := ofL Sl20r4) (L := lofL Ll20r4) hSl20r4 (inlOK _) hp hJ (by kernel_rfl) hb)

abbrev Sl15r4 : List (Nat × Pat × Sp) := []
theorem hSl15r4 : SpecOK E (ofL Sl15r4) := specOK_nil
abbrev Ll15r4 : List (Nat × List Nat × Pat × LSp) := []
def lsl15r4 : LSp := fun vs σ K => asCons vs fun a1 r1 => asP (.ptr 0 0 []) a1 <| asCons r1 fun a2 r2 => asD (.arr 16 (.int .i64)) a2 fun s1 => asCons r2 fun a3 r3 => asD (.int .i64) a3 fun s2 => asNil r3 <| asCons σ fun a4 r4 => asOne (.pair (.int .i64) (.pair (.int .i64) (.pair (.int .i64) (.pair (.arr 16 (.int .i64)) (.pair (.sl (.int .i64)) .unit))))) a4 fun a5 => asD (.pair (.int .i64) (.pair (.int .i64) (.pair (.int .i64) (.pair (.arr 16 (.int .i64)) (.pair (.sl (.int .i64)) .unit))))) a5 fun s3 => asNil r4 <| l15r4 (fun z1 => K .ret [(1, .undef), (2, I z1)] []) (fun z1 => K (.exit 0) [(1, .ptr 0 0 []), (2, .undef)] [.one (.pair (.int .i64) (.pair (.int .i64) (.pair (.int .i64) (.pair (.arr 16 (.int .i64)) (.pair (.sl (.int .i64)) .unit))))) (.d (.pair (.int .i64) (.pair (.int .i64) (.pair (.int .i64) (.pair (.arr 16 (.int .i64)) (.pair (.sl (.int .i64)) .unit))))) z1)]) s1 s2 s3
theorem l15r4v : LoopV E (inlF (PA (ACall E)) E 8) (E.info 15).keep 0 Try.f15.ntmps 16000004 (body Try.f15 4) ([1, 28, 29], lsl15r4) := by
  intro vs σ K (h0 : lsl15r4 vs σ K)
  unfold lsl15r4 at h0
  obtain ⟨a1, r1, rfl, h1⟩ := asCons_inv h0; clear h0
  obtain ⟨rfl, h2⟩ := asP_inv h1; clear h1
  obtain ⟨a2, r2, rfl, h3⟩ := asCons_inv h2; clear h2
  obtain ⟨s1, rfl, h4⟩ := asD_inv h3; clear h3
  obtain ⟨a3, r3, rfl, h5⟩ := asCons_inv h4; clear h4
  obtain ⟨s2, rfl, h6⟩ := asD_inv h5; clear h5
  obtain ⟨rfl, h7⟩ := asNil_inv h6; clear h6
  obtain ⟨a4, r4, rfl, h8⟩ := asCons_inv h7; clear h7
  obtain ⟨a5, rfl, h9⟩ := asOne_inv h8; clear h8
  obtain ⟨s3, rfl, h10⟩ := asD_inv h9; clear h9
  obtain ⟨rfl, h11⟩ := asNil_inv h10; clear h10
  intro J hJ
  have hp : ∀ c' ∈ subsOf (E.info 15).keep (body Try.f15 4), SubOK E (inlF (PA (ACall E)) E 8) (E.info 15).keep 0 Try.f15.ntmps (lofL Ll15r4) c' := all_eq (by kernel_rfl : subsOf (E.info 15).keep (body Try.f15 4) = []) (all_nil)
  exact h11.of (fun s1 s2 s3 => J [(16000004, .undef), (1, .ptr 0 0 []), (28, .d (.arr 16 (.int .i64)) s1), (29, I s2)] [.one (.pair (.int .i64) (.pair (.int .i64) (.pair (.int .i64) (.pair (.arr 16 (.int .i64)) (.pair (.sl (.int .i64)) .unit))))) (.d (.pair (.int .i64) (.pair (.int .i64) (.pair (.int .i64) (.pair (.arr 16 (.int .i64)) (.pair (.sl (.int .i64)) .unit))))) s3)]) (fun s1 s2 s3 hb => loop_round2 (S := ofL Sl15r4) (L := lofL Ll15r4) hSl15r4 (inlOK _) hp hJ (by kernel_rfl) hb)

abbrev Sl15r11 : List (Nat × Pat × Sp) := []
theorem hSl15r11 : SpecOK E (ofL Sl15r11) := specOK_nil
abbrev Ll15r11 : List (Nat × List Nat × Pat × LSp) := []
def lsl15r11 : LSp := fun vs σ K => asCons vs fun a1 r1 => asD (.int .i64) a1 fun s1 => asCons r1 fun a2 r2 => asD (.sl (.int .i64)) a2 fun s2 => asCons r2 fun a3 r3 => asD (.int .i64) a3 fun s3 => asCons r3 fun a4 r4 => asD (.int .i64) a4 fun s4 => asNil r4 <| asNil σ <| l15r11 (fun z1 => K .ret [(2, I z1)] []) (K (.exit 2) [(2, .undef)] []) s1 s2 s3 s4
theorem l15r11v : LoopV E (inlF (PA (ACall E)) E 8) (E.info 15).keep 0 Try.f15.ntmps 16000011 (body Try.f15 11) ([5, 39, 40, 41], lsl15r11) := by
  intro vs σ K (h0 : lsl15r11 vs σ K)
  unfold lsl15r11 at h0
  obtain ⟨a1, r1, rfl, h1⟩ := asCons_inv h0; clear h0
  obtain ⟨s1, rfl, h2⟩ := asD_inv h1; clear h1
  obtain ⟨a2, r2, rfl, h3⟩ := asCons_inv h2; clear h2
  obtain ⟨s2, rfl, h4⟩ := asD_inv h3; clear h3
  obtain ⟨a3, r3, rfl, h5⟩ := asCons_inv h4; clear h4
  obtain ⟨s3, rfl, h6⟩ := asD_inv h5; clear h5
  obtain ⟨a4, r4, rfl, h7⟩ := asCons_inv h6; clear h6
  obtain ⟨s4, rfl, h8⟩ := asD_inv h7; clear h7
  obtain ⟨rfl, h9⟩ := asNil_inv h8; clear h8
  obtain ⟨rfl, h10⟩ := asNil_inv h9; clear h9
  intro J hJ
  have hp : ∀ c' ∈ subsOf (E.info 15).keep (body Try.f15 11), SubOK E (inlF (PA (ACall E)) E 8) (E.info 15).keep 0 Try.f15.ntmps (lofL Ll15r11) c' := all_eq (by kernel_rfl : subsOf (E.info 15).keep (body Try.f15 11) = []) (all_nil)
  exact h10.of (fun s1 s2 s3 s4 => J [(16000011, .undef), (5, I s1), (39, .d (.sl (.int .i64)) s2), (40, I s3), (41, I s4)] []) (fun s1 s2 s3 s4 hb => loop_round2 (S := ofL Sl15r11) (L := lofL Ll15r11) hSl15r11 (inlOK _) hp hJ (by kernel_rfl) hb)

abbrev S15 : List (Nat × Pat × Sp) := []
theorem hS15 : SpecOK E (ofL S15) := specOK_nil
abbrev L15 : List (Nat × List Nat × Pat × LSp) := [(16000004, [1, 28, 29], none, lsl15r4), (16000011, [5, 39, 40, 41], none, lsl15r11)]
def sp15 : Sp := fun args τ K => asCons args fun a1 r1 => asD (.pair (.int .i64) (.pair (.int .i64) (.pair (.int .i64) (.pair (.arr 16 (.int .i64)) (.pair (.sl (.int .i64)) .unit))))) a1 fun x1 => asNil r1 <| asNil τ <| c15 x1 (fun z1 => K (I z1) [])
theorem h15 : ∀ args τ K, sp15 args τ K → ACall E 15 args τ K := by
  intro args τ K h0
  unfold sp15 at h0
  obtain ⟨a1, r1, rfl, h1⟩ := asCons_inv h0; clear h0
  obtain ⟨x1, rfl, h2⟩ := asD_inv h1; clear h1
  obtain ⟨rfl, h3⟩ := asNil_inv h2; clear h2
  obtain ⟨rfl, h4⟩ := asNil_inv h3; clear h3
  exact ACall.spec2 (fn := Try.f15) (c := codeOf Try.f15) (S := ofL S15) (L := lofL L15) hS15 (by kernel_rfl) (by kernel_rfl) (inlOK _) (all_eq (by kernel_rfl : subsOf (E.info 15).keep (codeOf Try.f15) = [.loop (body Try.f15 4), .loop (body Try.f15 11)]) (all_cons (loopOK_of (mk := 16000004) (sl := [1, 28, 29]) (ss := [([1, 28, 29], lsl15r4)]) (by kernel_rfl) (by kernel_rfl) (all_cons l15r4v (all_nil))) (all_cons (loopOK_of (mk := 16000011) (sl := [5, 39, 40, 41]) (ss := [([5, 39, 40, 41], lsl15r11)]) (by kernel_rfl) (by kernel_rfl) (all_cons l15r11v (all_nil))) (all_nil)))) (by kernel_rfl) h4.of

abbrev S5 : List (Nat × Pat × Sp) := []
theorem hS5 : SpecOK E (ofL S5) := specOK_nil
abbrev L5 : List (Nat × List Nat × Pat × LSp) := []
def sp5 : Sp := fun args τ K => asCons args fun a1 r1 => asD (.int .i64) a1 fun x1 => asNil r1 <| asNil τ <| c5 x1 (fun z1 => K (I z1) [])
theorem h5 : ∀ args τ K, sp5 args τ K → ACall E 5 args τ K := by
  intro args τ K h0
  unfold sp5 at h0
  obtain ⟨a1, r1, rfl, h1⟩ := asCons_inv h0; clear h0
  obtain ⟨x1, rfl, h2⟩ := asD_inv h1; clear h1
  obtain ⟨rfl, h3⟩ := asNil_inv h2; clear h2
  obtain ⟨rfl, h4⟩ := asNil_inv h3; clear h3
  exact ACall.spec2 (fn := Try.f5) (c := codeOf Try.f5) (S := ofL S5) (L := lofL L5) hS5 (by kernel_rfl) (by kernel_rfl) (inlOK _) (all_eq (by kernel_rfl : subsOf (E.info 5).keep (codeOf Try.f5) = []) (all_nil)) (by kernel_rfl) h4.of

abbrev Sl24r1 : List (Nat × Pat × Sp) := []
theorem hSl24r1 : SpecOK E (ofL Sl24r1) := specOK_nil
abbrev Ll24r1 : List (Nat × List Nat × Pat × LSp) := []
def lsl24r1 : LSp := fun vs σ K => asCons vs fun a1 r1 => asP (.ptr 0 0 []) a1 <| asCons r1 fun a2 r2 => asD (.sl (.int .i64)) a2 fun s1 => asCons r2 fun a3 r3 => asD (.int .i64) a3 fun s2 => asCons r3 fun a4 r4 => asD (.int .i64) a4 fun s3 => asNil r4 <| asCons σ fun a5 r5 => asOne (.sl (.int .i64)) a5 fun a6 => asP (.vec 1) a6 <| asCons r5 fun a7 r7 => asRw (.int .i64) false a7 fun s4 => asNil r7 <| l24r1 (fun z1 => K (.exit 0) [] [.one (.sl (.int .i64)) (.vec 1), .row (.int .i64) z1 false]) s1 s2 s3 s4
theorem l24r1v : LoopV E (inlF (PA (ACall E)) E 8) (E.info 24).keep 1 Try.f24.ntmps 25000001 (body Try.f24 1) ([1, 5, 6, 7], lsl24r1) := by
  intro vs σ K (h0 : lsl24r1 vs σ K)
  unfold lsl24r1 at h0
  obtain ⟨a1, r1, rfl, h1⟩ := asCons_inv h0; clear h0
  obtain ⟨rfl, h2⟩ := asP_inv h1; clear h1
  obtain ⟨a2, r2, rfl, h3⟩ := asCons_inv h2; clear h2
  obtain ⟨s1, rfl, h4⟩ := asD_inv h3; clear h3
  obtain ⟨a3, r3, rfl, h5⟩ := asCons_inv h4; clear h4
  obtain ⟨s2, rfl, h6⟩ := asD_inv h5; clear h5
  obtain ⟨a4, r4, rfl, h7⟩ := asCons_inv h6; clear h6
  obtain ⟨s3, rfl, h8⟩ := asD_inv h7; clear h7
  obtain ⟨rfl, h9⟩ := asNil_inv h8; clear h8
  obtain ⟨a5, r5, rfl, h10⟩ := asCons_inv h9; clear h9
  obtain ⟨a6, rfl, h11⟩ := asOne_inv h10; clear h10
  obtain ⟨rfl, h12⟩ := asP_inv h11; clear h11
  obtain ⟨a7, r7, rfl, h13⟩ := asCons_inv h12; clear h12
  obtain ⟨s4, rfl, h14⟩ := asRw_inv h13; clear h13
  obtain ⟨rfl, h15⟩ := asNil_inv h14; clear h14
  intro J hJ
  have hp : ∀ c' ∈ subsOf (E.info 24).keep (body Try.f24 1), SubOK E (inlF (PA (ACall E)) E 8) (E.info 24).keep 1 Try.f24.ntmps (lofL Ll24r1) c' := all_eq (by kernel_rfl : subsOf (E.info 24).keep (body Try.f24 1) = []) (all_nil)
  exact h15.of (fun s1 s2 s3 s4 => J [(25000001, .undef), (1, .ptr 0 0 []), (5, .d (.sl (.int .i64)) s1), (6, I s2), (7, I s3)] [.one (.sl (.int .i64)) (.vec 1), .row (.int .i64) s4 false]) (fun s1 s2 s3 s4 hb => loop_round2 (S := ofL Sl24r1) (L := lofL Ll24r1) hSl24r1 (inlOK _) hp hJ (by kernel_rfl) hb)

abbrev S24 : List (Nat × Pat × Sp) := []
theorem hS24 : SpecOK E (ofL S24) := specOK_nil
abbrev L24 : List (Nat × List Nat × Pat × LSp) := [(25000001, [1, 5, 6, 7], none, lsl24r1)]
def sp24 : Sp := fun args τ K => asCons args fun a1 r1 => asD (.sl (.int .i64)) a1 fun x1 => asCons r1 fun a2 r2 => asP (.ptr 0 0 []) a2 <| asNil r2 <| asCons τ fun a3 r3 => asOne (.sl (.int .i64)) a3 fun a4 => asP (.nils (.int .i64)) a4 <| asNil r3 <| c24 x1 (fun z1 => K (.tup []) [.one (.sl (.int .i64)) (.vec 1), .row (.int .i64) z1 false])
theorem h24 : ∀ args τ K, sp24 args τ K → ACall E 24 args τ K := by
  intro args τ K h0
  unfold sp24 at h0
  obtain ⟨a1, r1, rfl, h1⟩ := asCons_inv h0; clear h0
  obtain ⟨x1, rfl, h2⟩ := asD_inv h1; clear h1
  obtain ⟨a2, r2, rfl, h3⟩ := asCons_inv h2; clear h2
  obtain ⟨rfl, h4⟩ := asP_inv h3; clear h3
  obtain ⟨rfl, h5⟩ := asNil_inv h4; clear h4
  obtain ⟨a3, r3, rfl, h6⟩ := asCons_inv h5; clear h5
  obtain ⟨a4, rfl, h7⟩ := asOne_inv h6; clear h6
  obtain ⟨rfl, h8⟩ := asP_inv h7; clear h7
  obtain ⟨rfl, h9⟩ := asNil_inv h8; clear h8
  exact ACall.spec2 (fn := Try.f24) (c := codeOf Try.f24) (S := ofL S24) (L := lofL L24) hS24 (by kernel_rfl) (by kernel_rfl) (inlOK _) (all_eq (by kernel_rfl : subsOf (E.info 24).keep (codeOf Try.f24) = [.loop (body Try.f24 1)]) (all_cons (loopOK_of (mk := 25000001) (sl := [1, 5, 6, 7]) (ss := [([1, 5, 6, 7], lsl24r1)]) (by kernel_rfl) (by kernel_rfl) (all_cons l24r1v (all_nil))) (all_nil))) (by kernel_rfl) h9.of

abbrev Sj10r30 : List (Nat × Pat × Sp) := []
theorem hSj10r30 : SpecOK E (ofL Sj10r30) := specOK_nil
abbrev Lj10r30 : List (Nat × List Nat × Pat × LSp) := []
def lsj10r30 : LSp := fun vs σ K => asCons vs fun a1 r1 => asP (.ptr 0 0 []) a1 <| asNil r1 <| asCons σ fun a2 r2 => asOne (.sl (.int .i64)) a2 fun a3 => asP (.vec 1) a3 <| asCons r2 fun a4 r4 => asRw (.int .i64) false a4 fun s1 => asNil r4 <| j10r30 (fun z1 => K .ret [(2, .vec 0)] [.row (.int .i64) z1 false]) s1
theorem j10r30v : JoinV E (inlF (PA (ACall E)) E 8) (E.info 10).keep 0 Try.f10.ntmps 11400030 4000030 (jbody Try.f10 4000030) ([3], lsj10r30) := by
  intro vs σ K (h0 : lsj10r30 vs σ K)
  unfold lsj10r30 at h0
  obtain ⟨a1, r1, rfl, h1⟩ := asCons_inv h0; clear h0
  obtain ⟨rfl, h2⟩ := asP_inv h1; clear h1
  obtain ⟨rfl, h3⟩ := asNil_inv h2; clear h2
  obtain ⟨a2, r2, rfl, h4⟩ := asCons_inv h3; clear h3
  obtain ⟨a3, rfl, h5⟩ := asOne_inv h4; clear h4
  obtain ⟨rfl, h6⟩ := asP_inv h5; clear h5
  obtain ⟨a4, r4, rfl, h7⟩ := asCons_inv h6; clear h6
  obtain ⟨s1, rfl, h8⟩ := asRw_inv h7; clear h7
  obtain ⟨rfl, h9⟩ := asNil_inv h8; clear h8
  exact join_round2 (S := ofL Sj10r30) (L := lofL Lj10r30) hSj10r30 (inlOK _) (all_eq (by kernel_rfl : subsOf (E.info 10).keep (jbody Try.f10 4000030) = []) (all_nil)) (by kernel_rfl) h9.of

abbrev Sl24r1v2 : List (Nat × Pat × Sp) := []
theorem hSl24r1v2 : SpecOK E (ofL Sl24r1v2) := specOK_nil
abbrev Ll24r1v2 : List (Nat × List Nat × Pat × LSp) := []
def lsl24r1v2 : LSp := fun vs σ K => asCons vs fun a1 r1 => asP (.ptr 0 0 []) a1 <| asCons r1 fun a2 r2 => asD (.sl (.int .i64)) a2 fun s1 => asCons r2 fun a3 r3 => asD (.int .i64) a3 fun s2 => asCons r3 fun a4 r4 => asD (.int .i64) a4 fun s3 => asNil r4 <| asCons σ fun a5 r5 => asOne (.sl (.int .i64)) a5 fun a6 => asP (.vec 1) a6 <| asCons r5 fun a7 r7 => asRw (.int .i64) false a7 fun s4 => asNil r7 <| l24r1v2 (fun z1 => K (.exit 0) [] [.one (.sl (.int .i64)) (.vec 1), .row (.int .i64) z1 false]) (fun z1 => K (.exit 0) [] [.one (.sl (.int .i64)) (.vec 2), .dead, .row (.int .i64) z1 false]) s1 s2 s3 s4
theorem l24r1v2v : LoopV E (inlF (PA (ACall E)) E 8) (E.info 24).keep 2 Try.f24.ntmps 25000001 (body Try.f24 1) ([1, 5, 6, 7], lsl24r1v2) := by
  intro vs σ K (h0 : lsl24r1v2 vs σ K)
  unfold lsl24r1v2 at h0
  obtain ⟨a1, r1, rfl, h1⟩ := asCons_inv h0; clear h0
  obtain ⟨rfl, h2⟩ := asP_inv h1; clear h1
  obtain ⟨a2, r2, rfl, h3⟩ := asCons_inv h2; clear h2
  obtain ⟨s1, rfl, h4⟩ := asD_inv h3; clear h3
  obtain ⟨a3, r3, rfl, h5⟩ := asCons_inv h4; clear h4
  obtain ⟨s2, rfl, h6⟩ := asD_inv h5; clear h5
  obtain ⟨a4, r4, rfl, h7⟩ := asCons_inv h6; clear h6
  obtain ⟨s3, rfl, h8⟩ := asD_inv h7; clear h7
  obtain ⟨rfl, h9⟩ := asNil_inv h8; clear h8
  obtain ⟨a5, r5, rfl, h10⟩ := asCons_inv h9; clear h9
  obtain ⟨a6, rfl, h11⟩ := asOne_inv h10; clear h10
  obtain ⟨rfl, h12⟩ := asP_inv h11; clear h11
  obtain ⟨a7, r7, rfl, h13⟩ := asCons_inv h12; clear h12
  obtain ⟨s4, rfl, h14⟩ := asRw_inv h13; clear h13
  obtain ⟨rfl, h15⟩ := asNil_inv h14; clear h14
  intro J hJ
  have hp : ∀ c' ∈ subsOf (E.info 24).keep (body Try.f24 1), SubOK E (inlF (PA (ACall E)) E 8) (E.info 24).keep 2 Try.f24.ntmps (lofL Ll24r1v2) c' := all_eq (by kernel_rfl : subsOf (E.info 24).keep (body Try.f24 1) = []) (all_nil)
  exact h15.of (fun s1 s2 s3 s4 => J [(25000001, .undef), (1, .ptr 0 0 []), (5, .d (.sl (.int .i64)) s1), (6, I s2), (7, I s3)] [.one (.sl (.int .i64)) (.vec 1), .row (.int .i64) s4 false]) (fun s6 s7 s8 s9 => J [(25000001, .undef), (1, .ptr 0 0 []), (5, .d (.sl (.int .i64)) s6), (6, I s7), (7, I s8)] [.one (.sl (.int .i64)) (.vec 2), .dead, .row (.int .i64) s9 false]) (fun s1 s2 s3 s4 hb => loop_round2 (S := ofL Sl24r1v2) (L := lofL Ll24r1v2) hSl24r1v2 (inlOK _) hp hJ (by kernel_rfl) hb) (fun s6 s7 s8 s9 hb => loop_round2 (S := ofL Sl24r1v2) (L := lofL Ll24r1v2) hSl24r1v2 (inlOK _) hp hJ (by kernel_rfl) hb)

abbrev S24v2 : List (Nat × Pat × Sp) := []
theorem hS24v2 : SpecOK E (ofL S24v2) := specOK_nil
abbrev L24v2 : List (Nat × List Nat × Pat × LSp) := [(25000001, [1, 5, 6, 7], none, lsl24r1v2)]
def sp24v2 : Sp := fun args τ K => asCons args fun a1 r1 => asD (.sl (.int .i64)) a1 fun x1 => asCons r1 fun a2 r2 => asP (.ptr 0 0 []) a2 <| asNil r2 <| asCons τ fun a3 r3 => asOne (.sl (.int .i64)) a3 fun a4 => asP (.vec 1) a4 <| asCons r3 fun a5 r5 => asRw (.int .i64) false a5 fun x2 => asNil r5 <| c24v2 x1 x2 (fun z1 => K (.tup []) [.one (.sl (.int .i64)) (.vec 1), .row (.int .i64) z1 false]) (fun z1 => K (.tup []) [.one (.sl (.int .i64)) (.vec 2), .dead, .row (.int .i64) z1 false])
theorem h24v2 : ∀ args τ K, sp24v2 args τ K → ACall E 24 args τ K := by
  intro args τ K h0
  unfold sp24v2 at h0
  obtain ⟨a1, r1, rfl, h1⟩ := asCons_inv h0; clear h0
  obtain ⟨x1, rfl, h2⟩ := asD_inv h1; clear h1
  obtain ⟨a2, r2, rfl, h3⟩ := asCons_inv h2; clear h2
  obtain ⟨rfl, h4⟩ := asP_inv h3; clear h3
  obtain ⟨rfl, h5⟩ := asNil_inv h4; clear h4
  obtain ⟨a3, r3, rfl, h6⟩ := asCons_inv h5; clear h5
  obtain ⟨a4, rfl, h7⟩ := asOne_inv h6; clear h6
  obtain ⟨rfl, h8⟩ := asP_inv h7; clear h7
  obtain ⟨a5, r5, rfl, h9⟩ := asCons_inv h8; clear h8
  obtain ⟨x2, rfl, h10⟩ := asRw_inv h9; clear h9
  obtain ⟨rfl, h11⟩ := asNil_inv h10; clear h10
  exact ACall.spec2 (fn := Try.f24) (c := codeOf Try.f24) (S := ofL S24v2) (L := lofL L24v2) hS24v2 (by kernel_rfl) (by kernel_rfl) (inlOK _) (all_eq (by kernel_rfl : subsOf (E.info 24).keep (codeOf Try.f24) = [.loop (body Try.f24 1)]) (all_cons (loopOK_of (mk := 25000001) (sl := [1, 5, 6, 7]) (ss := [([1, 5, 6, 7], lsl24r1v2)]) (by kernel_rfl) (by kernel_rfl) (all_cons l24r1v2v (all_nil))) (all_nil))) (by kernel_rfl) h11.of

abbrev Sj10s19 : List (Nat × Pat × Sp) := [(24, none, sp24v2)]
theorem hSj10s19 : SpecOK E (ofL Sj10s19) := specOK_cons h24v2 (specOK_nil)
abbrev Lj10s19 : List (Nat × List Nat × Pat × LSp) := []
def lsj10s19 : LSp := fun vs σ K => asCons vs fun a1 r1 => asP (.ptr 0 0 []) a1 <| asCons r1 fun a2 r2 => asP (.ptr 1 0 []) a2 <| asCons r2 fun a3 r3 => asFn 24 a3 fun l4 l5 => asNil l4 <| asCons l5 fun a6 r6 => asP (.ptr 1 0 []) a6 <| asNil r6 <| asCons r3 fun a7 r7 => asD (.int .i64) a7 fun s1 => asCons r7 fun a8 r8 => asD .bool a8 fun s2 => asNil r8 <| asCons σ fun a9 r9 => asOne opT a9 fun a10 => asD opT a10 fun s3 => asCons r9 fun a11 r11 => asOne (.sl (.int .i64)) a11 fun a12 => asP (.vec 2) a12 <| asCons r11 fun a13 r13 => asRw (.int .i64) false a13 fun s4 => asNil r13 <| j10s19 (fun z1 => K .normal [(3, .ptr 0 0 [])] [.one (.sl (.int .i64)) (.vec 1), .row (.int .i64) z1 false]) s1 s2 s3 s4
theorem j10s19v : JoinV E (inlF (PA (ACall E)) E 8) (E.info 10).keep 0 Try.f10.ntmps 11500019 5000019 (jbody Try.f10 5000019) ([1, 3, 4, 7, 18], lsj10s19) := by
  intro vs σ K (h0 : lsj10s19 vs σ K)
  unfold lsj10s19 at h0
  obtain ⟨a1, r1, rfl, h1⟩ := asCons_inv h0; clear h0
  obtain ⟨rfl, h2⟩ := asP_inv h1; clear h1
  obtain ⟨a2, r2, rfl, h3⟩ := asCons_inv h2; clear h2
  obtain ⟨rfl, h4⟩ := asP_inv h3; clear h3
  obtain ⟨a3, r3, rfl, h5⟩ := asCons_inv h4; clear h4
  obtain ⟨l4, l5, rfl, h6⟩ := asFn_inv h5; clear h5
  obtain ⟨rfl, h7⟩ := asNil_inv h6; clear h6
  obtain ⟨a6, r6, rfl, h8⟩ := asCons_inv h7; clear h7
  obtain ⟨rfl, h9⟩ := asP_inv h8; clear h8
  obtain ⟨rfl, h10⟩ := asNil_inv h9; clear h9
  obtain ⟨a7, r7, rfl, h11⟩ := asCons_inv h10; clear h10
  obtain ⟨s1, rfl, h12⟩ := asD_inv h11; clear h11
  obtain ⟨a8, r8, rfl, h13⟩ := asCons_inv h12; clear h12
  obtain ⟨s2, rfl, h14⟩ := asD_inv h13; clear h13
  obtain ⟨rfl, h15⟩ := asNil_inv h14; clear h14
  obtain ⟨a9, r9, rfl, h16⟩ := asCons_inv h15; clear h15
  obtain ⟨a10, rfl, h17⟩ := asOne_inv h16; clear h16
  obtain ⟨s3, rfl, h18⟩ := asD_inv h17; clear h17
  obtain ⟨a11, r11, rfl, h19⟩ := asCons_inv h18; clear h18
  obtain ⟨a12, rfl, h20⟩ := asOne_inv h19; clear h19
  obtain ⟨rfl, h21⟩ := asP_inv h20; clear h20
  obtain ⟨a13, r13, rfl, h22⟩ := asCons_inv h21; clear h21
  obtain ⟨s4, rfl, h23⟩ := asRw_inv h22; clear h22
  obtain ⟨rfl, h24⟩ := asNil_inv h23; clear h23
  exact join_round2 (S := ofL Sj10s19) (L := lofL Lj10s19) hSj10s19 (inlOK _) (all_eq (by kernel_rfl : subsOf (E.info 10).keep (jbody Try.f10 5000019) = []) (all_nil)) (by kernel_rfl) h24.of

abbrev S10 : List (Nat × Pat × Sp) := [(24, none, sp24)]
theorem hS10 : SpecOK E (ofL S10) := specOK_cons h24 (specOK_nil)
abbrev L10 : List (Nat × List Nat × Pat × LSp) := [(11400030, [3], none, lsj10r30), (11500019, [1, 3, 4, 7, 18], none, lsj10s19)]
def sp10 : Sp := fun args τ K => asCons args fun a1 r1 => asD opT a1 fun x1 => asNil r1 <| asNil τ <| c10 x1 (fun z1 => K (.vec 0) [.row (.int .i64) z1 false])
theorem h10 : ∀ args τ K, sp10 args τ K → ACall E 10 args τ K := by
  intro args τ K h0
  unfold sp10 at h0
  obtain ⟨a1, r1, rfl, h1⟩ := asCons_inv h0; clear h0
  obtain ⟨x1, rfl, h2⟩ := asD_inv h1; clear h1
  obtain ⟨rfl, h3⟩ := asNil_inv h2; clear h2
  obtain ⟨rfl, h4⟩ := asNil_inv h3; clear h3
  exact ACall.spec2 (fn := Try.f10) (c := codeOf Try.f10) (S := ofL S10) (L := lofL L10) hS10 (by kernel_rfl) (by kernel_rfl) (inlOK _) (all_eq (by kernel_rfl : subsOf (E.info 10).keep (codeOf Try.f10) = [.join 4000030 (jbody Try.f10 4000030), .join 5000019 (jbody Try.f10 5000019)]) (all_cons (joinOK_of (mk := 11400030) (sl := [3]) (ss := [([3], lsj10r30)]) (by kernel_rfl) (by kernel_rfl) (all_cons j10r30v (all_nil))) (all_cons (joinOK_of (mk := 11500019) (sl := [1, 3, 4, 7, 18]) (ss := [([1, 3, 4, 7, 18], lsj10s19)]) (by kernel_rfl) (by kernel_rfl) (all_cons j10s19v (all_nil))) (all_nil)))) (by kernel_rfl) h4.of

abbrev Sl26r3 : List (Nat × Pat × Sp) := []
theorem hSl26r3 : SpecOK E (ofL Sl26r3) := specOK_nil
abbrev Ll26r3 : List (Nat × List Nat × Pat × LSp) := []
def lsl26r3 : LSp := fun vs σ K => asCons vs fun a1 r1 => asD (.int .i64) a1 fun s1 => asCons r1 fun a2 r2 => asP (.ptr 0 0 []) a2 <| asCons r2 fun a3 r3 => asP (.ptr 1 0 []) a3 <| asCons r3 fun a4 r4 => asD (.int .i64) a4 fun s2 => asCons r4 fun a5 r5 => asP (.vec 2) a5 <| asCons r5 fun a6 r6 => asD (.int .i64) a6 fun s3 => asCons r6 fun a7 r7 => asD (.int .i64) a7 fun s4 => asNil r7 <| asCons σ fun a8 r8 => asOne (.pair (.int .i64) (.pair (.int .i64) (.pair (.int .i64) (.pair (.arr 16 (.int .i64)) (.pair (.sl (.int .i64)) .unit))))) a8 fun a9 => asD (.pair (.int .i64) (.pair (.int .i64) (.pair (.int .i64) (.pair (.arr 16 (.int .i64)) (.pair (.sl (.int .i64)) .unit))))) a9 fun s5 => asCons r8 fun a10 r10 => asOne opT a10 fun a11 => asD opT a11 fun s6 => asCons r10 fun a12 r12 => asRw (.int .i64) false a12 fun s7 => asNil r12 <| l26r3 (fun z1 z2 z3 z4 => K (.exit 0) [(2, I z1), (3, .ptr 0 0 []), (4, .ptr 1 0 []), (7, I z2)] [.one (.pair (.int .i64) (.pair (.int .i64) (.pair (.int .i64) (.pair (.arr 16 (.int .i64)) (.pair (.sl (.int .i64)) .unit))))) (.d (.pair (.int .i64) (.pair (.int .i64) (.pair (.int .i64) (.pair (.arr 16 (.int .i64)) (.pair (.sl (.int .i64)) .unit))))) z3), .one opT (.d opT z4)]) s1 s2 s3 s4 s5 s6 s7
theorem l26r3v : LoopV E (inlF (PA (ACall E)) E 8) (E.info 26).keep 0 Try.f26.ntmps 27000003 (body Try.f26 3) ([2, 3, 4, 7, 14, 15, 16], lsl26r3) := by
  intro vs σ K (h0 : lsl26r3 vs σ K)
  unfold lsl26r3 at h0
  obtain ⟨a1, r1, rfl, h1⟩ := asCons_inv h0; clear h0
  obtain ⟨s1, rfl, h2⟩ := asD_inv h1; clear h1
  obtain ⟨a2, r2, rfl, h3⟩ := asCons_inv h2; clear h2
  obtain ⟨rfl, h4⟩ := asP_inv h3; clear h3
  obtain ⟨a3, r3, rfl, h5⟩ := asCons_inv h4; clear h4
  obtain ⟨rfl, h6⟩ := asP_inv h5; clear h5
  obtain ⟨a4, r4, rfl, h7⟩ := asCons_inv h6; clear h6
  obtain ⟨s2, rfl, h8⟩ := asD_inv h7; clear h7
  obtain ⟨a5, r5, rfl, h9⟩ := asCons_inv h8; clear h8
  obtain ⟨rfl, h10⟩ := asP_inv h9; clear h9
  obtain ⟨a6, r6, rfl, h11⟩ := asCons_inv h10; clear h10
  obtain ⟨s3, rfl, h12⟩ := asD_inv h11; clear h11
  obtain ⟨a7, r7, rfl, h13⟩ := asCons_inv h12; clear h12
  obtain ⟨s4, rfl, h14⟩ := asD_inv h13; clear h13
  obtain ⟨rfl, h15⟩ := asNil_inv h14; clear h14
  obtain ⟨a8, r8, rfl, h16⟩ := asCons_inv h15; clear h15
  obtain ⟨a9, rfl, h17⟩ := asOne_inv h16; clear h16
  obtain ⟨s5, rfl, h18⟩ := asD_inv h17; clear h17
  obtain ⟨a10, r10, rfl, h19⟩ := asCons_inv h18; clear h18
  obtain ⟨a11, rfl, h20⟩ := asOne_inv h19; clear h19
  obtain ⟨s6, rfl, h21⟩ := asD_inv h20; clear h20
  obtain ⟨a12, r12, rfl, h22⟩ := asCons_inv h21; clear h21
  obtain ⟨s7, rfl, h23⟩ := asRw_inv h22; clear h22
  obtain ⟨rfl, h24⟩ := asNil_inv h23; clear h23
  intro J hJ
  have hp : ∀ c' ∈ subsOf (E.info 26).keep (body Try.f26 3), SubOK E (inlF (PA (ACall E)) E 8) (E.info 26).keep 0 Try.f26.ntmps (lofL Ll26r3) c' := all_eq (by kernel_rfl : subsOf (E.info 26).keep (body Try.f26 3) = []) (all_nil)
  exact h24.of (fun s1 s2 s3 s4 s5 s6 s7 => J [(27000003, .undef), (2, I s1), (3, .ptr 0 0 []), (4, .ptr 1 0 []), (7, I s2), (14, .vec 2), (15, I s3), (16, I s4)] [.one (.pair (.int .i64) (.pair (.int .i64) (.pair (.int .i64) (.pair (.arr 16 (.int .i64)) (.pair (.sl (.int .i64)) .unit))))) (.d (.pair (.int .i64) (.pair (.int .i64) (.pair (.int .i64) (.pair (.arr 16 (.int .i64)) (.pair (.sl (.int .i64)) .unit))))) s5), .one opT (.d opT s6), .row (.int .i64) s7 false]) (fun s1 s2 s3 s4 s5 s6 s7 hb => loop_round2 (S := ofL Sl26r3) (L := lofL Ll26r3) hSl26r3 (inlOK _) hp hJ (by kernel_rfl) hb)

abbrev S27 : List (Nat × Pat × Sp) := []
theorem hS27 : SpecOK E (ofL S27) := specOK_nil
abbrev L27 : List (Nat × List Nat × Pat × LSp) := []
def sp27 : Sp := fun args τ K => asCons args fun a1 r1 => asD (.int .i64) a1 fun x1 => asNil r1 <| asNil τ <| c27 x1 (fun z1 => K (B z1) [])
theorem h27 : ∀ args τ K, sp27 args τ K → ACall E 27 args τ K := by
  intro args τ K h0
  unfold sp27 at h0
  obtain ⟨a1, r1, rfl, h1⟩ := asCons_inv h0; clear h0
  obtain ⟨x1, rfl, h2⟩ := asD_inv h1; clear h1
  obtain ⟨rfl, h3⟩ := asNil_inv h2; clear h2
  obtain ⟨rfl, h4⟩ := asNil_inv h3; clear h3
  exact ACall.spec2 (fn := Try.f27) (c := codeOf Try.f27) (S := ofL S27) (L := lofL L27) hS27 (by kernel_rfl) (by kernel_rfl) (inlOK _) (all_eq (by kernel_rfl : subsOf (E.info 27).keep (codeOf Try.f27) = []) (all_nil)) (by kernel_rfl) h4.of

abbrev S7 : List (Nat × Pat × Sp) := []
theorem hS7 : SpecOK E (ofL S7) := specOK_nil
abbrev L7 : List (Nat × List Nat × Pat × LSp) := []
def sp7 : Sp := fun args τ K => asCons args fun a1 r1 => asD opT a1 fun x1 => asNil r1 <| asNil τ <| c7 x1 (fun z1 => K (I z1) [])
theorem h7 : ∀ args τ K, sp7 args τ K → ACall E 7 args τ K := by
  intro args τ K h0
  unfold sp7 at h0
  obtain ⟨a1, r1, rfl, h1⟩ := asCons_inv h0; clear h0
  obtain ⟨x1, rfl, h2⟩ := asD_inv h1; clear h1
  obtain ⟨rfl, h3⟩ := asNil_inv h2; clear h2
  obtain ⟨rfl, h4⟩ := asNil_inv h3; clear h3
  exact ACall.spec2 (fn := Try.f7) (c := codeOf Try.f7) (S := ofL S7) (L := lofL L7) hS7 (by kernel_rfl) (by kernel_rfl) (inlOK _) (all_eq (by kernel_rfl : subsOf (E.info 7).keep (codeOf Try.f7) = []) (all_nil)) (by kernel_rfl) h4.of

abbrev Sl38r2 : List (Nat × Pat × Sp) := []
theorem hSl38r2 : SpecOK E (ofL Sl38r2) := specOK_nil
abbrev Ll38r2 : List (Nat × List Nat × Pat × LSp) := []
def lsl38r2 : LSp := fun vs σ K => asCons vs fun a1 r1 => asD (.sl (.int .i64)) a1 fun s1 => asCons r1 fun a2 r2 => asD (.int .i64) a2 fun s2 => asCons r2 fun a3 r3 => asD (.int .i64) a3 fun s3 => asCons r3 fun a4 r4 => asD (.int .i64) a4 fun s4 => asNil r4 <| asNil σ <| l38r2 (fun z1 => K .ret [(4, I z1)] []) (K (.exit 0) [(4, .undef)] []) s1 s2 s3 s4
theorem l38r2v : LoopV E (inlF (PA (ACall E)) E 8) (E.info 38).keep 0 Try.f38.ntmps 39000002 (body Try.f38 2) ([0, 1, 7, 8], lsl38r2) := by
  intro vs σ K (h0 : lsl38r2 vs σ K)
  unfold lsl38r2 at h0
  obtain ⟨a1, r1, rfl, h1⟩ := asCons_inv h0; clear h0
  obtain ⟨s1, rfl, h2⟩ := asD_inv h1; clear h1
  obtain ⟨a2, r2, rfl, h3⟩ := asCons_inv h2; clear h2
  obtain ⟨s2, rfl, h4⟩ := asD_inv h3; clear h3
  obtain ⟨a3, r3, rfl, h5⟩ := asCons_inv h4; clear h4
  obtain ⟨s3, rfl, h6⟩ := asD_inv h5; clear h5
  obtain ⟨a4, r4, rfl, h7⟩ := asCons_inv h6; clear h6
  obtain ⟨s4, rfl, h8⟩ := asD_inv h7; clear h7
  obtain ⟨rfl, h9⟩ := asNil_inv h8; clear h8
  obtain ⟨rfl, h10⟩ := asNil_inv h9; clear h9
  intro J hJ
  have hp : ∀ c' ∈ subsOf (E.info 38).keep (body Try.f38 2), SubOK E (inlF (PA (ACall E)) E 8) (E.info 38).keep 0 Try.f38.ntmps (lofL Ll38r2) c' := all_eq (by kernel_rfl : subsOf (E.info 38).keep (body Try.f38 2) = []) (all_nil)
  exact h10.of (fun s1 s2 s3 s4 => J [(39000002, .undef), (0, .d (.sl (.int .i64)) s1), (1, I s2), (7, I s3), (8, I s4)] []) (fun s1 s2 s3 s4 hb => loop_round2 (S := ofL Sl38r2) (L := lofL Ll38r2) hSl38r2 (inlOK _) hp hJ (by kernel_rfl) hb)

abbrev S38 : List (Nat × Pat × Sp) := []
theorem hS38 : SpecOK E (ofL S38) := specOK_nil
abbrev L38 : List (Nat × List Nat × Pat × LSp) := [(39000002, [0, 1, 7, 8], none, lsl38r2)]
def sp38 : Sp := fun args τ K => asCons args fun a1 r1 => asD (.sl (.int .i64)) a1 fun x1 => asCons r1 fun a2 r2 => asD (.int .i64) a2 fun x2 => asNil r2 <| asNil τ <| c38 x1 x2 (fun z1 => K (I z1) [])
theorem h38 : ∀ args τ K, sp38 args τ K → ACall E 38 args τ K := by
  intro args τ K h0
  unfold sp38 at h0
  obtain ⟨a1, r1, rfl, h1⟩ := asCons_inv h0; clear h0
  obtain ⟨x1, rfl, h2⟩ := asD_inv h1; clear h1
  obtain ⟨a2, r2, rfl, h3⟩ := asCons_inv h2; clear h2
  obtain ⟨x2, rfl, h4⟩ := asD_inv h3; clear h3
  obtain ⟨rfl, h5⟩ := asNil_inv h4; clear h4
  obtain ⟨rfl, h6⟩ := asNil_inv h5; clear h5
  exact ACall.spec2 (fn := Try.f38) (c := codeOf Try.f38) (S := ofL S38) (L := lofL L38) hS38 (by kernel_rfl) (by kernel_rfl) (inlOK _) (all_eq (by kernel_rfl : subsOf (E.info 38).keep (codeOf Try.f38) = [.loop (body Try.f38 2)]) (all_cons (loopOK_of (mk := 39000002) (sl := [0, 1, 7, 8]) (ss := [([0, 1, 7, 8], lsl38r2)]) (by kernel_rfl) (by kernel_rfl) (all_cons l38r2v (all_nil))) (all_nil))) (by kernel_rfl) h6.of

abbrev S33 : List (Nat × Pat × Sp) := [(38, none, sp38)]
theorem hS33 : SpecOK E (ofL S33) := specOK_cons h38 (specOK_nil)
abbrev L33 : List (Nat × List Nat × Pat × LSp) := []
def sp33 : Sp := fun args τ K => asCons args fun a1 r1 => asD (.sl (.int .i64)) a1 fun x1 => asCons r1 fun a2 r2 => asD (.int .i64) a2 fun x2 => asNil r2 <| asNil τ <| c33 x1 x2 (fun z1 => K (B z1) [])
theorem h33 : ∀ args τ K, sp33 args τ K → ACall E 33 args τ K := by
  intro args τ K h0
  unfold sp33 at h0
  obtain ⟨a1, r1, rfl, h1⟩ := asCons_inv h0; clear h0
  obtain ⟨x1, rfl, h2⟩ := asD_inv h1; clear h1
  obtain ⟨a2, r2, rfl, h3⟩ := asCons_inv h2; clear h2
  obtain ⟨x2, rfl, h4⟩ := asD_inv h3; clear h3
  obtain ⟨rfl, h5⟩ := asNil_inv h4; clear h4
  obtain ⟨rfl, h6⟩ := asNil_inv h5; clear h5
  exact ACall.spec2 (fn := Try.f33) (c := codeOf Try.f33) (S := ofL S33) (L := lofL L33) hS33 (by kernel_rfl) (by kernel_rfl) (inlOK _) (all_eq (by kernel_rfl : subsOf (E.info 33).keep (codeOf Try.f33) = []) (all_nil)) (by kernel_rfl) h6.of

abbrev Sl26r12 : List (Nat × Pat × Sp) := [(33, none, sp33)]
theorem hSl26r12 : SpecOK E (ofL Sl26r12) := specOK_cons h33 (specOK_nil)
abbrev Ll26r12 : List (Nat × List Nat × Pat × LSp) := []
def lsl26r12 : LSp := fun vs σ K => asCons vs fun a1 r1 => asD (.int .i64) a1 fun s1 => asCons r1 fun a2 r2 => asP (.ptr 0 0 []) a2 <| asCons r2 fun a3 r3 => asD (.int .i64) a3 fun s2 => asNil r3 <| asCons σ fun a4 r4 => asOne (.pair (.int .i64) (.pair (.int .i64) (.pair (.int .i64) (.pair (.arr 16 (.int .i64)) (.pair (.sl (.int .i64)) .unit))))) a4 fun a5 => asD (.pair (.int .i64) (.pair (.int .i64) (.pair (.int .i64) (.pair (.arr 16 (.int .i64)) (.pair (.sl (.int .i64)) .unit))))) a5 fun s3 => asNil r4 <| l26r12 (fun z1 => K (.exit 2) [(7, I z1)] []) s1 s2 s3
theorem l26r12v : LoopV E (inlF (PA (ACall E)) E 8) (E.info 26).keep 0 Try.f26.ntmps 27000012 (body Try.f26 12) ([2, 3, 7], lsl26r12) := by
  intro vs σ K (h0 : lsl26r12 vs σ K)
  unfold lsl26r12 at h0
  obtain ⟨a1, r1, rfl, h1⟩ := asCons_inv h0; clear h0
  obtain ⟨s1, rfl, h2⟩ := asD_inv h1; clear h1
  obtain ⟨a2, r2, rfl, h3⟩ := asCons_inv h2; clear h2
  obtain ⟨rfl, h4⟩ := asP_inv h3; clear h3
  obtain ⟨a3, r3, rfl, h5⟩ := asCons_inv h4; clear h4
  obtain ⟨s2, rfl, h6⟩ := asD_inv h5; clear h5
  obtain ⟨rfl, h7⟩ := asNil_inv h6; clear h6
  obtain ⟨a4, r4, rfl, h8⟩ := asCons_inv h7; clear h7
  obtain ⟨a5, rfl, h9⟩ := asOne_inv h8; clear h8
  obtain ⟨s3, rfl, h10⟩ := asD_inv h9; clear h9
  obtain ⟨rfl, h11⟩ := asNil_inv h10; clear h10
  intro J hJ
  have hp : ∀ c' ∈ subsOf (E.info 26).keep (body Try.f26 12), SubOK E (inlF (PA (ACall E)) E 8) (E.info 26).keep 0 Try.f26.ntmps (lofL Ll26r12) c' := all_eq (by kernel_rfl : subsOf (E.info 26).keep (body Try.f26 12) = []) (all_nil)
  exact h11.of (fun s1 s2 s3 => J [(27000012, .undef), (2, I s1), (3, .ptr 0 0 []), (7, I s2)] [.one (.pair (.int .i64) (.pair (.int .i64) (.pair (.int .i64) (.pair (.arr 16 (.int .i64)) (.pair (.sl (.int .i64)) .unit))))) (.d (.pair (.int .i64) (.pair (.int .i64) (.pair (.int .i64) (.pair (.arr 16 (.int .i64)) (.pair (.sl (.int .i64)) .unit))))) s3)]) (fun s1 s2 s3 hb => loop_round2 (S := ofL Sl26r12) (L := lofL Ll26r12) hSl26r12 (inlOK _) hp hJ (by kernel_rfl) hb)

abbrev S26 : List (Nat × Pat × Sp) := [(10, none, sp10), (27, none, sp27), (7, none, sp7)]
theorem hS26 : SpecOK E (ofL S26) := specOK_cons h10 (specOK_cons h27 (specOK_cons h7 (specOK_nil)))
abbrev L26 : List (Nat × List Nat × Pat × LSp) := [(27000003, [2, 3, 4, 7, 14, 15, 16], none, lsl26r3), (27000012, [2, 3, 7], none, lsl26r12)]
def sp26 : Sp := fun args τ K => asCons args fun a1 r1 => asD (.pair (.int .i64) (.pair (.int .i64) (.pair (.int .i64) (.pair (.arr 16 (.int .i64)) (.pair (.sl (.int .i64)) .unit))))) a1 fun x1 => asCons r1 fun a2 r2 => asD opT a2 fun x2 => asCons r2 fun a3 r3 => asD (.int .i64) a3 fun x3 => asNil r3 <| asNil τ <| c26 x1 x2 x3 (fun z1 => K (I z1) [])
theorem h26 : ∀ args τ K, sp26 args τ K → ACall E 26 args τ K := by
  intro args τ K h0
  unfold sp26 at h0
  obtain ⟨a1, r1, rfl, h1⟩ := asCons_inv h0; clear h0
  obtain ⟨x1, rfl, h2⟩ := asD_inv h1; clear h1
  obtain ⟨a2, r2, rfl, h3⟩ := asCons_inv h2; clear h2
  obtain ⟨x2, rfl, h4⟩ := asD_inv h3; clear h3
  obtain ⟨a3, r3, rfl, h5⟩ := asCons_inv h4; clear h4
  obtain ⟨x3, rfl, h6⟩ := asD_inv h5; clear h5
  obtain ⟨rfl, h7⟩ := asNil_inv h6; clear h6
  obtain ⟨rfl, h8⟩ := asNil_inv h7; clear h7
  exact ACall.spec2 (fn := Try.f26) (c := codeOf Try.f26) (S := ofL S26) (L := lofL L26) hS26 (by kernel_rfl) (by kernel_rfl) (inlOK _) (all_eq (by kernel_rfl : subsOf (E.info 26).keep (codeOf Try.f26) = [.loop (body Try.f26 3), .loop (body Try.f26 12)]) (all_cons (loopOK_of (mk := 27000003) (sl := [2, 3, 4, 7, 14, 15, 16]) (ss := [([2, 3, 4, 7, 14, 15, 16], lsl26r3)]) (by kernel_rfl) (by kernel_rfl) (all_cons l26r3v (all_nil))) (all_cons (loopOK_of (mk := 27000012) (sl := [2, 3, 7]) (ss := [([2, 3, 7], lsl26r12)]) (by kernel_rfl) (by kernel_rfl) (all_cons l26r12v (all_nil))) (all_nil)))) (by kernel_rfl) h8.of

abbrev Sl17r18 : List (Nat × Pat × Sp) := []
theorem hSl17r18 : SpecOK E (ofL Sl17r18) := specOK_nil
abbrev Ll17r18 : List (Nat × List Nat × Pat × LSp) := []
def lsl17r18 : LSp := fun vs σ K => asCons vs fun a1 r1 => asP (.ptr 1 0 []) a1 <| asCons r1 fun a2 r2 => asP (.ptr 2 0 []) a2 <| asCons r2 fun a3 r3 => asP (.ptr 3 0 []) a3 <| asCons r3 fun a4 r4 => asD (.int .i64) a4 fun s1 => asCons r4 fun a5 r5 => asD (.int .i64) a5 fun s2 => asCons r5 fun a6 r6 => asP (.vec 5) a6 <| asCons r6 fun a7 r7 => asP (.vec 0) a7 <| asCons r7 fun a8 r8 => asD (.int .i64) a8 fun s3 => asCons r8 fun a9 r9 => asD (.int .i64) a9 fun s4 => asNil r9 <| asCons σ fun a10 r10 => asRw (.int .i64) false a10 fun s5 => asCons r10 fun a11 r11 => asOne (.pair (.int .i64) (.pair (.int .i64) (.pair (.int .i64) (.pair (.arr 16 (.int .i64)) (.pair (.sl (.int .i64)) .unit))))) a11 fun a12 => asAgL a12 fun l13 => asCons l13 fun a14 r14 => asD (.int .i64) a14 fun s6 => asCons r14 fun a15 r15 => asD (.int .i64) a15 fun s7 => asCons r15 fun a16 r16 => asD (.int .i64) a16 fun s8 => asCons r16 fun a17 r17 => asD (.arr 16 (.int .i64)) a17 fun s9 => asCons r17 fun a18 r18 => asP (.vec 0) a18 <| asNil r18 <| asCons r11 fun a19 r19 => asOne opT a19 fun a20 => asD opT a20 fun s10 => asCons r19 fun a21 r21 => asOne (.pair (.int .i64) (.pair (.int .i64) (.pair (.int .i64) (.pair (.arr 16 (.int .i64)) (.pair (.sl (.int .i64)) .unit))))) a21 fun a22 => asAgL a22 fun l23 => asCons l23 fun a24 r24 => asD (.int .i64) a24 fun s11 => asCons r24 fun a25 r25 => asD (.int .i64) a25 fun s12 => asCons r25 fun a26 r26 => asD (.int .i64) a26 fun s13 => asCons r26 fun a27 r27 => asD (.arr 16 (.int .i64)) a27 fun s14 => asCons r27 fun a28 r28 => asP (.vec 4) a28 <| asNil r28 <| asCons r21 fun a29 r29 => asRw (.int .i64) false a29 fun s15 => asCons r29 fun a30 r30 => asRw (.int .i64) false a30 fun s16 => asNil r30 <| l17r18 (fun z1 z2 z3 z4 z5 z6 z7 z8 z9 z10 z11 z12 z13 z14 => K (.exit 0) [(3, .ptr 1 0 []), (4, .ptr 2 0 []), (6, .ptr 3 0 []), (12, I z1), (13, I z2), (14, .vec 5)] [.row (.int .i64) z3 false, .one (.pair (.int .i64) (.pair (.int .i64) (.pair (.int .i64) (.pair (.arr 16 (.int .i64)) (.pair (.sl (.int .i64)) .unit))))) (.agg [I z4, I z5, I z6, .d (.arr 16 (.int .i64)) z7, .vec 0]), .one opT (.d opT z8), .one (.pair (.int .i64) (.pair (.int .i64) (.pair (.int .i64) (.pair (.arr 16 (.int .i64)) (.pair (.sl (.int .i64)) .unit))))) (.agg [I z9, I z10, I z11, .d (.arr 16 (.int .i64)) z12, .vec 4]), .row (.int .i64) z13 false, .row (.int .i64) z14 false]) s1 s2 s3 s4 s5 s6 s7 s8 s9 s10 s11 s12 s13 s14 s15 s16
theorem l17r18v : LoopV E (inlF (PA (ACall E)) E 8) (E.info 17).keep 1 Try.f17.ntmps 18000018 (body Try.f17 18) ([3, 4, 6, 12, 13, 14, 67, 68, 69], lsl17r18) := by
  intro vs σ K (h0 : lsl17r18 vs σ K)
  unfold lsl17r18 at h0
  obtain ⟨a1, r1, rfl, h1⟩ := asCons_inv h0; clear h0
  obtain ⟨rfl, h2⟩ := asP_inv h1; clear h1
  obtain ⟨a2, r2, rfl, h3⟩ := asCons_inv h2; clear h2
  obtain ⟨rfl, h4⟩ := asP_inv h3; clear h3
  obtain ⟨a3, r3, rfl, h5⟩ := asCons_inv h4; clear h4
  obtain ⟨rfl, h6⟩ := asP_inv h5; clear h5
  obtain ⟨a4, r4, rfl, h7⟩ := asCons_inv h6; clear h6
  obtain ⟨s1, rfl, h8⟩ := asD_inv h7; clear h7
  obtain ⟨a5, r5, rfl, h9⟩ := asCons_inv h8; clear h8
  obtain ⟨s2, rfl, h10⟩ := asD_inv h9; clear h9
  obtain ⟨a6, r6, rfl, h11⟩ := asCons_inv h10; clear h10
  obtain ⟨rfl, h12⟩ := asP_inv h11; clear h11
  obtain ⟨a7, r7, rfl, h13⟩ := asCons_inv h12; clear h12
  obtain ⟨rfl, h14⟩ := asP_inv h13; clear h13
  obtain ⟨a8, r8, rfl, h15⟩ := asCons_inv h14; clear h14
  obtain ⟨s3, rfl, h16⟩ := asD_inv h15; clear h15
  obtain ⟨a9, r9, rfl, h17⟩ := asCons_inv h16; clear h16
  obtain ⟨s4, rfl, h18⟩ := asD_inv h17; clear h17
  obtain ⟨rfl, h19⟩ := asNil_inv h18; clear h18
  obtain ⟨a10, r10, rfl, h20⟩ := asCons_inv h19; clear h19
  obtain ⟨s5, rfl, h21⟩ := asRw_inv h20; clear h20
  obtain ⟨a11, r11, rfl, h22⟩ := asCons_inv h21; clear h21
  obtain ⟨a12, rfl, h23⟩ := asOne_inv h22; clear h22
  obtain ⟨l13, rfl, h24⟩ := asAgL_inv h23; clear h23
  obtain ⟨a14, r14, rfl, h25⟩ := asCons_inv h24; clear h24
  obtain ⟨s6, rfl, h26⟩ := asD_inv h25; clear h25
  obtain ⟨a15, r15, rfl, h27⟩ := asCons_inv h26; clear h26
  obtain ⟨s7, rfl, h28⟩ := asD_inv h27; clear h27
  obtain ⟨a16, r16, rfl, h29⟩ := asCons_inv h28; clear h28
  obtain ⟨s8, rfl, h30⟩ := asD_inv h29; clear h29
  obtain ⟨a17, r17, rfl, h31⟩ := asCons_inv h30; clear h30
  obtain ⟨s9, rfl, h32⟩ := asD_inv h31; clear h31
  obtain ⟨a18, r18, rfl, h33⟩ := asCons_inv h32; clear h32
  obtain ⟨rfl, h34⟩ := asP_inv h33; clear h33
  obtain ⟨rfl, h35⟩ := asNil_inv h34; clear h34
  obtain ⟨a19, r19, rfl, h36⟩ := asCons_inv h35; clear h35
  obtain ⟨a20, rfl, h37⟩ := asOne_inv h36; clear h36
  obtain ⟨s10, rfl, h38⟩ := asD_inv h37; clear h37
  obtain ⟨a21, r21, rfl, h39⟩ := asCons_inv h38; clear h38
  obtain ⟨a22, rfl, h40⟩ := asOne_inv h39; clear h39
  obtain ⟨l23, rfl, h41⟩ := asAgL_inv h40; clear h40
  obtain ⟨a24, r24, rfl, h42⟩ := asCons_inv h41; clear h41
  obtain ⟨s11, rfl, h43⟩ := asD_inv h42; clear h42
  obtain ⟨a25, r25, rfl, h44⟩ := asCons_inv h43; clear h43
  obtain ⟨s12, rfl, h45⟩ := asD_inv h44; clear h44
  obtain ⟨a26, r26, rfl, h46⟩ := asCons_inv h45; clear h45
  obtain ⟨s13, rfl, h47⟩ := asD_inv h46; clear h46
  obtain ⟨a27, r27, rfl, h48⟩ := asCons_inv h47; clear h47
  obtain ⟨s14, rfl, h49⟩ := asD_inv h48; clear h48
  obtain ⟨a28, r28, rfl, h50⟩ := asCons_inv h49; clear h49
  obtain ⟨rfl, h51⟩ := asP_inv h50; clear h50
  obtain ⟨rfl, h52⟩ := asNil_inv h51; clear h51
  obtain ⟨a29, r29, rfl, h53⟩ := asCons_inv h52; clear h52
  obtain ⟨s15, rfl, h54⟩ := asRw_inv h53; clear h53
  obtain ⟨a30, r30, rfl, h55⟩ := asCons_inv h54; clear h54
  obtain ⟨s16, rfl, h56⟩ := asRw_inv h55; clear h55
  obtain ⟨rfl, h57⟩ := asNil_inv h56; clear h56
  intro J hJ
  have hp : ∀ c' ∈ subsOf (E.info 17).keep (body Try.f17 18), SubOK E (inlF (PA (ACall E)) E 8) (E.info 17).keep 1 Try.f17.ntmps (lofL Ll17r18) c' := all_eq (by kernel_rfl : subsOf (E.info 17).keep (body Try.f17 18) = []) (all_nil)
  exact h57.of (fun s1 s2 s3 s4 s5 s6 s7 s8 s9 s10 s11 s12 s13 s14 s15 s16 => J [(18000018, .undef), (3, .ptr 1 0 []), (4, .ptr 2 0 []), (6, .ptr 3 0 []), (12, I s1), (13, I s2), (14, .vec 5), (67, .vec 0), (68, I s3), (69, I s4)] [.row (.int .i64) s5 false, .one (.pair (.int .i64) (.pair (.int .i64) (.pair (.int .i64) (.pair (.arr 16 (.int .i64)) (.pair (.sl (.int .i64)) .unit))))) (.agg [I s6, I s7, I s8, .d (.arr 16 (.int .i64)) s9, .vec 0]), .one opT (.d opT s10), .one (.pair (.int .i64) (.pair (.int .i64) (.pair (.int .i64) (.pair (.arr 16 (.int .i64)) (.pair (.sl (.int .i64)) .unit))))) (.agg [I s11, I s12, I s13, .d (.arr 16 (.int .i64)) s14, .vec 4]), .row (.int .i64) s15 false, .row (.int .i64) s16 false]) (fun s1 s2 s3 s4 s5 s6 s7 s8 s9 s10 s11 s12 s13 s14 s15 s16 hb => loop_round2 (S := ofL Sl17r18) (L := lofL Ll17r18) hSl17r18 (inlOK _) hp hJ (by kernel_rfl) hb)

abbrev S39 : List (Nat × Pat × Sp) := []
theorem hS39 : SpecOK E (ofL S39) := specOK_nil
abbrev L39 : List (Nat × List Nat × Pat × LSp) := []
def sp39 : Sp := fun args τ K => asCons args fun a1 r1 => asD (.int .i64) a1 fun x1 => asNil r1 <| asNil τ <| c39 x1 (fun z1 => K (B z1) [])
theorem h39 : ∀ args τ K, sp39 args τ K → ACall E 39 args τ K := by
  intro args τ K h0
  unfold sp39 at h0
  obtain ⟨a1, r1, rfl, h1⟩ := asCons_inv h0; clear h0
  obtain ⟨x1, rfl, h2⟩ := asD_inv h1; clear h1
  obtain ⟨rfl, h3⟩ := asNil_inv h2; clear h2
  obtain ⟨rfl, h4⟩ := asNil_inv h3; clear h3
  exact ACall.spec2 (fn := Try.f39) (c := codeOf Try.f39) (S := ofL S39) (L := lofL L39) hS39 (by kernel_rfl) (by kernel_rfl) (inlOK _) (all_eq (by kernel_rfl : subsOf (E.info 39).keep (codeOf Try.f39) = []) (all_nil)) (by kernel_rfl) h4.of

abbrev S34 : List (Nat × Pat × Sp) := [(39, none, sp39)]
theorem hS34 : SpecOK E (ofL S34) := specOK_cons h39 (specOK_nil)
abbrev L34 : List (Nat × List Nat × Pat × LSp) := []
def sp34 : Sp := fun args τ K => asCons args fun a1 r1 => asD (.int .i64) a1 fun x1 => asCons r1 fun a2 r2 => asD (.int .i64) a2 fun x2 => asNil r2 <| asNil τ <| c34 x1 x2 (fun z1 => K (B z1) [])
theorem h34 : ∀ args τ K, sp34 args τ K → ACall E 34 args τ K := by
  intro args τ K h0
  unfold sp34 at h0
  obtain ⟨a1, r1, rfl, h1⟩ := asCons_inv h0; clear h0
  obtain ⟨x1, rfl, h2⟩ := asD_inv h1; clear h1
  obtain ⟨a2, r2, rfl, h3⟩ := asCons_inv h2; clear h2
  obtain ⟨x2, rfl, h4⟩ := asD_inv h3; clear h3
  obtain ⟨rfl, h5⟩ := asNil_inv h4; clear h4
  obtain ⟨rfl, h6⟩ := asNil_inv h5; clear h5
  exact ACall.spec2 (fn := Try.f34) (c := codeOf Try.f34) (S := ofL S34) (L := lofL L34) hS34 (by kernel_rfl) (by kernel_rfl) (inlOK _) (all_eq (by kernel_rfl : subsOf (E.info 34).keep (codeOf Try.f34) = []) (all_nil)) (by kernel_rfl) h6.of

abbrev Sl28r3 : List (Nat × Pat × Sp) := [(34, none, sp34)]
theorem hSl28r3 : SpecOK E (ofL Sl28r3) := specOK_cons h34 (specOK_nil)
abbrev Ll28r3 : List (Nat × List Nat × Pat × LSp) := []
def lsl28r3 : LSp := fun vs σ K => asCons vs fun a1 r1 => asD (.sl (.int .i64)) a1 fun s1 => asCons r1 fun a2 r2 => asD (.int .i64) a2 fun s2 => asCons r2 fun a3 r3 => asD (.int .i64) a3 fun s3 => asCons r3 fun a4 r4 => asD (.int .i64) a4 fun s4 => asCons r4 fun a5 r5 => asD (.int .i64) a5 fun s5 => asNil r5 <| asNil σ <| l28r3 (fun z1 z2 z3 z4 => K (.exit 0) [(0, .d (.sl (.int .i64)) z1), (1, I z2), (6, I z3), (7, I z4)] []) s1 s2 s3 s4 s5
theorem l28r3v : LoopV E (inlF (PA (ACall E)) E 8) (E.info 28).keep 0 Try.f28.ntmps 29000003 (body Try.f28 3) ([0, 1, 6, 7, 8], lsl28r3) := by
  intro vs σ K (h0 : lsl28r3 vs σ K)
  unfold lsl28r3 at h0
  obtain ⟨a1, r1, rfl, h1⟩ := asCons_inv h0; clear h0
  obtain ⟨s1, rfl, h2⟩ := asD_inv h1; clear h1
  obtain ⟨a2, r2, rfl, h3⟩ := asCons_inv h2; clear h2
  obtain ⟨s2, rfl, h4⟩ := asD_inv h3; clear h3
  obtain ⟨a3, r3, rfl, h5⟩ := asCons_inv h4; clear h4
  obtain ⟨s3, rfl, h6⟩ := asD_inv h5; clear h5
  obtain ⟨a4, r4, rfl, h7⟩ := asCons_inv h6; clear h6
  obtain ⟨s4, rfl, h8⟩ := asD_inv h7; clear h7
  obtain ⟨a5, r5, rfl, h9⟩ := asCons_inv h8; clear h8
  obtain ⟨s5, rfl, h10⟩ := asD_inv h9; clear h9
  obtain ⟨rfl, h11⟩ := asNil_inv h10; clear h10
  obtain ⟨rfl, h12⟩ := asNil_inv h11; clear h11
  intro J hJ
  have hp : ∀ c' ∈ subsOf (E.info 28).keep (body Try.f28 3), SubOK E (inlF (PA (ACall E)) E 8) (E.info 28).keep 0 Try.f28.ntmps (lofL Ll28r3) c' := all_eq (by kernel_rfl : subsOf (E.info 28).keep (body Try.f28 3) = []) (all_nil)
  exact h12.of (fun s1 s2 s3 s4 s5 => J [(29000003, .undef), (0, .d (.sl (.int .i64)) s1), (1, I s2), (6, I s3), (7, I s4), (8, I s5)] []) (fun s1 s2 s3 s4 s5 hb => loop_round2 (S := ofL Sl28r3) (L := lofL Ll28r3) hSl28r3 (inlOK _) hp hJ (by kernel_rfl) hb)

abbrev S35 : List (Nat × Pat × Sp) := []
theorem hS35 : SpecOK E (ofL S35) := specOK_nil
abbrev L35 : List (Nat × List Nat × Pat × LSp) := []
def sp35 : Sp := fun args τ K => asCons args fun a1 r1 => asD (.int .i64) a1 fun x1 => asNil r1 <| asNil τ <| c35 x1 (fun z1 => K (B z1) [])
theorem h35 : ∀ args τ K, sp35 args τ K → ACall E 35 args τ K := by
  intro args τ K h0
  unfold sp35 at h0
  obtain ⟨a1, r1, rfl, h1⟩ := asCons_inv h0; clear h0
  obtain ⟨x1, rfl, h2⟩ := asD_inv h1; clear h1
  obtain ⟨rfl, h3⟩ := asNil_inv h2; clear h2
  obtain ⟨rfl, h4⟩ := asNil_inv h3; clear h3
  exact ACall.spec2 (fn := Try.f35) (c := codeOf Try.f35) (S := ofL S35) (L := lofL L35) hS35 (by kernel_rfl) (by kernel_rfl) (inlOK _) (all_eq (by kernel_rfl : subsOf (E.info 35).keep (codeOf Try.f35) = []) (all_nil)) (by kernel_rfl) h4.of

abbrev S28 : List (Nat × Pat × Sp) := [(35, none, sp35)]
theorem hS28 : SpecOK E (ofL S28) := specOK_cons h35 (specOK_nil)
abbrev L28 : List (Nat × List Nat × Pat × LSp) := [(29000003, [0, 1, 6, 7, 8], none, lsl28r3)]
def sp28 : Sp := fun args τ K => asCons args fun a1 r1 => asD (.sl (.int .i64)) a1 fun x1 => asCons r1 fun a2 r2 => asD (.int .i64) a2 fun x2 => asNil r2 <| asNil τ <| c28 x1 x2 (fun z1 z2 => K (.tup [I z1, B z2]) [])
theorem h28 : ∀ args τ K, sp28 args τ K → ACall E 28 args τ K := by
  intro args τ K h0
  unfold sp28 at h0
  obtain ⟨a1, r1, rfl, h1⟩ := asCons_inv h0; clear h0
  obtain ⟨x1, rfl, h2⟩ := asD_inv h1; clear h1
  obtain ⟨a2, r2, rfl, h3⟩ := asCons_inv h2; clear h2
  obtain ⟨x2, rfl, h4⟩ := asD_inv h3; clear h3
  obtain ⟨rfl, h5⟩ := asNil_inv h4; clear h4
  obtain ⟨rfl, h6⟩ := asNil_inv h5; clear h5
  exact ACall.spec2 (fn := Try.f28) (c := codeOf Try.f28) (S := ofL S28) (L := lofL L28) hS28 (by kernel_rfl) (by kernel_rfl) (inlOK _) (all_eq (by kernel_rfl : subsOf (E.info 28).keep (codeOf Try.f28) = [.loop (body Try.f28 3)]) (all_cons (loopOK_of (mk := 29000003) (sl := [0, 1, 6, 7, 8]) (ss := [([0, 1, 6, 7, 8], lsl28r3)]) (by kernel_rfl) (by kernel_rfl) (all_cons l28r3v (all_nil))) (all_nil))) (by kernel_rfl) h6.of

abbrev S17 : List (Nat × Pat × Sp) := [(15, none, sp15), (25, none, sp25), (5, none, sp5), (26, none, sp26), (27, none, sp27), (7, none, sp7), (28, none, sp28)]
theorem hS17 : SpecOK E (ofL S17) := specOK_cons h15 (specOK_cons h25 (specOK_cons h5 (specOK_cons h26 (specOK_cons h27 (specOK_cons h7 (specOK_cons h28 (specOK_nil)))))))
abbrev L17 : List (Nat × List Nat × Pat × LSp) := [(18000018, [3, 4, 6, 12, 13, 14, 67, 68, 69], none, lsl17r18)]
def sp17 : Sp := fun args τ K => asCons args fun a1 r1 => asAgL a1 fun l2 => asCons l2 fun a3 r3 => asD (.int .i64) a3 fun x1 => asCons r3 fun a4 r4 => asD (.int .i64) a4 fun x2 => asCons r4 fun a5 r5 => asD (.int .i64) a5 fun x3 => asCons r5 fun a6 r6 => asD (.arr 16 (.int .i64)) a6 fun x4 => asCons r6 fun a7 r7 => asP (.vec 0) a7 <| asNil r7 <| asCons r1 fun a8 r8 => asD opT a8 fun x5 => asCons r8 fun a9 r9 => asD (.int .i64) a9 fun x6 => asNil r9 <| asCons τ fun a10 r10 => asRw (.int .i64) false a10 fun x7 => asNil r10 <| c17 x1 x2 x3 x4 x5 x6 x7 (fun z1 z2 z3 z4 z5 z6 z7 z8 => K (.tup [.agg [I z1, I z2, I z3, .d (.arr 16 (.int .i64)) z4, .vec 1], I z5, I z6]) [.row (.int .i64) z7 false, .row (.int .i64) z8 false])
theorem h17 : ∀ args τ K, sp17 args τ K → ACall E 17 args τ K := by
  intro args τ K h0
  unfold sp17 at h0
  obtain ⟨a1, r1, rfl, h1⟩ := asCons_inv h0; clear h0
  obtain ⟨l2, rfl, h2⟩ := asAgL_inv h1; clear h1
  obtain ⟨a3, r3, rfl, h3⟩ := asCons_inv h2; clear h2
  obtain ⟨x1, rfl, h4⟩ := asD_inv h3; clear h3
  obtain ⟨a4, r4, rfl, h5⟩ := asCons_inv h4; clear h4
  obtain ⟨x2, rfl, h6⟩ := asD_inv h5; clear h5
  obtain ⟨a5, r5, rfl, h7⟩ := asCons_inv h6; clear h6
  obtain ⟨x3, rfl, h8⟩ := asD_inv h7; clear h7
  obtain ⟨a6, r6, rfl, h9⟩ := asCons_inv h8; clear h8
  obtain ⟨x4, rfl, h10⟩ := asD_inv h9; clear h9
  obtain ⟨a7, r7, rfl, h11⟩ := asCons_inv h10; clear h10
  obtain ⟨rfl, h12⟩ := asP_inv h11; clear h11
  obtain ⟨rfl, h13⟩ := asNil_inv h12; clear h12
  obtain ⟨a8, r8, rfl, h14⟩ := asCons_inv h13; clear h13
  obtain ⟨x5, rfl, h15⟩ := asD_inv h14; clear h14
  obtain ⟨a9, r9, rfl, h16⟩ := asCons_inv h15; clear h15
  obtain ⟨x6, rfl, h17⟩ := asD_inv h16; clear h16
  obtain ⟨rfl, h18⟩ := asNil_inv h17; clear h17
  obtain ⟨a10, r10, rfl, h19⟩ := asCons_inv h18; clear h18
  obtain ⟨x7, rfl, h20⟩ := asRw_inv h19; clear h19
  obtain ⟨rfl, h21⟩ := asNil_inv h20; clear h20
  exact ACall.spec2 (fn := Try.f17) (c := codeOf Try.f17) (S := ofL S17) (L := lofL L17) hS17 (by kernel_rfl) (by kernel_rfl) (inlOK _) (all_eq (by kernel_rfl : subsOf (E.info 17).keep (codeOf Try.f17) = [.loop (body Try.f17 18)]) (all_cons (loopOK_of (mk := 18000018) (sl := [3, 4, 6, 12, 13, 14, 67, 68, 69]) (ss := [([3, 4, 6, 12, 13, 14, 67, 68, 69], lsl17r18)]) (by kernel_rfl) (by kernel_rfl) (all_cons l17r18v (all_nil))) (all_nil))) (by kernel_rfl) h21.of

abbrev Sl20r14 : List (Nat × Pat × Sp) := [(17, none, sp17)]
theorem hSl20r14 : SpecOK E (ofL Sl20r14) := specOK_cons h17 (specOK_nil)
abbrev Ll20r14 : List (Nat × List Nat × Pat × LSp) := []
def lsl20r14 : LSp := fun vs σ K => asCons vs fun a1 r1 => asP (.ptr 0 0 []) a1 <| asCons r1 fun a2 r2 => asD (.sl (.pair (.int .i64) (.pair (.int .i64) (.pair (.int .i64) (.pair (.int .i64) (.pair (.int .i64) .unit)))))) a2 fun s1 => asCons r2 fun a3 r3 => asD (.int .i64) a3 fun s2 => asCons r3 fun a4 r4 => asD (.int .i64) a4 fun s3 => asNil r4 <| asCons σ fun a5 r5 => asOne (.pair (.int .i64) (.pair (.int .i64) (.pair (.int .i64) (.pair (.arr 16 (.int .i64)) (.pair (.sl (.int .i64)) .unit))))) a5 fun a6 => asAgL a6 fun l7 => asCons l7 fun a8 r8 => asD (.int .i64) a8 fun s4 => asCons r8 fun a9 r9 => asD (.int .i64) a9 fun s5 => asCons r9 fun a10 r10 => asD (.int .i64) a10 fun s6 => asCons r10 fun a11 r11 => asD (.arr 16 (.int .i64)) a11 fun s7 => asCons r11 fun a12 r12 => asP (.vec 1) a12 <| asNil r12 <| asCons r5 fun a13 r13 => asRw (.int .i64) false a13 fun s8 => asNil r13 <| l20r14 (fun z1 z2 z3 z4 z5 => K (.exit 2) [(7, .ptr 0 0 [])] [.one (.pair (.int .i64) (.pair (.int .i64) (.pair (.int .i64) (.pair (.arr 16 (.int .i64)) (.pair (.sl (.int .i64)) .unit))))) (.agg [I z1, I z2, I z3, .d (.arr 16 (.int .i64)) z4, .vec 1]), .row (.int .i64) z5 false]) s1 s2 s3 s4 s5 s6 s7 s8
theorem l20r14v : LoopV E (inlF (PA (ACall E)) E 8) (E.info 20).keep 0 Try.f20.ntmps 21000014 (body Try.f20 14) ([7, 29, 30, 31], lsl20r14) := by
  intro vs σ K (h0 : lsl20r14 vs σ K)
  unfold lsl20r14 at h0
  obtain ⟨a1, r1, rfl, h1⟩ := asCons_inv h0; clear h0
  obtain ⟨rfl, h2⟩ := asP_inv h1; clear h1
  obtain ⟨a2, r2, rfl, h3⟩ := asCons_inv h2; clear h2
  obtain ⟨s1, rfl, h4⟩ := asD_inv h3; clear h3
  obtain ⟨a3, r3, rfl, h5⟩ := asCons_inv h4; clear h4
  obtain ⟨s2, rfl, h6⟩ := asD_inv h5; clear h5
  obtain ⟨a4, r4, rfl, h7⟩ := asCons_inv h6; clear h6
  obtain ⟨s3, rfl, h8⟩ := asD_inv h7; clear h7
  obtain ⟨rfl, h9⟩ := asNil_inv h8; clear h8
  obtain ⟨a5, r5, rfl, h10⟩ := asCons_inv h9; clear h9
  obtain ⟨a6, rfl, h11⟩ := asOne_inv h10; clear h10
  obtain ⟨l7, rfl, h12⟩ := asAgL_inv h11; clear h11
  obtain ⟨a8, r8, rfl, h13⟩ := asCons_inv h12; clear h12
  obtain ⟨s4, rfl, h14⟩ := asD_inv h13; clear h13
  obtain ⟨a9, r9, rfl, h15⟩ := asCons_inv h14; clear h14
  obtain ⟨s5, rfl, h16⟩ := asD_inv h15; clear h15
  obtain ⟨a10, r10, rfl, h17⟩ := asCons_inv h16; clear h16
  obtain ⟨s6, rfl, h18⟩ := asD_inv h17; clear h17
  obtain ⟨a11, r11, rfl, h19⟩ := asCons_inv h18; clear h18
  obtain ⟨s7, rfl, h20⟩ := asD_inv h19; clear h19
  obtain ⟨a12, r12, rfl, h21⟩ := asCons_inv h20; clear h20
  obtain ⟨rfl, h22⟩ := asP_inv h21; clear h21
  obtain ⟨rfl, h23⟩ := asNil_inv h22; clear h22
  obtain ⟨a13, r13, rfl, h24⟩ := asCons_inv h23; clear h23
  obtain ⟨s8, rfl, h25⟩ := asRw_inv h24; clear h24
  obtain ⟨rfl, h26⟩ := asNil_inv h25; clear h25
  intro J hJ
  have hp : ∀ c' ∈ subsOf (E.info 20).keep (body Try.f20 14), SubOK E (inlF (PA (ACall E)) E 8) (E.info 20).keep 0 Try.f20.ntmps (lofL Ll20r14) c' := all_eq (by kernel_rfl : subsOf (E.info 20).keep (body Try.f20 14) = []) (all_nil)
  exact h26.of (fun s1 s2 s3 s4 s5 s6 s7 s8 => J [(21000014, .undef), (7, .ptr 0 0 []), (29, .d (.sl (.pair (.int .i64) (.pair (.int .i64) (.pair (.int .i64) (.pair (.int .i64) (.pair (.int .i64) .unit)))))) s1), (30, I s2), (31, I s3)] [.one (.pair (.int .i64) (.pair (.int .i64) (.pair (.int .i64) (.pair (.arr 16 (.int .i64)) (.pair (.sl (.int .i64)) .unit))))) (.agg [I s4, I s5, I s6, .d (.arr 16 (.int .i64)) s7, .vec 1]), .row (.int .i64) s8 false]) (fun s1 s2 s3 s4 s5 s6 s7 s8 hb => loop_round2 (S := ofL Sl20r14) (L := lofL Ll20r14) hSl20r14 (inlOK _) hp hJ (by kernel_rfl) hb)

abbrev S20 : List (Nat × Pat × Sp) := []
theorem hS20 : SpecOK E (ofL S20) := specOK_nil
abbrev L20 : List (Nat × List Nat × Pat × LSp) := [(21000004, [0, 13, 14, 15], none, lsl20r4), (21000014, [7, 29, 30, 31], none, lsl20r14)]
def sp20 : Sp := fun args τ K => asCons args fun a1 r1 => asD (.sl (.pair (.int .i64) (.pair (.int .i64) (.pair (.int .i64) (.pair (.int .i64) (.pair (.int .i64) .unit)))))) a1 fun x1 => asNil r1 <| asNil τ <| c20 x1 (fun z1 z2 => K (.tup [I z1, I z2]) [])
theorem h20 : ∀ args τ K, sp20 args τ K → ACall E 20 args τ K := by
  intro args τ K h0
  unfold sp20 at h0
  obtain ⟨a1, r1, rfl, h1⟩ := asCons_inv h0; clear h0
  obtain ⟨x1, rfl, h2⟩ := asD_inv h1; clear h1
  obtain ⟨rfl, h3⟩ := asNil_inv h2; clear h2
  obtain ⟨rfl, h4⟩ := asNil_inv h3; clear h3
  exact ACall.spec2 (fn := Try.f20) (c := codeOf Try.f20) (S := ofL S20) (L := lofL L20) hS20 (by kernel_rfl) (by kernel_rfl) (inlOK _) (all_eq (by kernel_rfl : subsOf (E.info 20).keep (codeOf Try.f20) = [.loop (body Try.f20 4), .loop (body Try.f20 14)]) (all_cons (loopOK_of (mk := 21000004) (sl := [0, 13, 14, 15]) (ss := [([0, 13, 14, 15], lsl20r4)]) (by kernel_rfl) (by kernel_rfl) (all_cons l20r4v (all_nil))) (all_cons (loopOK_of (mk := 21000014) (sl := [7, 29, 30, 31]) (ss := [([7, 29, 30, 31], lsl20r14)]) (by kernel_rfl) (by kernel_rfl) (all_cons l20r14v (all_nil))) (all_nil)))) (by kernel_rfl) h4.of

abbrev S4 : List (Nat × Pat × Sp) := [(20, none, sp20)]
theorem hS4 : SpecOK E (ofL S4) := specOK_cons h20 (specOK_nil)
abbrev L4 : List (Nat × List Nat × Pat × LSp) := []
def sp4 : Sp := fun args τ K => asNil args <| asNil τ <| c4  (fun z1 => K (B z1) [])
theorem h4 : ∀ args τ K, sp4 args τ K → ACall E 4 args τ K := by
  intro args τ K h0
  unfold sp4 at h0
  obtain ⟨rfl, h1⟩ := asNil_inv h0; clear h0
  obtain ⟨rfl, h2⟩ := asNil_inv h1; clear h1
  exact ACall.spec2 (fn := Try.f4) (c := codeOf Try.f4) (S := ofL S4) (L := lofL L4) hS4 (by kernel_rfl) (by kernel_rfl) (inlOK _) (all_eq (by kernel_rfl : subsOf (E.info 4).keep (codeOf Try.f4) = []) (all_nil)) (by kernel_rfl) h2.of

abbrev S6 : List (Nat × Pat × Sp) := []
theorem hS6 : SpecOK E (ofL S6) := specOK_nil
abbrev L6 : List (Nat × List Nat × Pat × LSp) := []
def sp6 : Sp := fun args τ K => asCons args fun a1 r1 => asD (.int .i64) a1 fun x1 => asNil r1 <| asNil τ <| c6 x1 (fun z1 => K (I z1) [])
theorem h6 : ∀ args τ K, sp6 args τ K → ACall E 6 args τ K := by
  intro args τ K h0
  unfold sp6 at h0
  obtain ⟨a1, r1, rfl, h1⟩ := asCons_inv h0; clear h0
  obtain ⟨x1, rfl, h2⟩ := asD_inv h1; clear h1
  obtain ⟨rfl, h3⟩ := asNil_inv h2; clear h2
  obtain ⟨rfl, h4⟩ := asNil_inv h3; clear h3
  exact ACall.spec2 (fn := Try.f6) (c := codeOf Try.f6) (S := ofL S6) (L := lofL L6) hS6 (by kernel_rfl) (by kernel_rfl) (inlOK _) (all_eq (by kernel_rfl : subsOf (E.info 6).keep (codeOf Try.f6) = []) (all_nil)) (by kernel_rfl) h4.of

abbrev S21 : List (Nat × Pat × Sp) := []
theorem hS21 : SpecOK E (ofL S21) := specOK_nil
abbrev L21 : List (Nat × List Nat × Pat × LSp) := []
def sp21 : Sp := fun args τ K => asCons args fun a1 r1 => asD (.int .i64) a1 fun x1 => asCons r1 fun a2 r2 => asD (.int .i64) a2 fun x2 => asCons r2 fun a3 r3 => asD (.int .i64) a3 fun x3 => asNil r3 <| asNil τ <| c21 x1 x2 x3 (fun z1 => K (B z1) [])
theorem h21 : ∀ args τ K, sp21 args τ K → ACall E 21 args τ K := by
  intro args τ K h0
  unfold sp21 at h0
  obtain ⟨a1, r1, rfl, h1⟩ := asCons_inv h0; clear h0
  obtain ⟨x1, rfl, h2⟩ := asD_inv h1; clear h1
  obtain ⟨a2, r2, rfl, h3⟩ := asCons_inv h2; clear h2
  obtain ⟨x2, rfl, h4⟩ := asD_inv h3; clear h3
  obtain ⟨a3, r3, rfl, h5⟩ := asCons_inv h4; clear h4
  obtain ⟨x3, rfl, h6⟩ := asD_inv h5; clear h5
  obtain ⟨rfl, h7⟩ := asNil_inv h6; clear h6
  obtain ⟨rfl, h8⟩ := asNil_inv h7; clear h7
  exact ACall.spec2 (fn := Try.f21) (c := codeOf Try.f21) (S := ofL S21) (L := lofL L21) hS21 (by kernel_rfl) (by kernel_rfl) (inlOK _) (all_eq (by kernel_rfl : subsOf (E.info 21).keep (codeOf Try.f21) = []) (all_nil)) (by kernel_rfl) h8.of

abbrev S23 : List (Nat × Pat × Sp) := []
theorem hS23 : SpecOK E (ofL S23) := specOK_nil
abbrev L23 : List (Nat × List Nat × Pat × LSp) := []
def sp23 : Sp := fun args τ K => asNil args <| asNil τ <| c23  (fun z1 => K (.vec 0) [.row .str z1 false])
theorem h23 : ∀ args τ K, sp23 args τ K → ACall E 23 args τ K := by
  intro args τ K h0
  unfold sp23 at h0
  obtain ⟨rfl, h1⟩ := asNil_inv h0; clear h0
  obtain ⟨rfl, h2⟩ := asNil_inv h1; clear h1
  exact ACall.spec2 (fn := Try.f23) (c := codeOf Try.f23) (S := ofL S23) (L := lofL L23) hS23 (by kernel_rfl) (by kernel_rfl) (inlOK _) (all_eq (by kernel_rfl : subsOf (E.info 23).keep (codeOf Try.f23) = []) (all_nil)) (by kernel_rfl) h2.of

abbrev Sl22r2 : List (Nat × Pat × Sp) := []
theorem hSl22r2 : SpecOK E (ofL Sl22r2) := specOK_nil
abbrev Ll22r2 : List (Nat × List Nat × Pat × LSp) := []
def lsl22r2 : LSp := fun vs σ K => asCons vs fun a1 r1 => asD .str a1 fun s1 => asCons r1 fun a2 r2 => asD (.int .u8) a2 fun s2 => asCons r2 fun a3 r3 => asD (.int .i64) a3 fun s3 => asCons r3 fun a4 r4 => asD (.int .i64) a4 fun s4 => asNil r4 <| asNil σ <| l22r2 (fun z1 => K .ret [(4, B z1)] []) (K (.exit 0) [(4, .undef)] []) s1 s2 s3 s4
theorem l22r2v : LoopV E (inlF (PA (ACall E)) E 8) (E.info 22).keep 0 Try.f22.ntmps 23000002 (body Try.f22 2) ([0, 1, 7, 8], lsl22r2) := by
  intro vs σ K (h0 : lsl22r2 vs σ K)
  unfold lsl22r2 at h0
  obtain ⟨a1, r1, rfl, h1⟩ := asCons_inv h0; clear h0
  obtain ⟨s1, rfl, h2⟩ := asD_inv h1; clear h1
  obtain ⟨a2, r2, rfl, h3⟩ := asCons_inv h2; clear h2
  obtain ⟨s2, rfl, h4⟩ := asD_inv h3; clear h3
  obtain ⟨a3, r3, rfl, h5⟩ := asCons_inv h4; clear h4
  obtain ⟨s3, rfl, h6⟩ := asD_inv h5; clear h5
  obtain ⟨a4, r4, rfl, h7⟩ := asCons_inv h6; clear h6
  obtain ⟨s4, rfl, h8⟩ := asD_inv h7; clear h7
  obtain ⟨rfl, h9⟩ := asNil_inv h8; clear h8
  obtain ⟨rfl, h10⟩ := asNil_inv h9; clear h9
  intro J hJ
  have hp : ∀ c' ∈ subsOf (E.info 22).keep (body Try.f22 2), SubOK E (inlF (PA (ACall E)) E 8) (E.info 22).keep 0 Try.f22.ntmps (lofL Ll22r2) c' := all_eq (by kernel_rfl : subsOf (E.info 22).keep (body Try.f22 2) = []) (all_nil)
  exact h10.of (fun s1 s2 s3 s4 => J [(23000002, .undef), (0, .d .str s1), (1, .d (.int .u8) s2), (7, I s3), (8, I s4)] []) (fun s1 s2 s3 s4 hb => loop_round2 (S := ofL Sl22r2) (L := lofL Ll22r2) hSl22r2 (inlOK _) hp hJ (by kernel_rfl) hb)

abbrev S22 : List (Nat × Pat × Sp) := []
theorem hS22 : SpecOK E (ofL S22) := specOK_nil
abbrev L22 : List (Nat × List Nat × Pat × LSp) := [(23000002, [0, 1, 7, 8], none, lsl22r2)]
def sp22 : Sp := fun args τ K => asCons args fun a1 r1 => asD .str a1 fun x1 => asCons r1 fun a2 r2 => asD (.int .u8) a2 fun x2 => asNil r2 <| asNil τ <| c22 x1 x2 (fun z1 => K (B z1) [])
theorem h22 : ∀ args τ K, sp22 args τ K → ACall E 22 args τ K := by
  intro args τ K h0
  unfold sp22 at h0
  obtain ⟨a1, r1, rfl, h1⟩ := asCons_inv h0; clear h0
  obtain ⟨x1, rfl, h2⟩ := asD_inv h1; clear h1
  obtain ⟨a2, r2, rfl, h3⟩ := asCons_inv h2; clear h2
  obtain ⟨x2, rfl, h4⟩ := asD_inv h3; clear h3
  obtain ⟨rfl, h5⟩ := asNil_inv h4; clear h4
  obtain ⟨rfl, h6⟩ := asNil_inv h5; clear h5
  exact ACall.spec2 (fn := Try.f22) (c := codeOf Try.f22) (S := ofL S22) (L := lofL L22) hS22 (by kernel_rfl) (by kernel_rfl) (inlOK _) (all_eq (by kernel_rfl : subsOf (E.info 22).keep (codeOf Try.f22) = [.loop (body Try.f22 2)]) (all_cons (loopOK_of (mk := 23000002) (sl := [0, 1, 7, 8]) (ss := [([0, 1, 7, 8], lsl22r2)]) (by kernel_rfl) (by kernel_rfl) (all_cons l22r2v (all_nil))) (all_nil))) (by kernel_rfl) h6.of

abbrev S8 : List (Nat × Pat × Sp) := [(21, none, sp21), (23, none, sp23), (22, none, sp22)]
theorem hS8 : SpecOK E (ofL S8) := specOK_cons h21 (specOK_cons h23 (specOK_cons h22 (specOK_nil)))
abbrev L8 : List (Nat × List Nat × Pat × LSp) := []
def sp8 : Sp := fun args τ K => asCons args fun a1 r1 => asD opT a1 fun x1 => asNil r1 <| asNil τ <| c8 x1 (fun z1 => K (I z1) [])
theorem h8 : ∀ args τ K, sp8 args τ K → ACall E 8 args τ K := by
  intro args τ K h0
  unfold sp8 at h0
  obtain ⟨a1, r1, rfl, h1⟩ := asCons_inv h0; clear h0
  obtain ⟨x1, rfl, h2⟩ := asD_inv h1; clear h1
  obtain ⟨rfl, h3⟩ := asNil_inv h2; clear h2
  obtain ⟨rfl, h4⟩ := asNil_inv h3; clear h3
  exact ACall.spec2 (fn := Try.f8) (c := codeOf Try.f8) (S := ofL S8) (L := lofL L8) hS8 (by kernel_rfl) (by kernel_rfl) (inlOK _) (all_eq (by kernel_rfl : subsOf (E.info 8).keep (codeOf Try.f8) = []) (all_nil)) (by kernel_rfl) h4.of

abbrev Sl11r6 : List (Nat × Pat × Sp) := []
theorem hSl11r6 : SpecOK E (ofL Sl11r6) := specOK_nil
abbrev Ll11r6 : List (Nat × List Nat × Pat × LSp) := []
def lsl11r6 : LSp := fun vs σ K => asCons vs fun a1 r1 => asP (.ptr 0 0 []) a1 <| asCons r1 fun a2 r2 => asP (.vec 1) a2 <| asCons r2 fun a3 r3 => asD (.sl (.int .u8)) a3 fun s1 => asCons r3 fun a4 r4 => asD (.int .i64) a4 fun s2 => asCons r4 fun a5 r5 => asD (.int .i64) a5 fun s3 => asNil r5 <| asCons σ fun a6 r6 => asOne opT a6 fun a7 => asD opT a7 fun s4 => asCons r6 fun a8 r8 => asRw (.int .i64) false a8 fun s5 => asNil r8 <| l11r6 (fun z1 => K (.exit 0) [(4, .vec 0)] [.row (.int .i64) z1 false]) s1 s2 s3 s4 s5
theorem l11r6v : LoopV E (inlF (PA (ACall E)) E 8) (E.info 11).keep 0 Try.f11.ntmps 12000006 (body Try.f11 6) ([1, 4, 24, 25, 26], lsl11r6) := by
  intro vs σ K (h0 : lsl11r6 vs σ K)
  unfold lsl11r6 at h0
  obtain ⟨a1, r1, rfl, h1⟩ := asCons_inv h0; clear h0
  obtain ⟨rfl, h2⟩ := asP_inv h1; clear h1
  obtain ⟨a2, r2, rfl, h3⟩ := asCons_inv h2; clear h2
  obtain ⟨rfl, h4⟩ := asP_inv h3; clear h3
  obtain ⟨a3, r3, rfl, h5⟩ := asCons_inv h4; clear h4
  obtain ⟨s1, rfl, h6⟩ := asD_inv h5; clear h5
  obtain ⟨a4, r4, rfl, h7⟩ := asCons_inv h6; clear h6
  obtain ⟨s2, rfl, h8⟩ := asD_inv h7; clear h7
  obtain ⟨a5, r5, rfl, h9⟩ := asCons_inv h8; clear h8
  obtain ⟨s3, rfl, h10⟩ := asD_inv h9; clear h9
  obtain ⟨rfl, h11⟩ := asNil_inv h10; clear h10
  obtain ⟨a6, r6, rfl, h12⟩ := asCons_inv h11; clear h11
  obtain ⟨a7, rfl, h13⟩ := asOne_inv h12; clear h12
  obtain ⟨s4, rfl, h14⟩ := asD_inv h13; clear h13
  obtain ⟨a8, r8, rfl, h15⟩ := asCons_inv h14; clear h14
  obtain ⟨s5, rfl, h16⟩ := asRw_inv h15; clear h15
  obtain ⟨rfl, h17⟩ := asNil_inv h16; clear h16
  intro J hJ
  have hp : ∀ c' ∈ subsOf (E.info 11).keep (body Try.f11 6), SubOK E (inlF (PA (ACall E)) E 8) (E.info 11).keep 0 Try.f11.ntmps (lofL Ll11r6) c' := all_eq (by kernel_rfl : subsOf (E.info 11).keep (body Try.f11 6) = []) (all_nil)
  exact h17.of (fun s1 s2 s3 s4 s5 => J [(12000006, .undef), (1, .ptr 0 0 []), (4, .vec 1), (24, .d (.sl (.int .u8)) s1), (25, I s2), (26, I s3)] [.one opT (.d opT s4), .row (.int .i64) s5 false]) (fun s1 s2 s3 s4 s5 hb => loop_round2 (S := ofL Sl11r6) (L := lofL Ll11r6) hSl11r6 (inlOK _) hp hJ (by kernel_rfl) hb)

abbrev S11 : List (Nat × Pat × Sp) := []
theorem hS11 : SpecOK E (ofL S11) := specOK_nil
abbrev L11 : List (Nat × List Nat × Pat × LSp) := [(12000006, [1, 4, 24, 25, 26], none, lsl11r6)]
def sp11 : Sp := fun args τ K => asCons args fun a1 r1 => asD opT a1 fun x1 => asNil r1 <| asNil τ <| c11 x1 (fun z1 => K (.vec 0) [.row (.int .i64) z1 false])
theorem h11 : ∀ args τ K, sp11 args τ K → ACall E 11 args τ K := by
  intro args τ K h0
  unfold sp11 at h0
  obtain ⟨a1, r1, rfl, h1⟩ := asCons_inv h0; clear h0
  obtain ⟨x1, rfl, h2⟩ := asD_inv h1; clear h1
  obtain ⟨rfl, h3⟩ := asNil_inv h2; clear h2
  obtain ⟨rfl, h4⟩ := asNil_inv h3; clear h3
  exact ACall.spec2 (fn := Try.f11) (c := codeOf Try.f11) (S := ofL S11) (L := lofL L11) hS11 (by kernel_rfl) (by kernel_rfl) (inlOK _) (all_eq (by kernel_rfl : subsOf (E.info 11).keep (codeOf Try.f11) = [.loop (body Try.f11 6)]) (all_cons (loopOK_of (mk := 12000006) (sl := [1, 4, 24, 25, 26]) (ss := [([1, 4, 24, 25, 26], lsl11r6)]) (by kernel_rfl) (by kernel_rfl) (all_cons l11r6v (all_nil))) (all_nil))) (by kernel_rfl) h4.of

abbrev Sl9r4 : List (Nat × Pat × Sp) := []
theorem hSl9r4 : SpecOK E (ofL Sl9r4) := specOK_nil
abbrev Ll9r4 : List (Nat × List Nat × Pat × LSp) := []
def lsl9r4 : LSp := fun vs σ K => asCons vs fun a1 r1 => asD (.sl (.int .i64)) a1 fun s1 => asCons r1 fun a2 r2 => asD (.sl (.int .i64)) a2 fun s2 => asCons r2 fun a3 r3 => asD (.int .i64) a3 fun s3 => asCons r3 fun a4 r4 => asD (.int .i64) a4 fun s4 => asNil r4 <| asNil σ <| l9r4 (fun z1 => K .ret [(4, B z1)] []) (K (.exit 0) [(4, .undef)] []) s1 s2 s3 s4
theorem l9r4v : LoopV E (inlF (PA (ACall E)) E 8) (E.info 9).keep 0 Try.f9.ntmps 10000004 (body Try.f9 4) ([0, 1, 12, 13], lsl9r4) := by
  intro vs σ K (h0 : lsl9r4 vs σ K)
  unfold lsl9r4 at h0
  obtain ⟨a1, r1, rfl, h1⟩ := asCons_inv h0; clear h0
  obtain ⟨s1, rfl, h2⟩ := asD_inv h1; clear h1
  obtain ⟨a2, r2, rfl, h3⟩ := asCons_inv h2; clear h2
  obtain ⟨s2, rfl, h4⟩ := asD_inv h3; clear h3
  obtain ⟨a3, r3, rfl, h5⟩ := asCons_inv h4; clear h4
  obtain ⟨s3, rfl, h6⟩ := asD_inv h5; clear h5
  obtain ⟨a4, r4, rfl, h7⟩ := asCons_inv h6; clear h6
  obtain ⟨s4, rfl, h8⟩ := asD_inv h7; clear h7
  obtain ⟨rfl, h9⟩ := asNil_inv h8; clear h8
  obtain ⟨rfl, h10⟩ := asNil_inv h9; clear h9
  intro J hJ
  have hp : ∀ c' ∈ subsOf (E.info 9).keep (body Try.f9 4), SubOK E (inlF (PA (ACall E)) E 8) (E.info 9).keep 0 Try.f9.ntmps (lofL Ll9r4) c' := all_eq (by kernel_rfl : subsOf (E.info 9).keep (body Try.f9 4) = []) (all_nil)
  exact h10.of (fun s1 s2 s3 s4 => J [(10000004, .undef), (0, .d (.sl (.int .i64)) s1), (1, .d (.sl (.int .i64)) s2), (12, I s3), (13, I s4)] []) (fun s1 s2 s3 s4 hb => loop_round2 (S := ofL Sl9r4) (L := lofL Ll9r4) hSl9r4 (inlOK _) hp hJ (by kernel_rfl) hb)

abbrev S9 : List (Nat × Pat × Sp) := []
theorem hS9 : SpecOK E (ofL S9) := specOK_nil
abbrev L9 : List (Nat × List Nat × Pat × LSp) := [(10000004, [0, 1, 12, 13], none, lsl9r4)]
def sp9 : Sp := fun args τ K => asCons args fun a1 r1 => asD (.sl (.int .i64)) a1 fun x1 => asCons r1 fun a2 r2 => asD (.sl (.int .i64)) a2 fun x2 => asNil r2 <| asNil τ <| c9 x1 x2 (fun z1 => K (B z1) [])
theorem h9 : ∀ args τ K, sp9 args τ K → ACall E 9 args τ K := by
  intro args τ K h0
  unfold sp9 at h0
  obtain ⟨a1, r1, rfl, h1⟩ := asCons_inv h0; clear h0
  obtain ⟨x1, rfl, h2⟩ := asD_inv h1; clear h1
  obtain ⟨a2, r2, rfl, h3⟩ := asCons_inv h2; clear h2
  obtain ⟨x2, rfl, h4⟩ := asD_inv h3; clear h3
  obtain ⟨rfl, h5⟩ := asNil_inv h4; clear h4
  obtain ⟨rfl, h6⟩ := asNil_inv h5; clear h5
  exact ACall.spec2 (fn := Try.f9) (c := codeOf Try.f9) (S := ofL S9) (L := lofL L9) hS9 (by kernel_rfl) (by kernel_rfl) (inlOK _) (all_eq (by kernel_rfl : subsOf (E.info 9).keep (codeOf Try.f9) = [.loop (body Try.f9 4)]) (all_cons (loopOK_of (mk := 10000004) (sl := [0, 1, 12, 13]) (ss := [([0, 1, 12, 13], lsl9r4)]) (by kernel_rfl) (by kernel_rfl) (all_cons l9r4v (all_nil))) (all_nil))) (by kernel_rfl) h6.of

abbrev S13 : List (Nat × Pat × Sp) := []
theorem hS13 : SpecOK E (ofL S13) := specOK_nil
abbrev L13 : List (Nat × List Nat × Pat × LSp) := []
def sp13 : Sp := fun args τ K => asCons args fun a1 r1 => asD (.int .i64) a1 fun x1 => asNil r1 <| asNil τ <| c13 x1 (fun z1 => K (B z1) [])
theorem h13 : ∀ args τ K, sp13 args τ K → ACall E 13 args τ K := by
  intro args τ K h0
  unfold sp13 at h0
  obtain ⟨a1, r1, rfl, h1⟩ := asCons_inv h0; clear h0
  obtain ⟨x1, rfl, h2⟩ := asD_inv h1; clear h1
  obtain ⟨rfl, h3⟩ := asNil_inv h2; clear h2
  obtain ⟨rfl, h4⟩ := asNil_inv h3; clear h3
  exact ACall.spec2 (fn := Try.f13) (c := codeOf Try.f13) (S := ofL S13) (L := lofL L13) hS13 (by kernel_rfl) (by kernel_rfl) (inlOK _) (all_eq (by kernel_rfl : subsOf (E.info 13).keep (codeOf Try.f13) = []) (all_nil)) (by kernel_rfl) h4.of

abbrev Sl14r4 : List (Nat × Pat × Sp) := []
theorem hSl14r4 : SpecOK E (ofL Sl14r4) := specOK_nil
abbrev Ll14r4 : List (Nat × List Nat × Pat × LSp) := []
def lsl14r4 : LSp := fun vs σ K => asCons vs fun a1 r1 => asP (.ptr 0 0 []) a1 <| asCons r1 fun a2 r2 => asD (.arr 16 (.int .i64)) a2 fun s1 => asCons r2 fun a3 r3 => asD (.int .i64) a3 fun s2 => asNil r3 <| asCons σ fun a4 r4 => asOne (.pair (.int .i64) (.pair (.int .i64) (.pair (.int .i64) (.pair (.arr 16 (.int .i64)) (.pair (.sl (.int .i64)) .unit))))) a4 fun a5 => asD (.pair (.int .i64) (.pair (.int .i64) (.pair (.int .i64) (.pair (.arr 16 (.int .i64)) (.pair (.sl (.int .i64)) .unit))))) a5 fun s3 => asNil r4 <| l14r4 (fun z1 => K .ret [(1, .undef), (2, I z1)] []) (fun z1 => K (.exit 0) [(1, .ptr 0 0 []), (2, .undef)] [.one (.pair (.int .i64) (.pair (.int .i64) (.pair (.int .i64) (.pair (.arr 16 (.int .i64)) (.pair (.sl (.int .i64)) .unit))))) (.d (.pair (.int .i64) (.pair (.int .i64) (.pair (.int .i64) (.pair (.arr 16 (.int .i64)) (.pair (.sl (.int .i64)) .unit))))) z1)]) s1 s2 s3
theorem l14r4v : LoopV E (inlF (PA (ACall E)) E 8) (E.info 14).keep 0 Try.f14.ntmps 15000004 (body Try.f14 4) ([1, 27, 28], lsl14r4) := by
  intro vs σ K (h0 : lsl14r4 vs σ K)
  unfold lsl14r4 at h0
  obtain ⟨a1, r1, rfl, h1⟩ := asCons_inv h0; clear h0
  obtain ⟨rfl, h2⟩ := asP_inv h1; clear h1
  obtain ⟨a2, r2, rfl, h3⟩ := asCons_inv h2; clear h2
  obtain ⟨s1, rfl, h4⟩ := asD_inv h3; clear h3
  obtain ⟨a3, r3, rfl, h5⟩ := asCons_inv h4; clear h4
  obtain ⟨s2, rfl, h6⟩ := asD_inv h5; clear h5
  obtain ⟨rfl, h7⟩ := asNil_inv h6; clear h6
  obtain ⟨a4, r4, rfl, h8⟩ := asCons_inv h7; clear h7
  obtain ⟨a5, rfl, h9⟩ := asOne_inv h8; clear h8
  obtain ⟨s3, rfl, h10⟩ := asD_inv h9; clear h9
  obtain ⟨rfl, h11⟩ := asNil_inv h10; clear h10
  intro J hJ
  have hp : ∀ c' ∈ subsOf (E.info 14).keep (body Try.f14 4), SubOK E (inlF (PA (ACall E)) E 8) (E.info 14).keep 0 Try.f14.ntmps (lofL Ll14r4) c' := all_eq (by kernel_rfl : subsOf (E.info 14).keep (body Try.f14 4) = []) (all_nil)
  exact h11.of (fun s1 s2 s3 => J [(15000004, .undef), (1, .ptr 0 0 []), (27, .d (.arr 16 (.int .i64)) s1), (28, I s2)] [.one (.pair (.int .i64) (.pair (.int .i64) (.pair (.int .i64) (.pair (.arr 16 (.int .i64)) (.pair (.sl (.int .i64)) .unit))))) (.d (.pair (.int .i64) (.pair (.int .i64) (.pair (.int .i64) (.pair (.arr 16 (.int .i64)) (.pair (.sl (.int .i64)) .unit))))) s3)]) (fun s1 s2 s3 hb => loop_round2 (S := ofL Sl14r4) (L := lofL Ll14r4) hSl14r4 (inlOK _) hp hJ (by kernel_rfl) hb)

abbrev Sl14r10 : List (Nat × Pat × Sp) := []
theorem hSl14r10 : SpecOK E (ofL Sl14r10) := specOK_nil
abbrev Ll14r10 : List (Nat × List Nat × Pat × LSp) := []
def lsl14r10 : LSp := fun vs σ K => asCons vs fun a1 r1 => asP (.ptr 0 0 []) a1 <| asCons r1 fun a2 r2 => asD (.sl (.int .i64)) a2 fun s1 => asCons r2 fun a3 r3 => asD (.int .i64) a3 fun s2 => asCons r3 fun a4 r4 => asD (.int .i64) a4 fun s3 => asNil r4 <| asCons σ fun a5 r5 => asOne (.pair (.int .i64) (.pair (.int .i64) (.pair (.int .i64) (.pair (.arr 16 (.int .i64)) (.pair (.sl (.int .i64)) .unit))))) a5 fun a6 => asD (.pair (.int .i64) (.pair (.int .i64) (.pair (.int .i64) (.pair (.arr 16 (.int .i64)) (.pair (.sl (.int .i64)) .unit))))) a6 fun s4 => asNil r5 <| l14r10 (fun z1 => K .ret [(2, I z1)] []) (K (.exit 2) [(2, .undef)] []) s1 s2 s3 s4
theorem l14r10v : LoopV E (inlF (PA (ACall E)) E 8) (E.info 14).keep 0 Try.f14.ntmps 15000010 (body Try.f14 10) ([1, 35, 36, 37], lsl14r10) := by
  intro vs σ K (h0 : lsl14r10 vs σ K)
  unfold lsl14r10 at h0
  obtain ⟨a1, r1, rfl, h1⟩ := asCons_inv h0; clear h0
  obtain ⟨rfl, h2⟩ := asP_inv h1; clear h1
  obtain ⟨a2, r2, rfl, h3⟩ := asCons_inv h2; clear h2
  obtain ⟨s1, rfl, h4⟩ := asD_inv h3; clear h3
  obtain ⟨a3, r3, rfl, h5⟩ := asCons_inv h4; clear h4
  obtain ⟨s2, rfl, h6⟩ := asD_inv h5; clear h5
  obtain ⟨a4, r4, rfl, h7⟩ := asCons_inv h6; clear h6
  obtain ⟨s3, rfl, h8⟩ := asD_inv h7; clear h7
  obtain ⟨rfl, h9⟩ := asNil_inv h8; clear h8
  obtain ⟨a5, r5, rfl, h10⟩ := asCons_inv h9; clear h9
  obtain ⟨a6, rfl, h11⟩ := asOne_inv h10; clear h10
  obtain ⟨s4, rfl, h12⟩ := asD_inv h11; clear h11
  obtain ⟨rfl, h13⟩ := asNil_inv h12; clear h12
  intro J hJ
  have hp : ∀ c' ∈ subsOf (E.info 14).keep (body Try.f14 10), SubOK E (inlF (PA (ACall E)) E 8) (E.info 14).keep 0 Try.f14.ntmps (lofL Ll14r10) c' := all_eq (by kernel_rfl : subsOf (E.info 14).keep (body Try.f14 10) = []) (all_nil)
  exact h13.of (fun s1 s2 s3 s4 => J [(15000010, .undef), (1, .ptr 0 0 []), (35, .d (.sl (.int .i64)) s1), (36, I s2), (37, I s3)] [.one (.pair (.int .i64) (.pair (.int .i64) (.pair (.int .i64) (.pair (.arr 16 (.int .i64)) (.pair (.sl (.int .i64)) .unit))))) (.d (.pair (.int .i64) (.pair (.int .i64) (.pair (.int .i64) (.pair (.arr 16 (.int .i64)) (.pair (.sl (.int .i64)) .unit))))) s4)]) (fun s1 s2 s3 s4 hb => loop_round2 (S := ofL Sl14r10) (L := lofL Ll14r10) hSl14r10 (inlOK _) hp hJ (by kernel_rfl) hb)

abbrev S14 : List (Nat × Pat × Sp) := []
theorem hS14 : SpecOK E (ofL S14) := specOK_nil
abbrev L14 : List (Nat × List Nat × Pat × LSp) := [(15000004, [1, 27, 28], none, lsl14r4), (15000010, [1, 35, 36, 37], none, lsl14r10)]
def sp14 : Sp := fun args τ K => asCons args fun a1 r1 => asD (.pair (.int .i64) (.pair (.int .i64) (.pair (.int .i64) (.pair (.arr 16 (.int .i64)) (.pair (.sl (.int .i64)) .unit))))) a1 fun x1 => asNil r1 <| asNil τ <| c14 x1 (fun z1 => K (I z1) [])
theorem h14 : ∀ args τ K, sp14 args τ K → ACall E 14 args τ K := by
  intro args τ K h0
  unfold sp14 at h0
  obtain ⟨a1, r1, rfl, h1⟩ := asCons_inv h0; clear h0
  obtain ⟨x1, rfl, h2⟩ := asD_inv h1; clear h1
  obtain ⟨rfl, h3⟩ := asNil_inv h2; clear h2
  obtain ⟨rfl, h4⟩ := asNil_inv h3; clear h3
  exact ACall.spec2 (fn := Try.f14) (c := codeOf Try.f14) (S := ofL S14) (L := lofL L14) hS14 (by kernel_rfl) (by kernel_rfl) (inlOK _) (all_eq (by kernel_rfl : subsOf (E.info 14).keep (codeOf Try.f14) = [.loop (body Try.f14 4), .loop (body Try.f14 10)]) (all_cons (loopOK_of (mk := 15000004) (sl := [1, 27, 28]) (ss := [([1, 27, 28], lsl14r4)]) (by kernel_rfl) (by kernel_rfl) (all_cons l14r4v (all_nil))) (all_cons (loopOK_of (mk := 15000010) (sl := [1, 35, 36, 37]) (ss := [([1, 35, 36, 37], lsl14r10)]) (by kernel_rfl) (by kernel_rfl) (all_cons l14r10v (all_nil))) (all_nil)))) (by kernel_rfl) h4.of

abbrev Sl16r4 : List (Nat × Pat × Sp) := []
theorem hSl16r4 : SpecOK E (ofL Sl16r4) := specOK_nil
abbrev Ll16r4 : List (Nat × List Nat × Pat × LSp) := []
def lsl16r4 : LSp := fun vs σ K => asCons vs fun a1 r1 => asP (.ptr 0 0 []) a1 <| asCons r1 fun a2 r2 => asP (.vec 1) a2 <| asCons r2 fun a3 r3 => asD (.int .i64) a3 fun s1 => asCons r3 fun a4 r4 => asD (.int .i64) a4 fun s2 => asNil r4 <| asCons σ fun a5 r5 => asOne opT a5 fun a6 => asD opT a6 fun s3 => asCons r5 fun a7 r7 => asRw (.int .i64) false a7 fun s4 => asNil r7 <| l16r4 (fun z1 => K .ret [(1, .undef), (2, I z1)] []) (fun z1 => K (.exit 0) [(1, .ptr 0 0 []), (2, .undef)] [.one opT (.d opT z1)]) s1 s2 s3 s4
theorem l16r4v : LoopV E (inlF (PA (ACall E)) E 8) (E.info 16).keep 0 Try.f16.ntmps 17000004 (body Try.f16 4) ([1, 24, 25, 26], lsl16r4) := by
  intro vs σ K (h0 : lsl16r4 vs σ K)
  unfold lsl16r4 at h0
  obtain ⟨a1, r1, rfl, h1⟩ := asCons_inv h0; clear h0
  obtain ⟨rfl, h2⟩ := asP_inv h1; clear h1
  obtain ⟨a2, r2, rfl, h3⟩ := asCons_inv h2; clear h2
  obtain ⟨rfl, h4⟩ := asP_inv h3; clear h3
  obtain ⟨a3, r3, rfl, h5⟩ := asCons_inv h4; clear h4
  obtain ⟨s1, rfl, h6⟩ := asD_inv h5; clear h5
  obtain ⟨a4, r4, rfl, h7⟩ := asCons_inv h6; clear h6
  obtain ⟨s2, rfl, h8⟩ := asD_inv h7; clear h7
  obtain ⟨rfl, h9⟩ := asNil_inv h8; clear h8
  obtain ⟨a5, r5, rfl, h10⟩ := asCons_inv h9; clear h9
  obtain ⟨a6, rfl, h11⟩ := asOne_inv h10; clear h10
  obtain ⟨s3, rfl, h12⟩ := asD_inv h11; clear h11
  obtain ⟨a7, r7, rfl, h13⟩ := asCons_inv h12; clear h12
  obtain ⟨s4, rfl, h14⟩ := asRw_inv h13; clear h13
  obtain ⟨rfl, h15⟩ := asNil_inv h14; clear h14
  intro J hJ
  have hp : ∀ c' ∈ subsOf (E.info 16).keep (body Try.f16 4), SubOK E (inlF (PA (ACall E)) E 8) (E.info 16).keep 0 Try.f16.ntmps (lofL Ll16r4) c' := all_eq (by kernel_rfl : subsOf (E.info 16).keep (body Try.f16 4) = []) (all_nil)
  exact h15.of (fun s1 s2 s3 s4 => J [(17000004, .undef), (1, .ptr 0 0 []), (24, .vec 1), (25, I s1), (26, I s2)] [.one opT (.d opT s3), .row (.int .i64) s4 false]) (fun s1 s2 s3 s4 hb => loop_round2 (S := ofL Sl16r4) (L := lofL Ll16r4) hSl16r4 (inlOK _) hp hJ (by kernel_rfl) hb)

abbrev Sl16r13 : List (Nat × Pat × Sp) := [(22, none, sp22)]
theorem hSl16r13 : SpecOK E (ofL Sl16r13) := specOK_cons h22 (specOK_nil)
abbrev Ll16r13 : List (Nat × List Nat × Pat × LSp) := []
def lsl16r13 : LSp := fun vs σ K => asCons vs fun a1 r1 => asP (.ptr 0 0 []) a1 <| asCons r1 fun a2 r2 => asD .str a2 fun s1 => asCons r2 fun a3 r3 => asP (.vec 1) a3 <| asCons r3 fun a4 r4 => asD (.int .i64) a4 fun s2 => asCons r4 fun a5 r5 => asD (.int .i64) a5 fun s3 => asNil r5 <| asCons σ fun a6 r6 => asOne opT a6 fun a7 => asD opT a7 fun s4 => asCons r6 fun a8 r8 => asRw (.int .i64) false a8 fun s5 => asNil r8 <| l16r13 (fun z1 => K .ret [(1, .undef), (2, I z1)] []) (fun z1 => K (.exit 2) [(1, .ptr 0 0 []), (2, .undef)] [.one opT (.d opT z1)]) s1 s2 s3 s4 s5
theorem l16r13v : LoopV E (inlF (PA (ACall E)) E 8) (E.info 16).keep 0 Try.f16.ntmps 17000013 (body Try.f16 13) ([1, 5, 58, 59, 60], lsl16r13) := by
  intro vs σ K (h0 : lsl16r13 vs σ K)
  unfold lsl16r13 at h0
  obtain ⟨a1, r1, rfl, h1⟩ := asCons_inv h0; clear h0
  obtain ⟨rfl, h2⟩ := asP_inv h1; clear h1
  obtain ⟨a2, r2, rfl, h3⟩ := asCons_inv h2; clear h2
  obtain ⟨s1, rfl, h4⟩ := asD_inv h3; clear h3
  obtain ⟨a3, r3, rfl, h5⟩ := asCons_inv h4; clear h4
  obtain ⟨rfl, h6⟩ := asP_inv h5; clear h5
  obtain ⟨a4, r4, rfl, h7⟩ := asCons_inv h6; clear h6
  obtain ⟨s2, rfl, h8⟩ := asD_inv h7; clear h7
  obtain ⟨a5, r5, rfl, h9⟩ := asCons_inv h8; clear h8
  obtain ⟨s3, rfl, h10⟩ := asD_inv h9; clear h9
  obtain ⟨rfl, h11⟩ := asNil_inv h10; clear h10
  obtain ⟨a6, r6, rfl, h12⟩ := asCons_inv h11; clear h11
  obtain ⟨a7, rfl, h13⟩ := asOne_inv h12; clear h12
  obtain ⟨s4, rfl, h14⟩ := asD_inv h13; clear h13
  obtain ⟨a8, r8, rfl, h15⟩ := asCons_inv h14; clear h14
  obtain ⟨s5, rfl, h16⟩ := asRw_inv h15; clear h15
  obtain ⟨rfl, h17⟩ := asNil_inv h16; clear h16
  intro J hJ
  have hp : ∀ c' ∈ subsOf (E.info 16).keep (body Try.f16 13), SubOK E (inlF (PA (ACall E)) E 8) (E.info 16).keep 0 Try.f16.ntmps (lofL Ll16r13) c' := all_eq (by kernel_rfl : subsOf (E.info 16).keep (body Try.f16 13) = []) (all_nil)
  exact h17.of (fun s1 s2 s3 s4 s5 => J [(17000013, .undef), (1, .ptr 0 0 []), (5, .d .str s1), (58, .vec 1), (59, I s2), (60, I s3)] [.one opT (.d opT s4), .row (.int .i64) s5 false]) (fun s1 s2 s3 s4 s5 hb => loop_round2 (S := ofL Sl16r13) (L := lofL Ll16r13) hSl16r13 (inlOK _) hp hJ (by kernel_rfl) hb)

abbrev S16 : List (Nat × Pat × Sp) := [(23, none, sp23)]
theorem hS16 : SpecOK E (ofL S16) := specOK_cons h23 (specOK_nil)
abbrev L16 : List (Nat × List Nat × Pat × LSp) := [(17000004, [1, 24, 25, 26], none, lsl16r4), (17000013, [1, 5, 58, 59, 60], none, lsl16r13)]
def sp16 : Sp := fun args τ K => asCons args fun a1 r1 => asD opT a1 fun x1 => asNil r1 <| asNil τ <| c16 x1 (fun z1 => K (I z1) [])
theorem h16 : ∀ args τ K, sp16 args τ K → ACall E 16 args τ K := by
  intro args τ K h0
  unfold sp16 at h0
  obtain ⟨a1, r1, rfl, h1⟩ := asCons_inv h0; clear h0
  obtain ⟨x1, rfl, h2⟩ := asD_inv h1; clear h1
  obtain ⟨rfl, h3⟩ := asNil_inv h2; clear h2
  obtain ⟨rfl, h4⟩ := asNil_inv h3; clear h3
  exact ACall.spec2 (fn := Try.f16) (c := codeOf Try.f16) (S := ofL S16) (L := lofL L16) hS16 (by kernel_rfl) (by kernel_rfl) (inlOK _) (all_eq (by kernel_rfl : subsOf (E.info 16).keep (codeOf Try.f16) = [.loop (body Try.f16 4), .loop (body Try.f16 13)]) (all_cons (loopOK_of (mk := 17000004) (sl := [1, 24, 25, 26]) (ss := [([1, 24, 25, 26], lsl16r4)]) (by kernel_rfl) (by kernel_rfl) (all_cons l16r4v (all_nil))) (all_cons (loopOK_of (mk := 17000013) (sl := [1, 5, 58, 59, 60]) (ss := [([1, 5, 58, 59, 60], lsl16r13)]) (by kernel_rfl) (by kernel_rfl) (all_cons l16r13v (all_nil))) (all_nil)))) (by kernel_rfl) h4.of

abbrev Sl17r18v2 : List (Nat × Pat × Sp) := []
theorem hSl17r18v2 : SpecOK E (ofL Sl17r18v2) := specOK_nil
abbrev Ll17r18v2 : List (Nat × List Nat × Pat × LSp) := []
def lsl17r18v2 : LSp := fun vs σ K => asCons vs fun a1 r1 => asP (.ptr 0 0 []) a1 <| asCons r1 fun a2 r2 => asP (.ptr 1 0 []) a2 <| asCons r2 fun a3 r3 => asP (.ptr 2 0 []) a3 <| asCons r3 fun a4 r4 => asD (.int .i64) a4 fun s1 => asCons r4 fun a5 r5 => asD (.int .i64) a5 fun s2 => asCons r5 fun a6 r6 => asP (.vec 4) a6 <| asCons r6 fun a7 r7 => asD (.sl (.int .i64)) a7 fun s3 => asCons r7 fun a8 r8 => asD (.int .i64) a8 fun s4 => asCons r8 fun a9 r9 => asD (.int .i64) a9 fun s5 => asNil r9 <| asCons σ fun a10 r10 => asOne (.pair (.int .i64) (.pair (.int .i64) (.pair (.int .i64) (.pair (.arr 16 (.int .i64)) (.pair (.sl (.int .i64)) .unit))))) a10 fun a11 => asD (.pair (.int .i64) (.pair (.int .i64) (.pair (.int .i64) (.pair (.arr 16 (.int .i64)) (.pair (.sl (.int .i64)) .unit))))) a11 fun s6 => asCons r10 fun a12 r12 => asOne opT a12 fun a13 => asD opT a13 fun s7 => asCons r12 fun a14 r14 => asOne (.pair (.int .i64) (.pair (.int .i64) (.pair (.int .i64) (.pair (.arr 16 (.int .i64)) (.pair (.sl (.int .i64)) .unit))))) a14 fun a15 => asAgL a15 fun l16 => asCons l16 fun a17 r17 => asD (.int .i64) a17 fun s8 => asCons r17 fun a18 r18 => asD (.int .i64) a18 fun s9 => asCons r18 fun a19 r19 => asD (.int .i64) a19 fun s10 => asCons r19 fun a20 r20 => asD (.arr 16 (.int .i64)) a20 fun s11 => asCons r20 fun a21 r21 => asP (.vec 3) a21 <| asNil r21 <| asCons r14 fun a22 r22 => asRw (.int .i64) false a22 fun s12 => asCons r22 fun a23 r23 => asRw (.int .i64) false a23 fun s13 => asNil r23 <| l17r18v2 (fun z1 z2 z3 z4 z5 z6 z7 z8 z9 z10 => K (.exit 0) [(3, .ptr 0 0 []), (4, .ptr 1 0 []), (6, .ptr 2 0 []), (12, I z1), (13, I z2), (14, .vec 4)] [.one (.pair (.int .i64) (.pair (.int .i64) (.pair (.int .i64) (.pair (.arr 16 (.int .i64)) (.pair (.sl (.int .i64)) .unit))))) (.d (.pair (.int .i64) (.pair (.int .i64) (.pair (.int .i64) (.pair (.arr 16 (.int .i64)) (.pair (.sl (.int .i64)) .unit))))) z3), .one opT (.d opT z4), .one (.pair (.int .i64) (.pair (.int .i64) (.pair (.int .i64) (.pair (.arr 16 (.int .i64)) (.pair (.sl (.int .i64)) .unit))))) (.agg [I z5, I z6, I z7, .d (.arr 16 (.int .i64)) z8, .vec 3]), .row (.int .i64) z9 false, .row (.int .i64) z10 false]) s1 s2 s3 s4 s5 s6 s7 s8 s9 s10 s11 s12 s13
theorem l17r18v2v : LoopV E (inlF (PA (ACall E)) E 8) (E.info 17).keep 0 Try.f17.ntmps 18000018 (body Try.f17 18) ([3, 4, 6, 12, 13, 14, 67, 68, 69], lsl17r18v2) := by
  intro vs σ K (h0 : lsl17r18v2 vs σ K)
  unfold lsl17r18v2 at h0
  obtain ⟨a1, r1, rfl, h1⟩ := asCons_inv h0; clear h0
  obtain ⟨rfl, h2⟩ := asP_inv h1; clear h1
  obtain ⟨a2, r2, rfl, h3⟩ := asCons_inv h2; clear h2
  obtain ⟨rfl, h4⟩ := asP_inv h3; clear h3
  obtain ⟨a3, r3, rfl, h5⟩ := asCons_inv h4; clear h4
  obtain ⟨rfl, h6⟩ := asP_inv h5; clear h5
  obtain ⟨a4, r4, rfl, h7⟩ := asCons_inv h6; clear h6
  obtain ⟨s1, rfl, h8⟩ := asD_inv h7; clear h7
  obtain ⟨a5, r5, rfl, h9⟩ := asCons_inv h8; clear h8
  obtain ⟨s2, rfl, h10⟩ := asD_inv h9; clear h9
  obtain ⟨a6, r6, rfl, h11⟩ := asCons_inv h10; clear h10
  obtain ⟨rfl, h12⟩ := asP_inv h11; clear h11
  obtain ⟨a7, r7, rfl, h13⟩ := asCons_inv h12; clear h12
  obtain ⟨s3, rfl, h14⟩ := asD_inv h13; clear h13
  obtain ⟨a8, r8, rfl, h15⟩ := asCons_inv h14; clear h14
  obtain ⟨s4, rfl, h16⟩ := asD_inv h15; clear h15
  obtain ⟨a9, r9, rfl, h17⟩ := asCons_inv h16; clear h16
  obtain ⟨s5, rfl, h18⟩ := asD_inv h17; clear h17
  obtain ⟨rfl, h19⟩ := asNil_inv h18; clear h18
  obtain ⟨a10, r10, rfl, h20⟩ := asCons_inv h19; clear h19
  obtain ⟨a11, rfl, h21⟩ := asOne_inv h20; clear h20
  obtain ⟨s6, rfl, h22⟩ := asD_inv h21; clear h21
  obtain ⟨a12, r12, rfl, h23⟩ := asCons_inv h22; clear h22
  obtain ⟨a13, rfl, h24⟩ := asOne_inv h23; clear h23
  obtain ⟨s7, rfl, h25⟩ := asD_inv h24; clear h24
  obtain ⟨a14, r14, rfl, h26⟩ := asCons_inv h25; clear h25
  obtain ⟨a15, rfl, h27⟩ := asOne_inv h26; clear h26
  obtain ⟨l16, rfl, h28⟩ := asAgL_inv h27; clear h27
  obtain ⟨a17, r17, rfl, h29⟩ := asCons_inv h28; clear h28
  obtain ⟨s8, rfl, h30⟩ := asD_inv h29; clear h29
  obtain ⟨a18, r18, rfl, h31⟩ := asCons_inv h30; clear h30
  obtain ⟨s9, rfl, h32⟩ := asD_inv h31; clear h31
  obtain ⟨a19, r19, rfl, h33⟩ := asCons_inv h32; clear h32
  obtain ⟨s10, rfl, h34⟩ := asD_inv h33; clear h33
  obtain ⟨a20, r20, rfl, h35⟩ := asCons_inv h34; clear h34
  obtain ⟨s11, rfl, h36⟩ := asD_inv h35; clear h35
  obtain ⟨a21, r21, rfl, h37⟩ := asCons_inv h36; clear h36
  obtain ⟨rfl, h38⟩ := asP_inv h37; clear h37
  obtain ⟨rfl, h39⟩ := asNil_inv h38; clear h38
  obtain ⟨a22, r22, rfl, h40⟩ := asCons_inv h39; clear h39
  obtain ⟨s12, rfl, h41⟩ := asRw_inv h40; clear h40
  obtain ⟨a23, r23, rfl, h42⟩ := asCons_inv h41; clear h41
  obtain ⟨s13, rfl, h43⟩ := asRw_inv h42; clear h42
  obtain ⟨rfl, h44⟩ := asNil_inv h43; clear h43
  intro J hJ
  have hp : ∀ c' ∈ subsOf (E.info 17).keep (body Try.f17 18), SubOK E (inlF (PA (ACall E)) E 8) (E.info 17).keep 0 Try.f17.ntmps (lofL Ll17r18v2) c' := all_eq (by kernel_rfl : subsOf (E.info 17).keep (body Try.f17 18) = []) (all_nil)
  exact h44.of (fun s1 s2 s3 s4 s5 s6 s7 s8 s9 s10 s11 s12 s13 => J [(18000018, .undef), (3, .ptr 0 0 []), (4, .ptr 1 0 []), (6, .ptr 2 0 []), (12, I s1), (13, I s2), (14, .vec 4), (67, .d (.sl (.int .i64)) s3), (68, I s4), (69, I s5)] [.one (.pair (.int .i64) (.pair (.int .i64) (.pair (.int .i64) (.pair (.arr 16 (.int .i64)) (.pair (.sl (.int .i64)) .unit))))) (.d (.pair (.int .i64) (.pair (.int .i64) (.pair (.int .i64) (.pair (.arr 16 (.int .i64)) (.pair (.sl (.int .i64)) .unit))))) s6), .one opT (.d opT s7), .one (.pair (.int .i64) (.pair (.int .i64) (.pair (.int .i64) (.pair (.arr 16 (.int .i64)) (.pair (.sl (.int .i64)) .unit))))) (.agg [I s8, I s9, I s10, .d (.arr 16 (.int .i64)) s11, .vec 3]), .row (.int .i64) s12 false, .row (.int .i64) s13 false]) (fun s1 s2 s3 s4 s5 s6 s7 s8 s9 s10 s11 s12 s13 hb => loop_round2 (S := ofL Sl17r18v2) (L := lofL Ll17r18v2) hSl17r18v2 (inlOK _) hp hJ (by kernel_rfl) hb)

abbrev S17v2 : List (Nat × Pat × Sp) := [(15, none, sp15), (25, none, sp25), (5, none, sp5), (26, none, sp26), (27, none, sp27), (7, none, sp7), (28, none, sp28)]
theorem hS17v2 : SpecOK E (ofL S17v2) := specOK_cons h15 (specOK_cons h25 (specOK_cons h5 (specOK_cons h26 (specOK_cons h27 (specOK_cons h7 (specOK_cons h28 (specOK_nil)))))))
abbrev L17v2 : List (Nat × List Nat × Pat × LSp) := [(18000018, [3, 4, 6, 12, 13, 14, 67, 68, 69], none, lsl17r18v2)]
def sp17v2 : Sp := fun args τ K => asCons args fun a1 r1 => asD (.pair (.int .i64) (.pair (.int .i64) (.pair (.int .i64) (.pair (.arr 16 (.int .i64)) (.pair (.sl (.int .i64)) .unit))))) a1 fun x1 => asCons r1 fun a2 r2 => asD opT a2 fun x2 => asCons r2 fun a3 r3 => asD (.int .i64) a3 fun x3 => asNil r3 <| asNil τ <| c17v2 x1 x2 x3 (fun z1 z2 z3 z4 z5 z6 z7 => K (.tup [.agg [I z1, I z2, I z3, .d (.arr 16 (.int .i64)) z4, .vec 0], I z5, I z6]) [.row (.int .i64) z7 false])
theorem h17v2 : ∀ args τ K, sp17v2 args τ K → ACall E 17 args τ K := by
  intro args τ K h0
  unfold sp17v2 at h0
  obtain ⟨a1, r1, rfl, h1⟩ := asCons_inv h0; clear h0
  obtain ⟨x1, rfl, h2⟩ := asD_inv h1; clear h1
  obtain ⟨a2, r2, rfl, h3⟩ := asCons_inv h2; clear h2
  obtain ⟨x2, rfl, h4⟩ := asD_inv h3; clear h3
  obtain ⟨a3, r3, rfl, h5⟩ := asCons_inv h4; clear h4
  obtain ⟨x3, rfl, h6⟩ := asD_inv h5; clear h5
  obtain ⟨rfl, h7⟩ := asNil_inv h6; clear h6
  obtain ⟨rfl, h8⟩ := asNil_inv h7; clear h7
  exact ACall.spec2 (fn := Try.f17) (c := codeOf Try.f17) (S := ofL S17v2) (L := lofL L17v2) hS17v2 (by kernel_rfl) (by kernel_rfl) (inlOK _) (all_eq (by kernel_rfl : subsOf (E.info 17).keep (codeOf Try.f17) = [.loop (body Try.f17 18)]) (all_cons (loopOK_of (mk := 18000018) (sl := [3, 4, 6, 12, 13, 14, 67, 68, 69]) (ss := [([3, 4, 6, 12, 13, 14, 67, 68, 69], lsl17r18v2)]) (by kernel_rfl) (by kernel_rfl) (all_cons l17r18v2v (all_nil))) (all_nil))) (by kernel_rfl) h8.of

abbrev S18 : List (Nat × Pat × Sp) := [(9, none, sp9)]
theorem hS18 : SpecOK E (ofL S18) := specOK_cons h9 (specOK_nil)
abbrev L18 : List (Nat × List Nat × Pat × LSp) := []
def sp18 : Sp := fun args τ K => asCons args fun a1 r1 => asD (.pair (.int .i64) (.pair (.int .i64) (.pair (.int .i64) (.pair (.arr 16 (.int .i64)) (.pair (.sl (.int .i64)) .unit))))) a1 fun x1 => asCons r1 fun a2 r2 => asD (.pair (.int .i64) (.pair (.int .i64) (.pair (.int .i64) (.pair (.arr 16 (.int .i64)) (.pair (.sl (.int .i64)) .unit))))) a2 fun x2 => asNil r2 <| asNil τ <| c18 x1 x2 (fun z1 => K (B z1) [])
theorem h18 : ∀ args τ K, sp18 args τ K → ACall E 18 args τ K := by
  intro args τ K h0
  unfold sp18 at h0
  obtain ⟨a1, r1, rfl, h1⟩ := asCons_inv h0; clear h0
  obtain ⟨x1, rfl, h2⟩ := asD_inv h1; clear h1
  obtain ⟨a2, r2, rfl, h3⟩ := asCons_inv h2; clear h2
  obtain ⟨x2, rfl, h4⟩ := asD_inv h3; clear h3
  obtain ⟨rfl, h5⟩ := asNil_inv h4; clear h4
  obtain ⟨rfl, h6⟩ := asNil_inv h5; clear h5
  exact ACall.spec2 (fn := Try.f18) (c := codeOf Try.f18) (S := ofL S18) (L := lofL L18) hS18 (by kernel_rfl) (by kernel_rfl) (inlOK _) (all_eq (by kernel_rfl : subsOf (E.info 18).keep (codeOf Try.f18) = []) (all_nil)) (by kernel_rfl) h6.of

abbrev Sl3r16 : List (Nat × Pat × Sp) := []
theorem hSl3r16 : SpecOK E (ofL Sl3r16) := specOK_nil
abbrev Ll3r16 : List (Nat × List Nat × Pat × LSp) := []
def lsl3r16 : LSp := fun vs σ K => asCons vs fun a1 r1 => asD (.int .i64) a1 fun s1 => asCons r1 fun a2 r2 => asP (.ptr 0 0 []) a2 <| asCons r2 fun a3 r3 => asP (.ptr 1 0 []) a3 <| asCons r3 fun a4 r4 => asP (.ptr 2 0 []) a4 <| asCons r4 fun a5 r5 => asD (.int .i64) a5 fun s2 => asCons r5 fun a6 r6 => asD (.int .i64) a6 fun s3 => asCons r6 fun a7 r7 => asP (.vec 4) a7 <| asCons r7 fun a8 r8 => asD (.int .i64) a8 fun s4 => asCons r8 fun a9 r9 => asD (.int .i64) a9 fun s5 => asNil r9 <| asCons σ fun a10 r10 => asOne (.pair (.int .i64) (.pair (.int .i64) (.pair (.int .i64) (.pair (.arr 16 (.int .i64)) (.pair (.sl (.int .i64)) .unit))))) a10 fun a11 => asD (.pair (.int .i64) (.pair (.int .i64) (.pair (.int .i64) (.pair (.arr 16 (.int .i64)) (.pair (.sl (.int .i64)) .unit))))) a11 fun s6 => asCons r10 fun a12 r12 => asOne opT a12 fun a13 => asD opT a13 fun s7 => asCons r12 fun a14 r14 => asOne (.pair (.int .i64) (.pair (.int .i64) (.pair (.int .i64) (.pair (.arr 16 (.int .i64)) (.pair (.sl (.int .i64)) .unit))))) a14 fun a15 => asAgL a15 fun l16 => asCons l16 fun a17 r17 => asD (.int .i64) a17 fun s8 => asCons r17 fun a18 r18 => asD (.int .i64) a18 fun s9 => asCons r18 fun a19 r19 => asD (.int .i64) a19 fun s10 => asCons r19 fun a20 r20 => asD (.arr 16 (.int .i64)) a20 fun s11 => asCons r20 fun a21 r21 => asP (.vec 3) a21 <| asNil r21 <| asCons r14 fun a22 r22 => asRw (.int .i64) false a22 fun s12 => asCons r22 fun a23 r23 => asRw (.int .i64) false a23 fun s13 => asNil r23 <| l3r16 (fun z1 => K .ret [(2, .undef), (3, .undef), (4, .undef), (6, B z1), (8, .undef), (9, .undef), (10, .undef)] []) (fun z1 z2 z3 z4 z5 z6 z7 z8 z9 z10 => K (.exit 0) [(2, I z1), (3, .ptr 0 0 []), (4, .ptr 1 0 []), (6, .undef), (8, .ptr 2 0 []), (9, I z2), (10, I z3)] [.one (.pair (.int .i64) (.pair (.int .i64) (.pair (.int .i64) (.pair (.arr 16 (.int .i64)) (.pair (.sl (.int .i64)) .unit))))) (.d (.pair (.int .i64) (.pair (.int .i64) (.pair (.int .i64) (.pair (.arr 16 (.int .i64)) (.pair (.sl (.int .i64)) .unit))))) z4), .one opT (.d opT z5), .one (.pair (.int .i64) (.pair (.int .i64) (.pair (.int .i64) (.pair (.arr 16 (.int .i64)) (.pair (.sl (.int .i64)) .unit))))) (.agg [I z6, I z7, I z8, .d (.arr 16 (.int .i64)) z9, .vec 3]), .row (.int .i64) z10 false]) s1 s2 s3 s4 s5 s6 s7 s8 s9 s10 s11 s12 s13
theorem l3r16v : LoopV E (inlF (PA (ACall E)) E 8) (E.info 3).keep 0 Try.f3.ntmps 4000016 (body Try.f3 16) ([2, 3, 4, 8, 9, 10, 102, 103, 104], lsl3r16) := by
  intro vs σ K (h0 : lsl3r16 vs σ K)
  unfold lsl3r16 at h0
  obtain ⟨a1, r1, rfl, h1⟩ := asCons_inv h0; clear h0
  obtain ⟨s1, rfl, h2⟩ := asD_inv h1; clear h1
  obtain ⟨a2, r2, rfl, h3⟩ := asCons_inv h2; clear h2
  obtain ⟨rfl, h4⟩ := asP_inv h3; clear h3
  obtain ⟨a3, r3, rfl, h5⟩ := asCons_inv h4; clear h4
  obtain ⟨rfl, h6⟩ := asP_inv h5; clear h5
  obtain ⟨a4, r4, rfl, h7⟩ := asCons_inv h6; clear h6
  obtain ⟨rfl, h8⟩ := asP_inv h7; clear h7
  obtain ⟨a5, r5, rfl, h9⟩ := asCons_inv h8; clear h8
  obtain ⟨s2, rfl, h10⟩ := asD_inv h9; clear h9
  obtain ⟨a6, r6, rfl, h11⟩ := asCons_inv h10; clear h10
  obtain ⟨s3, rfl, h12⟩ := asD_inv h11; clear h11
  obtain ⟨a7, r7, rfl, h13⟩ := asCons_inv h12; clear h12
  obtain ⟨rfl, h14⟩ := asP_inv h13; clear h13
  obtain ⟨a8, r8, rfl, h15⟩ := asCons_inv h14; clear h14
  obtain ⟨s4, rfl, h16⟩ := asD_inv h15; clear h15
  obtain ⟨a9, r9, rfl, h17⟩ := asCons_inv h16; clear h16
  obtain ⟨s5, rfl, h18⟩ := asD_inv h17; clear h17
  obtain ⟨rfl, h19⟩ := asNil_inv h18; clear h18
  obtain ⟨a10, r10, rfl, h20⟩ := asCons_inv h19; clear h19
  obtain ⟨a11, rfl, h21⟩ := asOne_inv h20; clear h20
  obtain ⟨s6, rfl, h22⟩ := asD_inv h21; clear h21
  obtain ⟨a12, r12, rfl, h23⟩ := asCons_inv h22; clear h22
  obtain ⟨a13, rfl, h24⟩ := asOne_inv h23; clear h23
  obtain ⟨s7, rfl, h25⟩ := asD_inv h24; clear h24
  obtain ⟨a14, r14, rfl, h26⟩ := asCons_inv h25; clear h25
  obtain ⟨a15, rfl, h27⟩ := asOne_inv h26; clear h26
  obtain ⟨l16, rfl, h28⟩ := asAgL_inv h27; clear h27
  obtain ⟨a17, r17, rfl, h29⟩ := asCons_inv h28; clear h28
  obtain ⟨s8, rfl, h30⟩ := asD_inv h29; clear h29
  obtain ⟨a18, r18, rfl, h31⟩ := asCons_inv h30; clear h30
  obtain ⟨s9, rfl, h32⟩ := asD_inv h31; clear h31
  obtain ⟨a19, r19, rfl, h33⟩ := asCons_inv h32; clear h32
  obtain ⟨s10, rfl, h34⟩ := asD_inv h33; clear h33
  obtain ⟨a20, r20, rfl, h35⟩ := asCons_inv h34; clear h34
  obtain ⟨s11, rfl, h36⟩ := asD_inv h35; clear h35
  obtain ⟨a21, r21, rfl, h37⟩ := asCons_inv h36; clear h36
  obtain ⟨rfl, h38⟩ := asP_inv h37; clear h37
  obtain ⟨rfl, h39⟩ := asNil_inv h38; clear h38
  obtain ⟨a22, r22, rfl, h40⟩ := asCons_inv h39; clear h39
  obtain ⟨s12, rfl, h41⟩ := asRw_inv h40; clear h40
  obtain ⟨a23, r23, rfl, h42⟩ := asCons_inv h41; clear h41
  obtain ⟨s13, rfl, h43⟩ := asRw_inv h42; clear h42
  obtain ⟨rfl, h44⟩ := asNil_inv h43; clear h43
  intro J hJ
  have hp : ∀ c' ∈ subsOf (E.info 3).keep (body Try.f3 16), SubOK E (inlF (PA (ACall E)) E 8) (E.info 3).keep 0 Try.f3.ntmps (lofL Ll3r16) c' := all_eq (by kernel_rfl : subsOf (E.info 3).keep (body Try.f3 16) = []) (all_nil)
  exact h44.of (fun s1 s2 s3 s4 s5 s6 s7 s8 s9 s10 s11 s12 s13 => J [(4000016, .undef), (2, I s1), (3, .ptr 0 0 []), (4, .ptr 1 0 []), (8, .ptr 2 0 []), (9, I s2), (10, I s3), (102, .vec 4), (103, I s4), (104, I s5)] [.one (.pair (.int .i64) (.pair (.int .i64) (.pair (.int .i64) (.pair (.arr 16 (.int .i64)) (.pair (.sl (.int .i64)) .unit))))) (.d (.pair (.int .i64) (.pair (.int .i64) (.pair (.int .i64) (.pair (.arr 16 (.int .i64)) (.pair (.sl (.int .i64)) .unit))))) s6), .one opT (.d opT s7), .one (.pair (.int .i64) (.pair (.int .i64) (.pair (.int .i64) (.pair (.arr 16 (.int .i64)) (.pair (.sl (.int .i64)) .unit))))) (.agg [I s8, I s9, I s10, .d (.arr 16 (.int .i64)) s11, .vec 3]), .row (.int .i64) s12 false, .row (.int .i64) s13 false]) (fun s1 s2 s3 s4 s5 s6 s7 s8 s9 s10 s11 s12 s13 hb => loop_round2 (S := ofL Sl3r16) (L := lofL Ll3r16) hSl3r16 (inlOK _) hp hJ (by kernel_rfl) hb)

abbrev Sl19r4 : List (Nat × Pat × Sp) := []
theorem hSl19r4 : SpecOK E (ofL Sl19r4) := specOK_nil
abbrev Ll19r4 : List (Nat × List Nat × Pat × LSp) := []
def lsl19r4 : LSp := fun vs σ K => asCons vs fun a1 r1 => asD (.int .i64) a1 fun s1 => asCons r1 fun a2 r2 => asP (.ptr 0 0 []) a2 <| asCons r2 fun a3 r3 => asP (.ptr 1 0 []) a3 <| asCons r3 fun a4 r4 => asP (.ptr 2 0 []) a4 <| asCons r4 fun a5 r5 => asD (.int .i64) a5 fun s2 => asCons r5 fun a6 r6 => asD (.int .i64) a6 fun s3 => asCons r6 fun a7 r7 => asP (.vec 4) a7 <| asCons r7 fun a8 r8 => asD (.int .i64) a8 fun s4 => asCons r8 fun a9 r9 => asD (.int .i64) a9 fun s5 => asNil r9 <| asCons σ fun a10 r10 => asOne (.pair (.int .i64) (.pair (.int .i64) (.pair (.int .i64) (.pair (.arr 16 (.int .i64)) (.pair (.sl (.int .i64)) .unit))))) a10 fun a11 => asD (.pair (.int .i64) (.pair (.int .i64) (.pair (.int .i64) (.pair (.arr 16 (.int .i64)) (.pair (.sl (.int .i64)) .unit))))) a11 fun s6 => asCons r10 fun a12 r12 => asOne opT a12 fun a13 => asD opT a13 fun s7 => asCons r12 fun a14 r14 => asOne (.pair (.int .i64) (.pair (.int .i64) (.pair (.int .i64) (.pair (.arr 16 (.int .i64)) (.pair (.sl (.int .i64)) .unit))))) a14 fun a15 => asAgL a15 fun l16 => asCons l16 fun a17 r17 => asD (.int .i64) a17 fun s8 => asCons r17 fun a18 r18 => asD (.int .i64) a18 fun s9 => asCons r18 fun a19 r19 => asD (.int .i64) a19 fun s10 => asCons r19 fun a20 r20 => asD (.arr 16 (.int .i64)) a20 fun s11 => asCons r20 fun a21 r21 => asP (.vec 3) a21 <| asNil r21 <| asCons r14 fun a22 r22 => asRw (.int .i64) false a22 fun s12 => asCons r22 fun a23 r23 => asRw (.int .i64) false a23 fun s13 => asNil r23 <| l19r4 (fun z1 z2 z3 z4 z5 z6 z7 z8 z9 z10 => K (.exit 0) [(2, I z1), (3, .ptr 0 0 []), (4, .ptr 1 0 []), (6, .ptr 2 0 []), (8, I z2), (9, I z3)] [.one (.pair (.int .i64) (.pair (.int .i64) (.pair (.int .i64) (.pair (.arr 16 (.int .i64)) (.pair (.sl (.int .i64)) .unit))))) (.d (.pair (.int .i64) (.pair (.int .i64) (.pair (.int .i64) (.pair (.arr 16 (.int .i64)) (.pair (.sl (.int .i64)) .unit))))) z4), .one opT (.d opT z5), .one (.pair (.int .i64) (.pair (.int .i64) (.pair (.int .i64) (.pair (.arr 16 (.int .i64)) (.pair (.sl (.int .i64)) .unit))))) (.agg [I z6, I z7, I z8, .d (.arr 16 (.int .i64)) z9, .vec 3]), .row (.int .i64) z10 false]) s1 s2 s3 s4 s5 s6 s7 s8 s9 s10 s11 s12 s13
theorem l19r4v : LoopV E (inlF (PA (ACall E)) E 8) (E.info 19).keep 0 Try.f19.ntmps 20000004 (body Try.f19 4) ([2, 3, 4, 6, 8, 9, 27, 28, 29], lsl19r4) := by
  intro vs σ K (h0 : lsl19r4 vs σ K)
  unfold lsl19r4 at h0
  obtain ⟨a1, r1, rfl, h1⟩ := asCons_inv h0; clear h0
  obtain ⟨s1, rfl, h2⟩ := asD_inv h1; clear h1
  obtain ⟨a2, r2, rfl, h3⟩ := asCons_inv h2; clear h2
  obtain ⟨rfl, h4⟩ := asP_inv h3; clear h3
  obtain ⟨a3, r3, rfl, h5⟩ := asCons_inv h4; clear h4
  obtain ⟨rfl, h6⟩ := asP_inv h5; clear h5
  obtain ⟨a4, r4, rfl, h7⟩ := asCons_inv h6; clear h6
  obtain ⟨rfl, h8⟩ := asP_inv h7; clear h7
  obtain ⟨a5, r5, rfl, h9⟩ := asCons_inv h8; clear h8
  obtain ⟨s2, rfl, h10⟩ := asD_inv h9; clear h9
  obtain ⟨a6, r6, rfl, h11⟩ := asCons_inv h10; clear h10
  obtain ⟨s3, rfl, h12⟩ := asD_inv h11; clear h11
  obtain ⟨a7, r7, rfl, h13⟩ := asCons_inv h12; clear h12
  obtain ⟨rfl, h14⟩ := asP_inv h13; clear h13
  obtain ⟨a8, r8, rfl, h15⟩ := asCons_inv h14; clear h14
  obtain ⟨s4, rfl, h16⟩ := asD_inv h15; clear h15
  obtain ⟨a9, r9, rfl, h17⟩ := asCons_inv h16; clear h16
  obtain ⟨s5, rfl, h18⟩ := asD_inv h17; clear h17
  obtain ⟨rfl, h19⟩ := asNil_inv h18; clear h18
  obtain ⟨a10, r10, rfl, h20⟩ := asCons_inv h19; clear h19
  obtain ⟨a11, rfl, h21⟩ := asOne_inv h20; clear h20
  obtain ⟨s6, rfl, h22⟩ := asD_inv h21; clear h21
  obtain ⟨a12, r12, rfl, h23⟩ := asCons_inv h22; clear h22
  obtain ⟨a13, rfl, h24⟩ := asOne_inv h23; clear h23
  obtain ⟨s7, rfl, h25⟩ := asD_inv h24; clear h24
  obtain ⟨a14, r14, rfl, h26⟩ := asCons_inv h25; clear h25
  obtain ⟨a15, rfl, h27⟩ := asOne_inv h26; clear h26
  obtain ⟨l16, rfl, h28⟩ := asAgL_inv h27; clear h27
  obtain ⟨a17, r17, rfl, h29⟩ := asCons_inv h28; clear h28
  obtain ⟨s8, rfl, h30⟩ := asD_inv h29; clear h29
  obtain ⟨a18, r18, rfl, h31⟩ := asCons_inv h30; clear h30
  obtain ⟨s9, rfl, h32⟩ := asD_inv h31; clear h31
  obtain ⟨a19, r19, rfl, h33⟩ := asCons_inv h32; clear h32
  obtain ⟨s10, rfl, h34⟩ := asD_inv h33; clear h33
  obtain ⟨a20, r20, rfl, h35⟩ := asCons_inv h34; clear h34
  obtain ⟨s11, rfl, h36⟩ := asD_inv h35; clear h35
  obtain ⟨a21, r21, rfl, h37⟩ := asCons_inv h36; clear h36
  obtain ⟨rfl, h38⟩ := asP_inv h37; clear h37
  obtain ⟨rfl, h39⟩ := asNil_inv h38; clear h38
  obtain ⟨a22, r22, rfl, h40⟩ := asCons_inv h39; clear h39
  obtain ⟨s12, rfl, h41⟩ := asRw_inv h40; clear h40
  obtain ⟨a23, r23, rfl, h42⟩ := asCons_inv h41; clear h41
  obtain ⟨s13, rfl, h43⟩ := asRw_inv h42; clear h42
  obtain ⟨rfl, h44⟩ := asNil_inv h43; clear h43
  intro J hJ
  have hp : ∀ c' ∈ subsOf (E.info 19).keep (body Try.f19 4), SubOK E (inlF (PA (ACall E)) E 8) (E.info 19).keep 0 Try.f19.ntmps (lofL Ll19r4) c' := all_eq (by kernel_rfl : subsOf (E.info 19).keep (body Try.f19 4) = []) (all_nil)
  exact h44.of (fun s1 s2 s3 s4 s5 s6 s7 s8 s9 s10 s11 s12 s13 => J [(20000004, .undef), (2, I s1), (3, .ptr 0 0 []), (4, .ptr 1 0 []), (6, .ptr 2 0 []), (8, I s2), (9, I s3), (27, .vec 4), (28, I s4), (29, I s5)] [.one (.pair (.int .i64) (.pair (.int .i64) (.pair (.int .i64) (.pair (.arr 16 (.int .i64)) (.pair (.sl (.int .i64)) .unit))))) (.d (.pair (.int .i64) (.pair (.int .i64) (.pair (.int .i64) (.pair (.arr 16 (.int .i64)) (.pair (.sl (.int .i64)) .unit))))) s6), .one opT (.d opT s7), .one (.pair (.int .i64) (.pair (.int .i64) (.pair (.int .i64) (.pair (.arr 16 (.int .i64)) (.pair (.sl (.int .i64)) .unit))))) (.agg [I s8, I s9, I s10, .d (.arr 16 (.int .i64)) s11, .vec 3]), .row (.int .i64) s12 false, .row (.int .i64) s13 false]) (fun s1 s2 s3 s4 s5 s6 s7 s8 s9 s10 s11 s12 s13 hb => loop_round2 (S := ofL Sl19r4) (L := lofL Ll19r4) hSl19r4 (inlOK _) hp hJ (by kernel_rfl) hb)

abbrev Sl30r4 : List (Nat × Pat × Sp) := []
theorem hSl30r4 : SpecOK E (ofL Sl30r4) := specOK_nil
abbrev Ll30r4 : List (Nat × List Nat × Pat × LSp) := []
def lsl30r4 : LSp := fun vs σ K => asCons vs fun a1 r1 => asD (.int .i64) a1 fun s1 => asCons r1 fun a2 r2 => asD (.int .i64) a2 fun s2 => asCons r2 fun a3 r3 => asP (.ptr 0 0 []) a3 <| asCons r3 fun a4 r4 => asP (.ptr 1 0 []) a4 <| asCons r4 fun a5 r5 => asP (.vec 2) a5 <| asCons r5 fun a6 r6 => asD (.int .i64) a6 fun s3 => asCons r6 fun a7 r7 => asD (.int .i64) a7 fun s4 => asNil r7 <| asCons σ fun a8 r8 => asOne (.pair (.int .i64) (.pair (.int .i64) (.pair (.int .i64) (.pair (.arr 16 (.int .i64)) (.pair (.sl (.int .i64)) .unit))))) a8 fun a9 => asD (.pair (.int .i64) (.pair (.int .i64) (.pair (.int .i64) (.pair (.arr 16 (.int .i64)) (.pair (.sl (.int .i64)) .unit))))) a9 fun s5 => asCons r8 fun a10 r10 => asOne opT a10 fun a11 => asD opT a11 fun s6 => asCons r10 fun a12 r12 => asRw (.int .i64) false a12 fun s7 => asNil r12 <| l30r4 (fun z1 => K .ret [(2, .undef), (3, .undef), (4, .undef), (5, .undef), (8, B z1)] []) (fun z1 z2 z3 z4 => K (.exit 0) [(2, I z1), (3, I z2), (4, .ptr 0 0 []), (5, .ptr 1 0 []), (8, .undef)] [.one (.pair (.int .i64) (.pair (.int .i64) (.pair (.int .i64) (.pair (.arr 16 (.int .i64)) (.pair (.sl (.int .i64)) .unit))))) (.d (.pair (.int .i64) (.pair (.int .i64) (.pair (.int .i64) (.pair (.arr 16 (.int .i64)) (.pair (.sl (.int .i64)) .unit))))) z3), .one opT (.d opT z4)]) s1 s2 s3 s4 s5 s6 s7
theorem l30r4v : LoopV E (inlF (PA (ACall E)) E 8) (E.info 30).keep 0 Try.f30.ntmps 31000004 (body Try.f30 4) ([2, 3, 4, 5, 19, 20, 21], lsl30r4) := by
  intro vs σ K (h0 : lsl30r4 vs σ K)
  unfold lsl30r4 at h0
  obtain ⟨a1, r1, rfl, h1⟩ := asCons_inv h0; clear h0
  obtain ⟨s1, rfl, h2⟩ := asD_inv h1; clear h1
  obtain ⟨a2, r2, rfl, h3⟩ := asCons_inv h2; clear h2
  obtain ⟨s2, rfl, h4⟩ := asD_inv h3; clear h3
  obtain ⟨a3, r3, rfl, h5⟩ := asCons_inv h4; clear h4
  obtain ⟨rfl, h6⟩ := asP_inv h5; clear h5
  obtain ⟨a4, r4, rfl, h7⟩ := asCons_inv h6; clear h6
  obtain ⟨rfl, h8⟩ := asP_inv h7; clear h7
  obtain ⟨a5, r5, rfl, h9⟩ := asCons_inv h8; clear h8
  obtain ⟨rfl, h10⟩ := asP_inv h9; clear h9
  obtain ⟨a6, r6, rfl, h11⟩ := asCons_inv h10; clear h10
  obtain ⟨s3, rfl, h12⟩ := asD_inv h11; clear h11
  obtain ⟨a7, r7, rfl, h13⟩ := asCons_inv h12; clear h12
  obtain ⟨s4, rfl, h14⟩ := asD_inv h13; clear h13
  obtain ⟨rfl, h15⟩ := asNil_inv h14; clear h14
  obtain ⟨a8, r8, rfl, h16⟩ := asCons_inv h15; clear h15
  obtain ⟨a9, rfl, h17⟩ := asOne_inv h16; clear h16
  obtain ⟨s5, rfl, h18⟩ := asD_inv h17; clear h17
  obtain ⟨a10, r10, rfl, h19⟩ := asCons_inv h18; clear h18
  obtain ⟨a11, rfl, h20⟩ := asOne_inv h19; clear h19
  obtain ⟨s6, rfl, h21⟩ := asD_inv h20; clear h20
  obtain ⟨a12, r12, rfl, h22⟩ := asCons_inv h21; clear h21
  obtain ⟨s7, rfl, h23⟩ := asRw_inv h22; clear h22
  obtain ⟨rfl, h24⟩ := asNil_inv h23; clear h23
  intro J hJ
  have hp : ∀ c' ∈ subsOf (E.info 30).keep (body Try.f30 4), SubOK E (inlF (PA (ACall E)) E 8) (E.info 30).keep 0 Try.f30.ntmps (lofL Ll30r4) c' := all_eq (by kernel_rfl : subsOf (E.info 30).keep (body Try.f30 4) = []) (all_nil)
  exact h24.of (fun s1 s2 s3 s4 s5 s6 s7 => J [(31000004, .undef), (2, I s1), (3, I s2), (4, .ptr 0 0 []), (5, .ptr 1 0 []), (19, .vec 2), (20, I s3), (21, I s4)] [.one (.pair (.int .i64) (.pair (.int .i64) (.pair (.int .i64) (.pair (.arr 16 (.int .i64)) (.pair (.sl (.int .i64)) .unit))))) (.d (.pair (.int .i64) (.pair (.int .i64) (.pair (.int .i64) (.pair (.arr 16 (.int .i64)) (.pair (.sl (.int .i64)) .unit))))) s5), .one opT (.d opT s6), .row (.int .i64) s7 false]) (fun s1 s2 s3 s4 s5 s6 s7 hb => loop_round2 (S := ofL Sl30r4) (L := lofL Ll30r4) hSl30r4 (inlOK _) hp hJ (by kernel_rfl) hb)

abbrev Sl30r15 : List (Nat × Pat × Sp) := []
theorem hSl30r15 : SpecOK E (ofL Sl30r15) := specOK_nil
abbrev Ll30r15 : List (Nat × List Nat × Pat × LSp) := []
def lsl30r15 : LSp := fun vs σ K => asCons vs fun a1 r1 => asD (.int .i64) a1 fun s1 => asCons r1 fun a2 r2 => asD (.int .i64) a2 fun s2 => asCons r2 fun a3 r3 => asP (.ptr 0 0 []) a3 <| asCons r3 fun a4 r4 => asD (.int .i64) a4 fun s3 => asCons r4 fun a5 r5 => asD (.sl (.int .i64)) a5 fun s4 => asCons r5 fun a6 r6 => asD (.int .i64) a6 fun s5 => asCons r6 fun a7 r7 => asD (.int .i64) a7 fun s6 => asNil r7 <| asCons σ fun a8 r8 => asOne (.pair (.int .i64) (.pair (.int .i64) (.pair (.int .i64) (.pair (.arr 16 (.int .i64)) (.pair (.sl (.int .i64)) .unit))))) a8 fun a9 => asD (.pair (.int .i64) (.pair (.int .i64) (.pair (.int .i64) (.pair (.arr 16 (.int .i64)) (.pair (.sl (.int .i64)) .unit))))) a9 fun s7 => asNil r8 <| l30r15 (fun z1 => K .ret [(2, .undef), (3, .undef), (4, .undef), (8, B z1), (11, .undef)] []) (fun z1 z2 z3 z4 => K (.exit 2) [(2, I z1), (3, I z2), (4, .ptr 0 0 []), (8, .undef), (11, I z3)] [.one (.pair (.int .i64) (.pair (.int .i64) (.pair (.int .i64) (.pair (.arr 16 (.int .i64)) (.pair (.sl (.int .i64)) .unit))))) (.d (.pair (.int .i64) (.pair (.int .i64) (.pair (.int .i64) (.pair (.arr 16 (.int .i64)) (.pair (.sl (.int .i64)) .unit))))) z4)]) s1 s2 s3 s4 s5 s6 s7
theorem l30r15v : LoopV E (inlF (PA (ACall E)) E 8) (E.info 30).keep 0 Try.f30.ntmps 31000015 (body Try.f30 15) ([2, 3, 4, 11, 51, 52, 53], lsl30r15) := by
  intro vs σ K (h0 : lsl30r15 vs σ K)
  unfold lsl30r15 at h0
  obtain ⟨a1, r1, rfl, h1⟩ := asCons_inv h0; clear h0
  obtain ⟨s1, rfl, h2⟩ := asD_inv h1; clear h1
  obtain ⟨a2, r2, rfl, h3⟩ := asCons_inv h2; clear h2
  obtain ⟨s2, rfl, h4⟩ := asD_inv h3; clear h3
  obtain ⟨a3, r3, rfl, h5⟩ := asCons_inv h4; clear h4
  obtain ⟨rfl, h6⟩ := asP_inv h5; clear h5
  obtain ⟨a4, r4, rfl, h7⟩ := asCons_inv h6; clear h6
  obtain ⟨s3, rfl, h8⟩ := asD_inv h7; clear h7
  obtain ⟨a5, r5, rfl, h9⟩ := asCons_inv h8; clear h8
  obtain ⟨s4, rfl, h10⟩ := asD_inv h9; clear h9
  obtain ⟨a6, r6, rfl, h11⟩ := asCons_inv h10; clear h10
  obtain ⟨s5, rfl, h12⟩ := asD_inv h11; clear h11
  obtain ⟨a7, r7, rfl, h13⟩ := asCons_inv h12; clear h12
  obtain ⟨s6, rfl, h14⟩ := asD_inv h13; clear h13
  obtain ⟨rfl, h15⟩ := asNil_inv h14; clear h14
  obtain ⟨a8, r8, rfl, h16⟩ := asCons_inv h15; clear h15
  obtain ⟨a9, rfl, h17⟩ := asOne_inv h16; clear h16
  obtain ⟨s7, rfl, h18⟩ := asD_inv h17; clear h17
  obtain ⟨rfl, h19⟩ := asNil_inv h18; clear h18
  intro J hJ
  have hp : ∀ c' ∈ subsOf (E.info 30).keep (body Try.f30 15), SubOK E (inlF (PA (ACall E)) E 8) (E.info 30).keep 0 Try.f30.ntmps (lofL Ll30r15) c' := all_eq (by kernel_rfl : subsOf (E.info 30).keep (body Try.f30 15) = []) (all_nil)
  exact h19.of (fun s1 s2 s3 s4 s5 s6 s7 => J [(31000015, .undef), (2, I s1), (3, I s2), (4, .ptr 0 0 []), (11, I s3), (51, .d (.sl (.int .i64)) s4), (52, I s5), (53, I s6)] [.one (.pair (.int .i64) (.pair (.int .i64) (.pair (.int .i64) (.pair (.arr 16 (.int .i64)) (.pair (.sl (.int .i64)) .unit))))) (.d (.pair (.int .i64) (.pair (.int .i64) (.pair (.int .i64) (.pair (.arr 16 (.int .i64)) (.pair (.sl (.int .i64)) .unit))))) s7)]) (fun s1 s2 s3 s4 s5 s6 s7 hb => loop_round2 (S := ofL Sl30r15) (L := lofL Ll30r15) hSl30r15 (inlOK _) hp hJ (by kernel_rfl) hb)

abbrev S30 : List (Nat × Pat × Sp) := [(11, none, sp11), (8, none, sp8)]
theorem hS30 : SpecOK E (ofL S30) := specOK_cons h11 (specOK_cons h8 (specOK_nil))
abbrev L30 : List (Nat × List Nat × Pat × LSp) := [(31000004, [2, 3, 4, 5, 19, 20, 21], none, lsl30r4), (31000015, [2, 3, 4, 11, 51, 52, 53], none, lsl30r15)]
def sp30 : Sp := fun args τ K => asCons args fun a1 r1 => asD (.pair (.int .i64) (.pair (.int .i64) (.pair (.int .i64) (.pair (.arr 16 (.int .i64)) (.pair (.sl (.int .i64)) .unit))))) a1 fun x1 => asCons r1 fun a2 r2 => asD opT a2 fun x2 => asCons r2 fun a3 r3 => asD (.int .i64) a3 fun x3 => asCons r3 fun a4 r4 => asD (.int .i64) a4 fun x4 => asNil r4 <| asNil τ <| c30 x1 x2 x3 x4 (fun z1 => K (B z1) [])
theorem h30 : ∀ args τ K, sp30 args τ K → ACall E 30 args τ K := by
  intro args τ K h0
  unfold sp30 at h0
  obtain ⟨a1, r1, rfl, h1⟩ := asCons_inv h0; clear h0
  obtain ⟨x1, rfl, h2⟩ := asD_inv h1; clear h1
  obtain ⟨a2, r2, rfl, h3⟩ := asCons_inv h2; clear h2
  obtain ⟨x2, rfl, h4⟩ := asD_inv h3; clear h3
  obtain ⟨a3, r3, rfl, h5⟩ := asCons_inv h4; clear h4
  obtain ⟨x3, rfl, h6⟩ := asD_inv h5; clear h5
  obtain ⟨a4, r4, rfl, h7⟩ := asCons_inv h6; clear h6
  obtain ⟨x4, rfl, h8⟩ := asD_inv h7; clear h7
  obtain ⟨rfl, h9⟩ := asNil_inv h8; clear h8
  obtain ⟨rfl, h10⟩ := asNil_inv h9; clear h9
  exact ACall.spec2 (fn := Try.f30) (c := codeOf Try.f30) (S := ofL S30) (L := lofL L30) hS30 (by kernel_rfl) (by kernel_rfl) (inlOK _) (all_eq (by kernel_rfl : subsOf (E.info 30).keep (codeOf Try.f30) = [.loop (body Try.f30 4), .loop (body Try.f30 15)]) (all_cons (loopOK_of (mk := 31000004) (sl := [2, 3, 4, 5, 19, 20, 21]) (ss := [([2, 3, 4, 5, 19, 20, 21], lsl30r4)]) (by kernel_rfl) (by kernel_rfl) (all_cons l30r4v (all_nil))) (all_cons (loopOK_of (mk := 31000015) (sl := [2, 3, 4, 11, 51, 52, 53]) (ss := [([2, 3, 4, 11, 51, 52, 53], lsl30r15)]) (by kernel_rfl) (by kernel_rfl) (all_cons l30r15v (all_nil))) (all_nil)))) (by kernel_rfl) h10.of

abbrev Sl19r13 : List (Nat × Pat × Sp) := [(30, none, sp30)]
theorem hSl19r13 : SpecOK E (ofL Sl19r13) := specOK_cons h30 (specOK_nil)
abbrev Ll19r13 : List (Nat × List Nat × Pat × LSp) := []
def lsl19r13 : LSp := fun vs σ K => asCons vs fun a1 r1 => asD (.int .i64) a1 fun s1 => asCons r1 fun a2 r2 => asP (.ptr 0 0 []) a2 <| asCons r2 fun a3 r3 => asP (.ptr 1 0 []) a3 <| asCons r3 fun a4 r4 => asP (.ptr 2 0 []) a4 <| asCons r4 fun a5 r5 => asD (.int .i64) a5 fun s2 => asCons r5 fun a6 r6 => asD (.int .i64) a6 fun s3 => asNil r6 <| asCons σ fun a7 r7 => asOne (.pair (.int .i64) (.pair (.int .i64) (.pair (.int .i64) (.pair (.arr 16 (.int .i64)) (.pair (.sl (.int .i64)) .unit))))) a7 fun a8 => asD (.pair (.int .i64) (.pair (.int .i64) (.pair (.int .i64) (.pair (.arr 16 (.int .i64)) (.pair (.sl (.int .i64)) .unit))))) a8 fun s4 => asCons r7 fun a9 r9 => asOne opT a9 fun a10 => asD opT a10 fun s5 => asCons r9 fun a11 r11 => asOne (.pair (.int .i64) (.pair (.int .i64) (.pair (.int .i64) (.pair (.arr 16 (.int .i64)) (.pair (.sl (.int .i64)) .unit))))) a11 fun a12 => asAgL a12 fun l13 => asCons l13 fun a14 r14 => asD (.int .i64) a14 fun s6 => asCons r14 fun a15 r15 => asD (.int .i64) a15 fun s7 => asCons r15 fun a16 r16 => asD (.int .i64) a16 fun s8 => asCons r16 fun a17 r17 => asD (.arr 16 (.int .i64)) a17 fun s9 => asCons r17 fun a18 r18 => asP (.vec 3) a18 <| asNil r18 <| asCons r11 fun a19 r19 => asRw (.int .i64) false a19 fun s10 => asNil r19 <| l19r13 (fun z1 z2 z3 z4 z5 z6 z7 z8 z9 z10 => K (.exit 2) [(2, I z1), (3, .ptr 0 0 []), (4, .ptr 1 0 []), (6, .ptr 2 0 []), (8, I z2), (9, I z3)] [.one (.pair (.int .i64) (.pair (.int .i64) (.pair (.int .i64) (.pair (.arr 16 (.int .i64)) (.pair (.sl (.int .i64)) .unit))))) (.d (.pair (.int .i64) (.pair (.int .i64) (.pair (.int .i64) (.pair (.arr 16 (.int .i64)) (.pair (.sl (.int .i64)) .unit))))) z4), .one opT (.d opT z5), .one (.pair (.int .i64) (.pair (.int .i64) (.pair (.int .i64) (.pair (.arr 16 (.int .i64)) (.pair (.sl (.int .i64)) .unit))))) (.agg [I z6, I z7, I z8, .d (.arr 16 (.int .i64)) z9, .vec 3]), .row (.int .i64) z10 false]) s1 s2 s3 s4 s5 s6 s7 s8 s9 s10
theorem l19r13v : LoopV E (inlF (PA (ACall E)) E 8) (E.info 19).keep 0 Try.f19.ntmps 20000013 (body Try.f19 13) ([2, 3, 4, 6, 8, 9], lsl19r13) := by
  intro vs σ K (h0 : lsl19r13 vs σ K)
  unfold lsl19r13 at h0
  obtain ⟨a1, r1, rfl, h1⟩ := asCons_inv h0; clear h0
  obtain ⟨s1, rfl, h2⟩ := asD_inv h1; clear h1
  obtain ⟨a2, r2, rfl, h3⟩ := asCons_inv h2; clear h2
  obtain ⟨rfl, h4⟩ := asP_inv h3; clear h3
  obtain ⟨a3, r3, rfl, h5⟩ := asCons_inv h4; clear h4
  obtain ⟨rfl, h6⟩ := asP_inv h5; clear h5
  obtain ⟨a4, r4, rfl, h7⟩ := asCons_inv h6; clear h6
  obtain ⟨rfl, h8⟩ := asP_inv h7; clear h7
  obtain ⟨a5, r5, rfl, h9⟩ := asCons_inv h8; clear h8
  obtain ⟨s2, rfl, h10⟩ := asD_inv h9; clear h9
  obtain ⟨a6, r6, rfl, h11⟩ := asCons_inv h10; clear h10
  obtain ⟨s3, rfl, h12⟩ := asD_inv h11; clear h11
  obtain ⟨rfl, h13⟩ := asNil_inv h12; clear h12
  obtain ⟨a7, r7, rfl, h14⟩ := asCons_inv h13; clear h13
  obtain ⟨a8, rfl, h15⟩ := asOne_inv h14; clear h14
  obtain ⟨s4, rfl, h16⟩ := asD_inv h15; clear h15
  obtain ⟨a9, r9, rfl, h17⟩ := asCons_inv h16; clear h16
  obtain ⟨a10, rfl, h18⟩ := asOne_inv h17; clear h17
  obtain ⟨s5, rfl, h19⟩ := asD_inv h18; clear h18
  obtain ⟨a11, r11, rfl, h20⟩ := asCons_inv h19; clear h19
  obtain ⟨a12, rfl, h21⟩ := asOne_inv h20; clear h20
  obtain ⟨l13, rfl, h22⟩ := asAgL_inv h21; clear h21
  obtain ⟨a14, r14, rfl, h23⟩ := asCons_inv h22; clear h22
  obtain ⟨s6, rfl, h24⟩ := asD_inv h23; clear h23
  obtain ⟨a15, r15, rfl, h25⟩ := asCons_inv h24; clear h24
  obtain ⟨s7, rfl, h26⟩ := asD_inv h25; clear h25
  obtain ⟨a16, r16, rfl, h27⟩ := asCons_inv h26; clear h26
  obtain ⟨s8, rfl, h28⟩ := asD_inv h27; clear h27
  obtain ⟨a17, r17, rfl, h29⟩ := asCons_inv h28; clear h28
  obtain ⟨s9, rfl, h30⟩ := asD_inv h29; clear h29
  obtain ⟨a18, r18, rfl, h31⟩ := asCons_inv h30; clear h30
  obtain ⟨rfl, h32⟩ := asP_inv h31; clear h31
  obtain ⟨rfl, h33⟩ := asNil_inv h32; clear h32
  obtain ⟨a19, r19, rfl, h34⟩ := asCons_inv h33; clear h33
  obtain ⟨s10, rfl, h35⟩ := asRw_inv h34; clear h34
  obtain ⟨rfl, h36⟩ := asNil_inv h35; clear h35
  intro J hJ
  have hp : ∀ c' ∈ subsOf (E.info 19).keep (body Try.f19 13), SubOK E (inlF (PA (ACall E)) E 8) (E.info 19).keep 0 Try.f19.ntmps (lofL Ll19r13) c' := all_eq (by kernel_rfl : subsOf (E.info 19).keep (body Try.f19 13) = []) (all_nil)
  exact h36.of (fun s1 s2 s3 s4 s5 s6 s7 s8 s9 s10 => J [(20000013, .undef), (2, I s1), (3, .ptr 0 0 []), (4, .ptr 1 0 []), (6, .ptr 2 0 []), (8, I s2), (9, I s3)] [.one (.pair (.int .i64) (.pair (.int .i64) (.pair (.int .i64) (.pair (.arr 16 (.int .i64)) (.pair (.sl (.int .i64)) .unit))))) (.d (.pair (.int .i64) (.pair (.int .i64) (.pair (.int .i64) (.pair (.arr 16 (.int .i64)) (.pair (.sl (.int .i64)) .unit))))) s4), .one opT (.d opT s5), .one (.pair (.int .i64) (.pair (.int .i64) (.pair (.int .i64) (.pair (.arr 16 (.int .i64)) (.pair (.sl (.int .i64)) .unit))))) (.agg [I s6, I s7, I s8, .d (.arr 16 (.int .i64)) s9, .vec 3]), .row (.int .i64) s10 false]) (fun s1 s2 s3 s4 s5 s6 s7 s8 s9 s10 hb => loop_round2 (S := ofL Sl19r13) (L := lofL Ll19r13) hSl19r13 (inlOK _) hp hJ (by kernel_rfl) hb)

abbrev Sl19r25 : List (Nat × Pat × Sp) := []
theorem hSl19r25 : SpecOK E (ofL Sl19r25) := specOK_nil
abbrev Ll19r25 : List (Nat × List Nat × Pat × LSp) := []
def lsl19r25 : LSp := fun vs σ K => asCons vs fun a1 r1 => asP (.ptr 0 0 []) a1 <| asCons r1 fun a2 r2 => asD (.int .i64) a2 fun s1 => asCons r2 fun a3 r3 => asD (.int .i64) a3 fun s2 => asCons r3 fun a4 r4 => asP (.ptr 2 0 []) a4 <| asCons r4 fun a5 r5 => asP (.vec 4) a5 <| asCons r5 fun a6 r6 => asD (.int .i64) a6 fun s3 => asNil r6 <| asCons σ fun a7 r7 => asOne (.pair (.int .i64) (.pair (.int .i64) (.pair (.int .i64) (.pair (.arr 16 (.int .i64)) (.pair (.sl (.int .i64)) .unit))))) a7 fun a8 => asAgL a8 fun l9 => asCons l9 fun a10 r10 => asD (.int .i64) a10 fun s4 => asCons r10 fun a11 r11 => asD (.int .i64) a11 fun s5 => asCons r11 fun a12 r12 => asD (.int .i64) a12 fun s6 => asCons r12 fun a13 r13 => asD (.arr 16 (.int .i64)) a13 fun s7 => asCons r13 fun a14 r14 => asP (.vec 1) a14 <| asNil r14 <| asCons r7 fun a15 r15 => asRw (.int .i64) false a15 fun s8 => asCons r15 fun a16 r16 => asOne (.pair (.int .i64) (.pair (.int .i64) (.pair (.int .i64) (.pair (.arr 16 (.int .i64)) (.pair (.sl (.int .i64)) .unit))))) a16 fun a17 => asAgL a17 fun l18 => asCons l18 fun a19 r19 => asD (.int .i64) a19 fun s9 => asCons r19 fun a20 r20 => asD (.int .i64) a20 fun s10 => asCons r20 fun a21 r21 => asD (.int .i64) a21 fun s11 => asCons r21 fun a22 r22 => asD (.arr 16 (.int .i64)) a22 fun s12 => asCons r22 fun a23 r23 => asP (.vec 3) a23 <| asNil r23 <| asCons r16 fun a24 r24 => asRw (.int .i64) false a24 fun s13 => asCons r24 fun a25 r25 => asRw (.int .i64) false a25 fun s14 => asNil r25 <| l19r25 (fun z1 z2 z3 z4 z5 z6 z7 z8 z9 z10 z11 z12 z13 z14 => K (.exit 4) [(6, .ptr 0 0 []), (8, I z1), (9, I z2), (13, .ptr 2 0 []), (14, .vec 4), (16, I z3)] [.one (.pair (.int .i64) (.pair (.int .i64) (.pair (.int .i64) (.pair (.arr 16 (.int .i64)) (.pair (.sl (.int .i64)) .unit))))) (.agg [I z4, I z5, I z6, .d (.arr 16 (.int .i64)) z7, .vec 1]), .row (.int .i64) z8 false, .one (.pair (.int .i64) (.pair (.int .i64) (.pair (.int .i64) (.pair (.arr 16 (.int .i64)) (.pair (.sl (.int .i64)) .unit))))) (.agg [I z9, I z10, I z11, .d (.arr 16 (.int .i64)) z12, .vec 3]), .row (.int .i64) z13 false, .row (.int .i64) z14 false]) s1 s2 s3 s4 s5 s6 s7 s8 s9 s10 s11 s12 s13 s14
theorem l19r25v : LoopV E (inlF (PA (ACall E)) E 8) (E.info 19).keep 0 Try.f19.ntmps 20000025 (body Try.f19 25) ([6, 8, 9, 13, 14, 16], lsl19r25) := by
  intro vs σ K (h0 : lsl19r25 vs σ K)
  unfold lsl19r25 at h0
  obtain ⟨a1, r1, rfl, h1⟩ := asCons_inv h0; clear h0
  obtain ⟨rfl, h2⟩ := asP_inv h1; clear h1
  obtain ⟨a2, r2, rfl, h3⟩ := asCons_inv h2; clear h2
  obtain ⟨s1, rfl, h4⟩ := asD_inv h3; clear h3
  obtain ⟨a3, r3, rfl, h5⟩ := asCons_inv h4; clear h4
  obtain ⟨s2, rfl, h6⟩ := asD_inv h5; clear h5
  obtain ⟨a4, r4, rfl, h7⟩ := asCons_inv h6; clear h6
  obtain ⟨rfl, h8⟩ := asP_inv h7; clear h7
  obtain ⟨a5, r5, rfl, h9⟩ := asCons_inv h8; clear h8
  obtain ⟨rfl, h10⟩ := asP_inv h9; clear h9
  obtain ⟨a6, r6, rfl, h11⟩ := asCons_inv h10; clear h10
  obtain ⟨s3, rfl, h12⟩ := asD_inv h11; clear h11
  obtain ⟨rfl, h13⟩ := asNil_inv h12; clear h12
  obtain ⟨a7, r7, rfl, h14⟩ := asCons_inv h13; clear h13
  obtain ⟨a8, rfl, h15⟩ := asOne_inv h14; clear h14
  obtain ⟨l9, rfl, h16⟩ := asAgL_inv h15; clear h15
  obtain ⟨a10, r10, rfl, h17⟩ := asCons_inv h16; clear h16
  obtain ⟨s4, rfl, h18⟩ := asD_inv h17; clear h17
  obtain ⟨a11, r11, rfl, h19⟩ := asCons_inv h18; clear h18
  obtain ⟨s5, rfl, h20⟩ := asD_inv h19; clear h19
  obtain ⟨a12, r12, rfl, h21⟩ := asCons_inv h20; clear h20
  obtain ⟨s6, rfl, h22⟩ := asD_inv h21; clear h21
  obtain ⟨a13, r13, rfl, h23⟩ := asCons_inv h22; clear h22
  obtain ⟨s7, rfl, h24⟩ := asD_inv h23; clear h23
  obtain ⟨a14, r14, rfl, h25⟩ := asCons_inv h24; clear h24
  obtain ⟨rfl, h26⟩ := asP_inv h25; clear h25
  obtain ⟨rfl, h27⟩ := asNil_inv h26; clear h26
  obtain ⟨a15, r15, rfl, h28⟩ := asCons_inv h27; clear h27
  obtain ⟨s8, rfl, h29⟩ := asRw_inv h28; clear h28
  obtain ⟨a16, r16, rfl, h30⟩ := asCons_inv h29; clear h29
  obtain ⟨a17, rfl, h31⟩ := asOne_inv h30; clear h30
  obtain ⟨l18, rfl, h32⟩ := asAgL_inv h31; clear h31
  obtain ⟨a19, r19, rfl, h33⟩ := asCons_inv h32; clear h32
  obtain ⟨s9, rfl, h34⟩ := asD_inv h33; clear h33
  obtain ⟨a20, r20, rfl, h35⟩ := asCons_inv h34; clear h34
  obtain ⟨s10, rfl, h36⟩ := asD_inv h35; clear h35
  obtain ⟨a21, r21, rfl, h37⟩ := asCons_inv h36; clear h36
  obtain ⟨s11, rfl, h38⟩ := asD_inv h37; clear h37
  obtain ⟨a22, r22, rfl, h39⟩ := asCons_inv h38; clear h38
  obtain ⟨s12, rfl, h40⟩ := asD_inv h39; clear h39
  obtain ⟨a23, r23, rfl, h41⟩ := asCons_inv h40; clear h40
  obtain ⟨rfl, h42⟩ := asP_inv h41; clear h41
  obtain ⟨rfl, h43⟩ := asNil_inv h42; clear h42
  obtain ⟨a24, r24, rfl, h44⟩ := asCons_inv h43; clear h43
  obtain ⟨s13, rfl, h45⟩ := asRw_inv h44; clear h44
  obtain ⟨a25, r25, rfl, h46⟩ := asCons_inv h45; clear h45
  obtain ⟨s14, rfl, h47⟩ := asRw_inv h46; clear h46
  obtain ⟨rfl, h48⟩ := asNil_inv h47; clear h47
  intro J hJ
  have hp : ∀ c' ∈ subsOf (E.info 19).keep (body Try.f19 25), SubOK E (inlF (PA (ACall E)) E 8) (E.info 19).keep 0 Try.f19.ntmps (lofL Ll19r25) c' := all_eq (by kernel_rfl : subsOf (E.info 19).keep (body Try.f19 25) = []) (all_nil)
  exact h48.of (fun s1 s2 s3 s4 s5 s6 s7 s8 s9 s10 s11 s12 s13 s14 => J [(20000025, .undef), (6, .ptr 0 0 []), (8, I s1), (9, I s2), (13, .ptr 2 0 []), (14, .vec 4), (16, I s3)] [.one (.pair (.int .i64) (.pair (.int .i64) (.pair (.int .i64) (.pair (.arr 16 (.int .i64)) (.pair (.sl (.int .i64)) .unit))))) (.agg [I s4, I s5, I s6, .d (.arr 16 (.int .i64)) s7, .vec 1]), .row (.int .i64) s8 false, .one (.pair (.int .i64) (.pair (.int .i64) (.pair (.int .i64) (.pair (.arr 16 (.int .i64)) (.pair (.sl (.int .i64)) .unit))))) (.agg [I s9, I s10, I s11, .d (.arr 16 (.int .i64)) s12, .vec 3]), .row (.int .i64) s13 false, .row (.int .i64) s14 false]) (fun s1 s2 s3 s4 s5 s6 s7 s8 s9 s10 s11 s12 s13 s14 hb => loop_round2 (S := ofL Sl19r25) (L := lofL Ll19r25) hSl19r25 (inlOK _) hp hJ (by kernel_rfl) hb)

abbrev Sl19r29 : List (Nat × Pat × Sp) := []
theorem hSl19r29 : SpecOK E (ofL Sl19r29) := specOK_nil
abbrev Ll19r29 : List (Nat × List Nat × Pat × LSp) := []
def lsl19r29 : LSp := fun vs σ K => asCons vs fun a1 r1 => asP (.ptr 0 0 []) a1 <| asCons r1 fun a2 r2 => asD (.int .i64) a2 fun s1 => asCons r2 fun a3 r3 => asP (.ptr 2 0 []) a3 <| asCons r3 fun a4 r4 => asSl 4 true a4 fun s2 s3 s4 => asCons r4 fun a5 r5 => asD (.int .i64) a5 fun s5 => asCons r5 fun a6 r6 => asD (.int .i64) a6 fun s6 => asNil r6 <| asCons σ fun a7 r7 => asOne (.pair (.int .i64) (.pair (.int .i64) (.pair (.int .i64) (.pair (.arr 16 (.int .i64)) (.pair (.sl (.int .i64)) .unit))))) a7 fun a8 => asAgL a8 fun l9 => asCons l9 fun a10 r10 => asD (.int .i64) a10 fun s7 => asCons r10 fun a11 r11 => asD (.int .i64) a11 fun s8 => asCons r11 fun a12 r12 => asD (.int .i64) a12 fun s9 => asCons r12 fun a13 r13 => asD (.arr 16 (.int .i64)) a13 fun s10 => asCons r13 fun a14 r14 => asP (.vec 1) a14 <| asNil r14 <| asCons r7 fun a15 r15 => asRw (.int .i64) false a15 fun s11 => asCons r15 fun a16 r16 => asOne (.pair (.int .i64) (.pair (.int .i64) (.pair (.int .i64) (.pair (.arr 16 (.int .i64)) (.pair (.sl (.int .i64)) .unit))))) a16 fun a17 => asAgL a17 fun l18 => asCons l18 fun a19 r19 => asD (.int .i64) a19 fun s12 => asCons r19 fun a20 r20 => asD (.int .i64) a20 fun s13 => asCons r20 fun a21 r21 => asD (.int .i64) a21 fun s14 => asCons r21 fun a22 r22 => asD (.arr 16 (.int .i64)) a22 fun s15 => asCons r22 fun a23 r23 => asP (.vec 3) a23 <| asNil r23 <| asCons r16 fun a24 r24 => asRw (.int .i64) false a24 fun s16 => asCons r24 fun a25 r25 => asRw (.int .i64) false a25 fun s17 => asNil r25 <| l19r29 (fun z1 z2 z3 z4 z5 z6 z7 z8 z9 z10 z11 => K (.exit 6) [(6, .ptr 0 0 []), (9, I z1), (13, .ptr 2 0 [])] [.one (.pair (.int .i64) (.pair (.int .i64) (.pair (.int .i64) (.pair (.arr 16 (.int .i64)) (.pair (.sl (.int .i64)) .unit))))) (.agg [I z2, I z3, I z4, .d (.arr 16 (.int .i64)) z5, .vec 1]), .row (.int .i64) z6 false, .one (.pair (.int .i64) (.pair (.int .i64) (.pair (.int .i64) (.pair (.arr 16 (.int .i64)) (.pair (.sl (.int .i64)) .unit))))) (.agg [I z7, I z8, I z9, .d (.arr 16 (.int .i64)) z10, .vec 3]), .row (.int .i64) z11 false]) s1 s2 s3 s4 s5 s6 s7 s8 s9 s10 s11 s12 s13 s14 s15 s16 s17
theorem l19r29v : LoopV E (inlF (PA (ACall E)) E 8) (E.info 19).keep 0 Try.f19.ntmps 20000029 (body Try.f19 29) ([6, 9, 13, 149, 150, 151], lsl19r29) := by
  intro vs σ K (h0 : lsl19r29 vs σ K)
  unfold lsl19r29 at h0
  obtain ⟨a1, r1, rfl, h1⟩ := asCons_inv h0; clear h0
  obtain ⟨rfl, h2⟩ := asP_inv h1; clear h1
  obtain ⟨a2, r2, rfl, h3⟩ := asCons_inv h2; clear h2
  obtain ⟨s1, rfl, h4⟩ := asD_inv h3; clear h3
  obtain ⟨a3, r3, rfl, h5⟩ := asCons_inv h4; clear h4
  obtain ⟨rfl, h6⟩ := asP_inv h5; clear h5
  obtain ⟨a4, r4, rfl, h7⟩ := asCons_inv h6; clear h6
  obtain ⟨s2, s3, s4, rfl, h8⟩ := asSl_inv h7; clear h7
  obtain ⟨a5, r5, rfl, h9⟩ := asCons_inv h8; clear h8
  obtain ⟨s5, rfl, h10⟩ := asD_inv h9; clear h9
  obtain ⟨a6, r6, rfl, h11⟩ := asCons_inv h10; clear h10
  obtain ⟨s6, rfl, h12⟩ := asD_inv h11; clear h11
  obtain ⟨rfl, h13⟩ := asNil_inv h12; clear h12
  obtain ⟨a7, r7, rfl, h14⟩ := asCons_inv h13; clear h13
  obtain ⟨a8, rfl, h15⟩ := asOne_inv h14; clear h14
  obtain ⟨l9, rfl, h16⟩ := asAgL_inv h15; clear h15
  obtain ⟨a10, r10, rfl, h17⟩ := asCons_inv h16; clear h16
  obtain ⟨s7, rfl, h18⟩ := asD_inv h17; clear h17
  obtain ⟨a11, r11, rfl, h19⟩ := asCons_inv h18; clear h18
  obtain ⟨s8, rfl, h20⟩ := asD_inv h19; clear h19
  obtain ⟨a12, r12, rfl, h21⟩ := asCons_inv h20; clear h20
  obtain ⟨s9, rfl, h22⟩ := asD_inv h21; clear h21
  obtain ⟨a13, r13, rfl, h23⟩ := asCons_inv h22; clear h22
  obtain ⟨s10, rfl, h24⟩ := asD_inv h23; clear h23
  obtain ⟨a14, r14, rfl, h25⟩ := asCons_inv h24; clear h24
  obtain ⟨rfl, h26⟩ := asP_inv h25; clear h25
  obtain ⟨rfl, h27⟩ := asNil_inv h26; clear h26
  obtain ⟨a15, r15, rfl, h28⟩ := asCons_inv h27; clear h27
  obtain ⟨s11, rfl, h29⟩ := asRw_inv h28; clear h28
  obtain ⟨a16, r16, rfl, h30⟩ := asCons_inv h29; clear h29
  obtain ⟨a17, rfl, h31⟩ := asOne_inv h30; clear h30
  obtain ⟨l18, rfl, h32⟩ := asAgL_inv h31; clear h31
  obtain ⟨a19, r19, rfl, h33⟩ := asCons_inv h32; clear h32
  obtain ⟨s12, rfl, h34⟩ := asD_inv h33; clear h33
  obtain ⟨a20, r20, rfl, h35⟩ := asCons_inv h34; clear h34
  obtain ⟨s13, rfl, h36⟩ := asD_inv h35; clear h35
  obtain ⟨a21, r21, rfl, h37⟩ := asCons_inv h36; clear h36
  obtain ⟨s14, rfl, h38⟩ := asD_inv h37; clear h37
  obtain ⟨a22, r22, rfl, h39⟩ := asCons_inv h38; clear h38
  obtain ⟨s15, rfl, h40⟩ := asD_inv h39; clear h39
  obtain ⟨a23, r23, rfl, h41⟩ := asCons_inv h40; clear h40
  obtain ⟨rfl, h42⟩ := asP_inv h41; clear h41
  obtain ⟨rfl, h43⟩ := asNil_inv h42; clear h42
  obtain ⟨a24, r24, rfl, h44⟩ := asCons_inv h43; clear h43
  obtain ⟨s16, rfl, h45⟩ := asRw_inv h44; clear h44
  obtain ⟨a25, r25, rfl, h46⟩ := asCons_inv h45; clear h45
  obtain ⟨s17, rfl, h47⟩ := asRw_inv h46; clear h46
  obtain ⟨rfl, h48⟩ := asNil_inv h47; clear h47
  intro J hJ
  have hp : ∀ c' ∈ subsOf (E.info 19).keep (body Try.f19 29), SubOK E (inlF (PA (ACall E)) E 8) (E.info 19).keep 0 Try.f19.ntmps (lofL Ll19r29) c' := all_eq (by kernel_rfl : subsOf (E.info 19).keep (body Try.f19 29) = []) (all_nil)
  exact h48.of (fun s1 s2 s3 s4 s5 s6 s7 s8 s9 s10 s11 s12 s13 s14 s15 s16 s17 => J [(20000029, .undef), (6, .ptr 0 0 []), (9, I s1), (13, .ptr 2 0 []), (149, .sl 4 s2 s3 s4 true), (150, I s5), (151, I s6)] [.one (.pair (.int .i64) (.pair (.int .i64) (.pair (.int .i64) (.pair (.arr 16 (.int .i64)) (.pair (.sl (.int .i64)) .unit))))) (.agg [I s7, I s8, I s9, .d (.arr 16 (.int .i64)) s10, .vec 1]), .row (.int .i64) s11 false, .one (.pair (.int .i64) (.pair (.int .i64) (.pair (.int .i64) (.pair (.arr 16 (.int .i64)) (.pair (.sl (.int .i64)) .unit))))) (.agg [I s12, I s13, I s14, .d (.arr 16 (.int .i64)) s15, .vec 3]), .row (.int .i64) s16 false, .row (.int .i64) s17 false]) (fun s1 s2 s3 s4 s5 s6 s7 s8 s9 s10 s11 s12 s13 s14 s15 s16 s17 hb => loop_round2 (S := ofL Sl19r29) (L := lofL Ll19r29) hSl19r29 (inlOK _) hp hJ (by kernel_rfl) hb)

abbrev Sl19r29v2 : List (Nat × Pat × Sp) := []
theorem hSl19r29v2 : SpecOK E (ofL Sl19r29v2) := specOK_nil
abbrev Ll19r29v2 : List (Nat × List Nat × Pat × LSp) := []
def lsl19r29v2 : LSp := fun vs σ K => asCons vs fun a1 r1 => asP (.ptr 0 0 []) a1 <| asCons r1 fun a2 r2 => asD (.int .i64) a2 fun s1 => asCons r2 fun a3 r3 => asP (.ptr 2 0 []) a3 <| asCons r3 fun a4 r4 => asP (.vec 4) a4 <| asCons r4 fun a5 r5 => asD (.int .i64) a5 fun s2 => asCons r5 fun a6 r6 => asD (.int .i64) a6 fun s3 => asNil r6 <| asCons σ fun a7 r7 => asOne (.pair (.int .i64) (.pair (.int .i64) (.pair (.int .i64) (.pair (.arr 16 (.int .i64)) (.pair (.sl (.int .i64)) .unit))))) a7 fun a8 => asAgL a8 fun l9 => asCons l9 fun a10 r10 => asD (.int .i64) a10 fun s4 => asCons r10 fun a11 r11 => asD (.int .i64) a11 fun s5 => asCons r11 fun a12 r12 => asD (.int .i64) a12 fun s6 => asCons r12 fun a13 r13 => asD (.arr 16 (.int .i64)) a13 fun s7 => asCons r13 fun a14 r14 => asP (.vec 1) a14 <| asNil r14 <| asCons r7 fun a15 r15 => asRw (.int .i64) false a15 fun s8 => asCons r15 fun a16 r16 => asOne (.pair (.int .i64) (.pair (.int .i64) (.pair (.int .i64) (.pair (.arr 16 (.int .i64)) (.pair (.sl (.int .i64)) .unit))))) a16 fun a17 => asAgL a17 fun l18 => asCons l18 fun a19 r19 => asD (.int .i64) a19 fun s9 => asCons r19 fun a20 r20 => asD (.int .i64) a20 fun s10 => asCons r20 fun a21 r21 => asD (.int .i64) a21 fun s11 => asCons r21 fun a22 r22 => asD (.arr 16 (.int .i64)) a22 fun s12 => asCons r22 fun a23 r23 => asP (.vec 3) a23 <| asNil r23 <| asCons r16 fun a24 r24 => asRw (.int .i64) false a24 fun s13 => asCons r24 fun a25 r25 => asRw (.int .i64) false a25 fun s14 => asNil r25 <| l19r29v2 (fun z1 z2 z3 z4 z5 z6 z7 z8 z9 z10 z11 => K (.exit 6) [(6, .ptr 0 0 []), (9, I z1), (13, .ptr 2 0 [])] [.one (.pair (.int .i64) (.pair (.int .i64) (.pair (.int .i64) (.pair (.arr 16 (.int .i64)) (.pair (.sl (.int .i64)) .unit))))) (.agg [I z2, I z3, I z4, .d (.arr 16 (.int .i64)) z5, .vec 1]), .row (.int .i64) z6 false, .one (.pair (.int .i64) (.pair (.int .i64) (.pair (.int .i64) (.pair (.arr 16 (.int .i64)) (.pair (.sl (.int .i64)) .unit))))) (.agg [I z7, I z8, I z9, .d (.arr 16 (.int .i64)) z10, .vec 3]), .row (.int .i64) z11 false]) s1 s2 s3 s4 s5 s6 s7 s8 s9 s10 s11 s12 s13 s14
theorem l19r29v2v : LoopV E (inlF (PA (ACall E)) E 8) (E.info 19).keep 0 Try.f19.ntmps 20000029 (body Try.f19 29) ([6, 9, 13, 149, 150, 151], lsl19r29v2) := by
  intro vs σ K (h0 : lsl19r29v2 vs σ K)
  unfold lsl19r29v2 at h0
  obtain ⟨a1, r1, rfl, h1⟩ := asCons_inv h0; clear h0
  obtain ⟨rfl, h2⟩ := asP_inv h1; clear h1
  obtain ⟨a2, r2, rfl, h3⟩ := asCons_inv h2; clear h2
  obtain ⟨s1, rfl, h4⟩ := asD_inv h3; clear h3
  obtain ⟨a3, r3, rfl, h5⟩ := asCons_inv h4; clear h4
  obtain ⟨rfl, h6⟩ := asP_inv h5; clear h5
  obtain ⟨a4, r4, rfl, h7⟩ := asCons_inv h6; clear h6
  obtain ⟨rfl, h8⟩ := asP_inv h7; clear h7
  obtain ⟨a5, r5, rfl, h9⟩ := asCons_inv h8; clear h8
  obtain ⟨s2, rfl, h10⟩ := asD_inv h9; clear h9
  obtain ⟨a6, r6, rfl, h11⟩ := asCons_inv h10; clear h10
  obtain ⟨s3, rfl, h12⟩ := asD_inv h11; clear h11
  obtain ⟨rfl, h13⟩ := asNil_inv h12; clear h12
  obtain ⟨a7, r7, rfl, h14⟩ := asCons_inv h13; clear h13
  obtain ⟨a8, rfl, h15⟩ := asOne_inv h14; clear h14
  obtain ⟨l9, rfl, h16⟩ := asAgL_inv h15; clear h15
  obtain ⟨a10, r10, rfl, h17⟩ := asCons_inv h16; clear h16
  obtain ⟨s4, rfl, h18⟩ := asD_inv h17; clear h17
  obtain ⟨a11, r11, rfl, h19⟩ := asCons_inv h18; clear h18
  obtain ⟨s5, rfl, h20⟩ := asD_inv h19; clear h19
  obtain ⟨a12, r12, rfl, h21⟩ := asCons_inv h20; clear h20
  obtain ⟨s6, rfl, h22⟩ := asD_inv h21; clear h21
  obtain ⟨a13, r13, rfl, h23⟩ := asCons_inv h22; clear h22
  obtain ⟨s7, rfl, h24⟩ := asD_inv h23; clear h23
  obtain ⟨a14, r14, rfl, h25⟩ := asCons_inv h24; clear h24
  obtain ⟨rfl, h26⟩ := asP_inv h25; clear h25
  obtain ⟨rfl, h27⟩ := asNil_inv h26; clear h26
  obtain ⟨a15, r15, rfl, h28⟩ := asCons_inv h27; clear h27
  obtain ⟨s8, rfl, h29⟩ := asRw_inv h28; clear h28
  obtain ⟨a16, r16, rfl, h30⟩ := asCons_inv h29; clear h29
  obtain ⟨a17, rfl, h31⟩ := asOne_inv h30; clear h30
  obtain ⟨l18, rfl, h32⟩ := asAgL_inv h31; clear h31
  obtain ⟨a19, r19, rfl, h33⟩ := asCons_inv h32; clear h32
  obtain ⟨s9, rfl, h34⟩ := asD_inv h33; clear h33
  obtain ⟨a20, r20, rfl, h35⟩ := asCons_inv h34; clear h34
  obtain ⟨s10, rfl, h36⟩ := asD_inv h35; clear h35
  obtain ⟨a21, r21, rfl, h37⟩ := asCons_inv h36; clear h36
  obtain ⟨s11, rfl, h38⟩ := asD_inv h37; clear h37
  obtain ⟨a22, r22, rfl, h39⟩ := asCons_inv h38; clear h38
  obtain ⟨s12, rfl, h40⟩ := asD_inv h39; clear h39
  obtain ⟨a23, r23, rfl, h41⟩ := asCons_inv h40; clear h40
  obtain ⟨rfl, h42⟩ := asP_inv h41; clear h41
  obtain ⟨rfl, h43⟩ := asNil_inv h42; clear h42
  obtain ⟨a24, r24, rfl, h44⟩ := asCons_inv h43; clear h43
  obtain ⟨s13, rfl, h45⟩ := asRw_inv h44; clear h44
  obtain ⟨a25, r25, rfl, h46⟩ := asCons_inv h45; clear h45
  obtain ⟨s14, rfl, h47⟩ := asRw_inv h46; clear h46
  obtain ⟨rfl, h48⟩ := asNil_inv h47; clear h47
  intro J hJ
  have hp : ∀ c' ∈ subsOf (E.info 19).keep (body Try.f19 29), SubOK E (inlF (PA (ACall E)) E 8) (E.info 19).keep 0 Try.f19.ntmps (lofL Ll19r29v2) c' := all_eq (by kernel_rfl : subsOf (E.info 19).keep (body Try.f19 29) = []) (all_nil)
  exact h48.of (fun s1 s2 s3 s4 s5 s6 s7 s8 s9 s10 s11 s12 s13 s14 => J [(20000029, .undef), (6, .ptr 0 0 []), (9, I s1), (13, .ptr 2 0 []), (149, .vec 4), (150, I s2), (151, I s3)] [.one (.pair (.int .i64) (.pair (.int .i64) (.pair (.int .i64) (.pair (.arr 16 (.int .i64)) (.pair (.sl (.int .i64)) .unit))))) (.agg [I s4, I s5, I s6, .d (.arr 16 (.int .i64)) s7, .vec 1]), .row (.int .i64) s8 false, .one (.pair (.int .i64) (.pair (.int .i64) (.pair (.int .i64) (.pair (.arr 16 (.int .i64)) (.pair (.sl (.int .i64)) .unit))))) (.agg [I s9, I s10, I s11, .d (.arr 16 (.int .i64)) s12, .vec 3]), .row (.int .i64) s13 false, .row (.int .i64) s14 false]) (fun s1 s2 s3 s4 s5 s6 s7 s8 s9 s10 s11 s12 s13 s14 hb => loop_round2 (S := ofL Sl19r29v2) (L := lofL Ll19r29v2) hSl19r29v2 (inlOK _) hp hJ (by kernel_rfl) hb)

abbrev Sj19r20 : List (Nat × Pat × Sp) := [(8, none, sp8)]
theorem hSj19r20 : SpecOK E (ofL Sj19r20) := specOK_cons h8 (specOK_nil)
abbrev Lj19r20 : List (Nat × List Nat × Pat × LSp) := [(20000025, [6, 8, 9, 13, 14, 16], none, lsl19r25), (20000029, [6, 9, 13, 149, 150, 151], some ([.fix (.ptr 0 0 []), .d (.int .i64), .fix (.ptr 2 0 []), .sl 4 true, .d (.int .i64), .d (.int .i64)], [.one (.pair (.int .i64) (.pair (.int .i64) (.pair (.int .i64) (.pair (.arr 16 (.int .i64)) (.pair (.sl (.int .i64)) .unit))))) (.agg [.d (.int .i64), .d (.int .i64), .d (.int .i64), .d (.arr 16 (.int .i64)), .fix (.vec 1)]), .row (.int .i64) false, .one (.pair (.int .i64) (.pair (.int .i64) (.pair (.int .i64) (.pair (.arr 16 (.int .i64)) (.pair (.sl (.int .i64)) .unit))))) (.agg [.d (.int .i64), .d (.int .i64), .d (.int .i64), .d (.arr 16 (.int .i64)), .fix (.vec 3)]), .row (.int .i64) false, .row (.int .i64) false]), lsl19r29), (20000029, [6, 9, 13, 149, 150, 151], some ([.fix (.ptr 0 0 []), .d (.int .i64), .fix (.ptr 2 0 []), .fix (.vec 4), .d (.int .i64), .d (.int .i64)], [.one (.pair (.int .i64) (.pair (.int .i64) (.pair (.int .i64) (.pair (.arr 16 (.int .i64)) (.pair (.sl (.int .i64)) .unit))))) (.agg [.d (.int .i64), .d (.int .i64), .d (.int .i64), .d (.arr 16 (.int .i64)), .fix (.vec 1)]), .row (.int .i64) false, .one (.pair (.int .i64) (.pair (.int .i64) (.pair (.int .i64) (.pair (.arr 16 (.int .i64)) (.pair (.sl (.int .i64)) .unit))))) (.agg [.d (.int .i64), .d (.int .i64), .d (.int .i64), .d (.arr 16 (.int .i64)), .fix (.vec 3)]), .row (.int .i64) false, .row (.int .i64) false]), lsl19r29v2)]
def lsj19r20 : LSp := fun vs σ K => asCons vs fun a1 r1 => asP (.ptr 0 0 []) a1 <| asCons r1 fun a2 r2 => asP (.ptr 1 0 []) a2 <| asCons r2 fun a3 r3 => asP (.ptr 2 0 []) a3 <| asCons r3 fun a4 r4 => asD (.int .i64) a4 fun s1 => asCons r4 fun a5 r5 => asD (.int .i64) a5 fun s2 => asCons r5 fun a6 r6 => asP (.ptr 4 0 []) a6 <| asNil r6 <| asCons σ fun a7 r7 => asOne (.pair (.int .i64) (.pair (.int .i64) (.pair (.int .i64) (.pair (.arr 16 (.int .i64)) (.pair (.sl (.int .i64)) .unit))))) a7 fun a8 => asD (.pair (.int .i64) (.pair (.int .i64) (.pair (.int .i64) (.pair (.arr 16 (.int .i64)) (.pair (.sl (.int .i64)) .unit))))) a8 fun s3 => asCons r7 fun a9 r9 => asOne opT a9 fun a10 => asD opT a10 fun s4 => asCons r9 fun a11 r11 => asOne (.pair (.int .i64) (.pair (.int .i64) (.pair (.int .i64) (.pair (.arr 16 (.int .i64)) (.pair (.sl (.int .i64)) .unit))))) a11 fun a12 => asAgL a12 fun l13 => asCons l13 fun a14 r14 => asD (.int .i64) a14 fun s5 => asCons r14 fun a15 r15 => asD (.int .i64) a15 fun s6 => asCons r15 fun a16 r16 => asD (.int .i64) a16 fun s7 => asCons r16 fun a17 r17 => asD (.arr 16 (.int .i64)) a17 fun s8 => asCons r17 fun a18 r18 => asP (.vec 3) a18 <| asNil r18 <| asCons r11 fun a19 r19 => asRw (.int .i64) false a19 fun s9 => asCons r19 fun a20 r20 => asOne (.pair (.int .i64) (.pair (.int .i64) (.pair (.int .i64) (.pair (.arr 16 (.int .i64)) (.pair (.sl (.int .i64)) .unit))))) a20 fun a21 => asAgL a21 fun l22 => asCons l22 fun a23 r23 => asD (.int .i64) a23 fun s10 => asCons r23 fun a24 r24 => asD (.int .i64) a24 fun s11 => asCons r24 fun a25 r25 => asD (.int .i64) a25 fun s12 => asCons r25 fun a26 r26 => asD (.arr 16 (.int .i64)) a26 fun s13 => asCons r26 fun a27 r27 => asP (.vec 5) a27 <| asNil r27 <| asCons r20 fun a28 r28 => asRw (.int .i64) false a28 fun s14 => asNil r28 <| j19r20 (fun z1 z2 z3 z4 z5 z6 => K .ret [(6, .ptr 0 0 []), (7, I z1)] [.one (.pair (.int .i64) (.pair (.int .i64) (.pair (.int .i64) (.pair (.arr 16 (.int .i64)) (.pair (.sl (.int .i64)) .unit))))) (.agg [I z2, I z3, I z4, .d (.arr 16 (.int .i64)) z5, .vec 1]), .row (.int .i64) z6 false]) s1 s2 s3 s4 s5 s6 s7 s8 s9 s10 s11 s12 s13 s14
theorem j19r20v : JoinV E (inlF (PA (ACall E)) E 8) (E.info 19).keep 0 Try.f19.ntmps 20400020 4000020 (jbody Try.f19 4000020) ([3, 4, 6, 8, 9, 13], lsj19r20) := by
  intro vs σ K (h0 : lsj19r20 vs σ K)
  unfold lsj19r20 at h0
  obtain ⟨a1, r1, rfl, h1⟩ := asCons_inv h0; clear h0
  obtain ⟨rfl, h2⟩ := asP_inv h1; clear h1
  obtain ⟨a2, r2, rfl, h3⟩ := asCons_inv h2; clear h2
  obtain ⟨rfl, h4⟩ := asP_inv h3; clear h3
  obtain ⟨a3, r3, rfl, h5⟩ := asCons_inv h4; clear h4
  obtain ⟨rfl, h6⟩ := asP_inv h5; clear h5
  obtain ⟨a4, r4, rfl, h7⟩ := asCons_inv h6; clear h6
  obtain ⟨s1, rfl, h8⟩ := asD_inv h7; clear h7
  obtain ⟨a5, r5, rfl, h9⟩ := asCons_inv h8; clear h8
  obtain ⟨s2, rfl, h10⟩ := asD_inv h9; clear h9
  obtain ⟨a6, r6, rfl, h11⟩ := asCons_inv h10; clear h10
  obtain ⟨rfl, h12⟩ := asP_inv h11; clear h11
  obtain ⟨rfl, h13⟩ := asNil_inv h12; clear h12
  obtain ⟨a7, r7, rfl, h14⟩ := asCons_inv h13; clear h13
  obtain ⟨a8, rfl, h15⟩ := asOne_inv h14; clear h14
  obtain ⟨s3, rfl, h16⟩ := asD_inv h15; clear h15
  obtain ⟨a9, r9, rfl, h17⟩ := asCons_inv h16; clear h16
  obtain ⟨a10, rfl, h18⟩ := asOne_inv h17; clear h17
  obtain ⟨s4, rfl, h19⟩ := asD_inv h18; clear h18
  obtain ⟨a11, r11, rfl, h20⟩ := asCons_inv h19; clear h19
  obtain ⟨a12, rfl, h21⟩ := asOne_inv h20; clear h20
  obtain ⟨l13, rfl, h22⟩ := asAgL_inv h21; clear h21
  obtain ⟨a14, r14, rfl, h23⟩ := asCons_inv h22; clear h22
  obtain ⟨s5, rfl, h24⟩ := asD_inv h23; clear h23
  obtain ⟨a15, r15, rfl, h25⟩ := asCons_inv h24; clear h24
  obtain ⟨s6, rfl, h26⟩ := asD_inv h25; clear h25
  obtain ⟨a16, r16, rfl, h27⟩ := asCons_inv h26; clear h26
  obtain ⟨s7, rfl, h28⟩ := asD_inv h27; clear h27
  obtain ⟨a17, r17, rfl, h29⟩ := asCons_inv h28; clear h28
  obtain ⟨s8, rfl, h30⟩ := asD_inv h29; clear h29
  obtain ⟨a18, r18, rfl, h31⟩ := asCons_inv h30; clear h30
  obtain ⟨rfl, h32⟩ := asP_inv h31; clear h31
  obtain ⟨rfl, h33⟩ := asNil_inv h32; clear h32
  obtain ⟨a19, r19, rfl, h34⟩ := asCons_inv h33; clear h33
  obtain ⟨s9, rfl, h35⟩ := asRw_inv h34; clear h34
  obtain ⟨a20, r20, rfl, h36⟩ := asCons_inv h35; clear h35
  obtain ⟨a21, rfl, h37⟩ := asOne_inv h36; clear h36
  obtain ⟨l22, rfl, h38⟩ := asAgL_inv h37; clear h37
  obtain ⟨a23, r23, rfl, h39⟩ := asCons_inv h38; clear h38
  obtain ⟨s10, rfl, h40⟩ := asD_inv h39; clear h39
  obtain ⟨a24, r24, rfl, h41⟩ := asCons_inv h40; clear h40
  obtain ⟨s11, rfl, h42⟩ := asD_inv h41; clear h41
  obtain ⟨a25, r25, rfl, h43⟩ := asCons_inv h42; clear h42
  obtain ⟨s12, rfl, h44⟩ := asD_inv h43; clear h43
  obtain ⟨a26, r26, rfl, h45⟩ := asCons_inv h44; clear h44
  obtain ⟨s13, rfl, h46⟩ := asD_inv h45; clear h45
  obtain ⟨a27, r27, rfl, h47⟩ := asCons_inv h46; clear h46
  obtain ⟨rfl, h48⟩ := asP_inv h47; clear h47
  obtain ⟨rfl, h49⟩ := asNil_inv h48; clear h48
  obtain ⟨a28, r28, rfl, h50⟩ := asCons_inv h49; clear h49
  obtain ⟨s14, rfl, h51⟩ := asRw_inv h50; clear h50
  obtain ⟨rfl, h52⟩ := asNil_inv h51; clear h51
  exact join_round2 (S := ofL Sj19r20) (L := lofL Lj19r20) hSj19r20 (inlOK _) (all_eq (by kernel_rfl : subsOf (E.info 19).keep (jbody Try.f19 4000020) = [.loop (body Try.f19 25), .loop (body Try.f19 29)]) (all_cons (loopOK_of (mk := 20000025) (sl := [6, 8, 9, 13, 14, 16]) (ss := [([6, 8, 9, 13, 14, 16], lsl19r25)]) (by kernel_rfl) (by kernel_rfl) (all_cons l19r25v (all_nil))) (all_cons (loopOK_of (mk := 20000029) (sl := [6, 9, 13, 149, 150, 151]) (ss := [([6, 9, 13, 149, 150, 151], lsl19r29), ([6, 9, 13, 149, 150, 151], lsl19r29v2)]) (by kernel_rfl) (by kernel_rfl) (all_cons l19r29v (all_cons l19r29v2v (all_nil)))) (all_nil)))) (by kernel_rfl) h52.of

abbrev Sj19r18 : List (Nat × Pat × Sp) := []
theorem hSj19r18 : SpecOK E (ofL Sj19r18) := specOK_nil
abbrev Lj19r18 : List (Nat × List Nat × Pat × LSp) := [(20400020, [3, 4, 6, 8, 9, 13], none, lsj19r20)]
def lsj19r18 : LSp := fun vs σ K => asCons vs fun a1 r1 => asP (.ptr 0 0 []) a1 <| asCons r1 fun a2 r2 => asP (.ptr 1 0 []) a2 <| asCons r2 fun a3 r3 => asP (.ptr 2 0 []) a3 <| asCons r3 fun a4 r4 => asD (.int .i64) a4 fun s1 => asCons r4 fun a5 r5 => asD (.int .i64) a5 fun s2 => asCons r5 fun a6 r6 => asP (.ptr 4 0 []) a6 <| asNil r6 <| asCons σ fun a7 r7 => asOne (.pair (.int .i64) (.pair (.int .i64) (.pair (.int .i64) (.pair (.arr 16 (.int .i64)) (.pair (.sl (.int .i64)) .unit))))) a7 fun a8 => asD (.pair (.int .i64) (.pair (.int .i64) (.pair (.int .i64) (.pair (.arr 16 (.int .i64)) (.pair (.sl (.int .i64)) .unit))))) a8 fun s3 => asCons r7 fun a9 r9 => asOne opT a9 fun a10 => asD opT a10 fun s4 => asCons r9 fun a11 r11 => asOne (.pair (.int .i64) (.pair (.int .i64) (.pair (.int .i64) (.pair (.arr 16 (.int .i64)) (.pair (.sl (.int .i64)) .unit))))) a11 fun a12 => asAgL a12 fun l13 => asCons l13 fun a14 r14 => asD (.int .i64) a14 fun s5 => asCons r14 fun a15 r15 => asD (.int .i64) a15 fun s6 => asCons r15 fun a16 r16 => asD (.int .i64) a16 fun s7 => asCons r16 fun a17 r17 => asD (.arr 16 (.int .i64)) a17 fun s8 => asCons r17 fun a18 r18 => asP (.vec 3) a18 <| asNil r18 <| asCons r11 fun a19 r19 => asRw (.int .i64) false a19 fun s9 => asCons r19 fun a20 r20 => asOne (.pair (.int .i64) (.pair (.int .i64) (.pair (.int .i64) (.pair (.arr 16 (.int .i64)) (.pair (.sl (.int .i64)) .unit))))) a20 fun a21 => asAgL a21 fun l22 => asCons l22 fun a23 r23 => asD (.int .i64) a23 fun s10 => asCons r23 fun a24 r24 => asD (.int .i64) a24 fun s11 => asCons r24 fun a25 r25 => asD (.int .i64) a25 fun s12 => asCons r25 fun a26 r26 => asD (.arr 16 (.int .i64)) a26 fun s13 => asCons r26 fun a27 r27 => asP (.vec 5) a27 <| asNil r27 <| asCons r20 fun a28 r28 => asRw (.int .i64) false a28 fun s14 => asNil r28 <| j19r18 (fun z1 z2 z3 z4 z5 z6 => K .ret [(6, .ptr 0 0 []), (7, I z1)] [.one (.pair (.int .i64) (.pair (.int .i64) (.pair (.int .i64) (.pair (.arr 16 (.int .i64)) (.pair (.sl (.int .i64)) .unit))))) (.agg [I z2, I z3, I z4, .d (.arr 16 (.int .i64)) z5, .vec 1]), .row (.int .i64) z6 false]) s1 s2 s3 s4 s5 s6 s7 s8 s9 s10 s11 s12 s13 s14
theorem j19r18v : JoinV E (inlF (PA (ACall E)) E 8) (E.info 19).keep 0 Try.f19.ntmps 20400018 4000018 (jbody Try.f19 4000018) ([3, 4, 6, 8, 9, 13], lsj19r18) := by
  intro vs σ K (h0 : lsj19r18 vs σ K)
  unfold lsj19r18 at h0
  obtain ⟨a1, r1, rfl, h1⟩ := asCons_inv h0; clear h0
  obtain ⟨rfl, h2⟩ := asP_inv h1; clear h1
  obtain ⟨a2, r2, rfl, h3⟩ := asCons_inv h2; clear h2
  obtain ⟨rfl, h4⟩ := asP_inv h3; clear h3
  obtain ⟨a3, r3, rfl, h5⟩ := asCons_inv h4; clear h4
  obtain ⟨rfl, h6⟩ := asP_inv h5; clear h5
  obtain ⟨a4, r4, rfl, h7⟩ := asCons_inv h6; clear h6
  obtain ⟨s1, rfl, h8⟩ := asD_inv h7; clear h7
  obtain ⟨a5, r5, rfl, h9⟩ := asCons_inv h8; clear h8
  obtain ⟨s2, rfl, h10⟩ := asD_inv h9; clear h9
  obtain ⟨a6, r6, rfl, h11⟩ := asCons_inv h10; clear h10
  obtain ⟨rfl, h12⟩ := asP_inv h11; clear h11
  obtain ⟨rfl, h13⟩ := asNil_inv h12; clear h12
  obtain ⟨a7, r7, rfl, h14⟩ := asCons_inv h13; clear h13
  obtain ⟨a8, rfl, h15⟩ := asOne_inv h14; clear h14
  obtain ⟨s3, rfl, h16⟩ := asD_inv h15; clear h15
  obtain ⟨a9, r9, rfl, h17⟩ := asCons_inv h16; clear h16
  obtain ⟨a10, rfl, h18⟩ := asOne_inv h17; clear h17
  obtain ⟨s4, rfl, h19⟩ := asD_inv h18; clear h18
  obtain ⟨a11, r11, rfl, h20⟩ := asCons_inv h19; clear h19
  obtain ⟨a12, rfl, h21⟩ := asOne_inv h20; clear h20
  obtain ⟨l13, rfl, h22⟩ := asAgL_inv h21; clear h21
  obtain ⟨a14, r14, rfl, h23⟩ := asCons_inv h22; clear h22
  obtain ⟨s5, rfl, h24⟩ := asD_inv h23; clear h23
  obtain ⟨a15, r15, rfl, h25⟩ := asCons_inv h24; clear h24
  obtain ⟨s6, rfl, h26⟩ := asD_inv h25; clear h25
  obtain ⟨a16, r16, rfl, h27⟩ := asCons_inv h26; clear h26
  obtain ⟨s7, rfl, h28⟩ := asD_inv h27; clear h27
  obtain ⟨a17, r17, rfl, h29⟩ := asCons_inv h28; clear h28
  obtain ⟨s8, rfl, h30⟩ := asD_inv h29; clear h29
  obtain ⟨a18, r18, rfl, h31⟩ := asCons_inv h30; clear h30
  obtain ⟨rfl, h32⟩ := asP_inv h31; clear h31
  obtain ⟨rfl, h33⟩ := asNil_inv h32; clear h32
  obtain ⟨a19, r19, rfl, h34⟩ := asCons_inv h33; clear h33
  obtain ⟨s9, rfl, h35⟩ := asRw_inv h34; clear h34
  obtain ⟨a20, r20, rfl, h36⟩ := asCons_inv h35; clear h35
  obtain ⟨a21, rfl, h37⟩ := asOne_inv h36; clear h36
  obtain ⟨l22, rfl, h38⟩ := asAgL_inv h37; clear h37
  obtain ⟨a23, r23, rfl, h39⟩ := asCons_inv h38; clear h38
  obtain ⟨s10, rfl, h40⟩ := asD_inv h39; clear h39
  obtain ⟨a24, r24, rfl, h41⟩ := asCons_inv h40; clear h40
  obtain ⟨s11, rfl, h42⟩ := asD_inv h41; clear h41
  obtain ⟨a25, r25, rfl, h43⟩ := asCons_inv h42; clear h42
  obtain ⟨s12, rfl, h44⟩ := asD_inv h43; clear h43
  obtain ⟨a26, r26, rfl, h45⟩ := asCons_inv h44; clear h44
  obtain ⟨s13, rfl, h46⟩ := asD_inv h45; clear h45
  obtain ⟨a27, r27, rfl, h47⟩ := asCons_inv h46; clear h46
  obtain ⟨rfl, h48⟩ := asP_inv h47; clear h47
  obtain ⟨rfl, h49⟩ := asNil_inv h48; clear h48
  obtain ⟨a28, r28, rfl, h50⟩ := asCons_inv h49; clear h49
  obtain ⟨s14, rfl, h51⟩ := asRw_inv h50; clear h50
  obtain ⟨rfl, h52⟩ := asNil_inv h51; clear h51
  exact join_round2 (S := ofL Sj19r18) (L := lofL Lj19r18) hSj19r18 (inlOK _) (all_eq (by kernel_rfl : subsOf (E.info 19).keep (jbody Try.f19 4000018) = [.join 4000020 (jbody Try.f19 4000020)]) (all_cons (joinOK_of (mk := 20400020) (sl := [3, 4, 6, 8, 9, 13]) (ss := [([3, 4, 6, 8, 9, 13], lsj19r20)]) (by kernel_rfl) (by kernel_rfl) (all_cons j19r20v (all_nil))) (all_nil))) (by kernel_rfl) h52.of

abbrev Sj19r13 : List (Nat × Pat × Sp) := []
theorem hSj19r13 : SpecOK E (ofL Sj19r13) := specOK_nil
abbrev Lj19r13 : List (Nat × List Nat × Pat × LSp) := [(20000013, [2, 3, 4, 6, 8, 9], none, lsl19r13), (20400018, [3, 4, 6, 8, 9, 13], none, lsj19r18)]
def lsj19r13 : LSp := fun vs σ K => asCons vs fun a1 r1 => asD (.int .i64) a1 fun s1 => asCons r1 fun a2 r2 => asP (.ptr 0 0 []) a2 <| asCons r2 fun a3 r3 => asP (.ptr 1 0 []) a3 <| asCons r3 fun a4 r4 => asP (.ptr 2 0 []) a4 <| asCons r4 fun a5 r5 => asD (.int .i64) a5 fun s2 => asCons r5 fun a6 r6 => asD (.int .i64) a6 fun s3 => asNil r6 <| asCons σ fun a7 r7 => asOne (.pair (.int .i64) (.pair (.int .i64) (.pair (.int .i64) (.pair (.arr 16 (.int .i64)) (.pair (.sl (.int .i64)) .unit))))) a7 fun a8 => asD (.pair (.int .i64) (.pair (.int .i64) (.pair (.int .i64) (.pair (.arr 16 (.int .i64)) (.pair (.sl (.int .i64)) .unit))))) a8 fun s4 => asCons r7 fun a9 r9 => asOne opT a9 fun a10 => asD opT a10 fun s5 => asCons r9 fun a11 r11 => asOne (.pair (.int .i64) (.pair (.int .i64) (.pair (.int .i64) (.pair (.arr 16 (.int .i64)) (.pair (.sl (.int .i64)) .unit))))) a11 fun a12 => asAgL a12 fun l13 => asCons l13 fun a14 r14 => asD (.int .i64) a14 fun s6 => asCons r14 fun a15 r15 => asD (.int .i64) a15 fun s7 => asCons r15 fun a16 r16 => asD (.int .i64) a16 fun s8 => asCons r16 fun a17 r17 => asD (.arr 16 (.int .i64)) a17 fun s9 => asCons r17 fun a18 r18 => asP (.vec 3) a18 <| asNil r18 <| asCons r11 fun a19 r19 => asRw (.int .i64) false a19 fun s10 => asNil r19 <| j19r13 (fun z1 z2 z3 z4 z5 z6 => K .ret [(6, .ptr 0 0 []), (7, I z1)] [.one (.pair (.int .i64) (.pair (.int .i64) (.pair (.int .i64) (.pair (.arr 16 (.int .i64)) (.pair (.sl (.int .i64)) .unit))))) (.agg [I z2, I z3, I z4, .d (.arr 16 (.int .i64)) z5, .vec 1]), .row (.int .i64) z6 false]) s1 s2 s3 s4 s5 s6 s7 s8 s9 s10
theorem j19r13v : JoinV E (inlF (PA (ACall E)) E 8) (E.info 19).keep 0 Try.f19.ntmps 20400013 4000013 (jbody Try.f19 4000013) ([2, 3, 4, 6, 8, 9], lsj19r13) := by
  intro vs σ K (h0 : lsj19r13 vs σ K)
  unfold lsj19r13 at h0
  obtain ⟨a1, r1, rfl, h1⟩ := asCons_inv h0; clear h0
  obtain ⟨s1, rfl, h2⟩ := asD_inv h1; clear h1
  obtain ⟨a2, r2, rfl, h3⟩ := asCons_inv h2; clear h2
  obtain ⟨rfl, h4⟩ := asP_inv h3; clear h3
  obtain ⟨a3, r3, rfl, h5⟩ := asCons_inv h4; clear h4
  obtain ⟨rfl, h6⟩ := asP_inv h5; clear h5
  obtain ⟨a4, r4, rfl, h7⟩ := asCons_inv h6; clear h6
  obtain ⟨rfl, h8⟩ := asP_inv h7; clear h7
  obtain ⟨a5, r5, rfl, h9⟩ := asCons_inv h8; clear h8
  obtain ⟨s2, rfl, h10⟩ := asD_inv h9; clear h9
  obtain ⟨a6, r6, rfl, h11⟩ := asCons_inv h10; clear h10
  obtain ⟨s3, rfl, h12⟩ := asD_inv h11; clear h11
  obtain ⟨rfl, h13⟩ := asNil_inv h12; clear h12
  obtain ⟨a7, r7, rfl, h14⟩ := asCons_inv h13; clear h13
  obtain ⟨a8, rfl, h15⟩ := asOne_inv h14; clear h14
  obtain ⟨s4, rfl, h16⟩ := asD_inv h15; clear h15
  obtain ⟨a9, r9, rfl, h17⟩ := asCons_inv h16; clear h16
  obtain ⟨a10, rfl, h18⟩ := asOne_inv h17; clear h17
  obtain ⟨s5, rfl, h19⟩ := asD_inv h18; clear h18
  obtain ⟨a11, r11, rfl, h20⟩ := asCons_inv h19; clear h19
  obtain ⟨a12, rfl, h21⟩ := asOne_inv h20; clear h20
  obtain ⟨l13, rfl, h22⟩ := asAgL_inv h21; clear h21
  obtain ⟨a14, r14, rfl, h23⟩ := asCons_inv h22; clear h22
  obtain ⟨s6, rfl, h24⟩ := asD_inv h23; clear h23
  obtain ⟨a15, r15, rfl, h25⟩ := asCons_inv h24; clear h24
  obtain ⟨s7, rfl, h26⟩ := asD_inv h25; clear h25
  obtain ⟨a16, r16, rfl, h27⟩ := asCons_inv h26; clear h26
  obtain ⟨s8, rfl, h28⟩ := asD_inv h27; clear h27
  obtain ⟨a17, r17, rfl, h29⟩ := asCons_inv h28; clear h28
  obtain ⟨s9, rfl, h30⟩ := asD_inv h29; clear h29
  obtain ⟨a18, r18, rfl, h31⟩ := asCons_inv h30; clear h30
  obtain ⟨rfl, h32⟩ := asP_inv h31; clear h31
  obtain ⟨rfl, h33⟩ := asNil_inv h32; clear h32
  obtain ⟨a19, r19, rfl, h34⟩ := asCons_inv h33; clear h33
  obtain ⟨s10, rfl, h35⟩ := asRw_inv h34; clear h34
  obtain ⟨rfl, h36⟩ := asNil_inv h35; clear h35
  exact join_round2 (S := ofL Sj19r13) (L := lofL Lj19r13) hSj19r13 (inlOK _) (all_eq (by kernel_rfl : subsOf (E.info 19).keep (jbody Try.f19 4000013) = [.loop (body Try.f19 13), .join 4000018 (jbody Try.f19 4000018)]) (all_cons (loopOK_of (mk := 20000013) (sl := [2, 3, 4, 6, 8, 9]) (ss := [([2, 3, 4, 6, 8, 9], lsl19r13)]) (by kernel_rfl) (by kernel_rfl) (all_cons l19r13v (all_nil))) (all_cons (joinOK_of (mk := 20400018) (sl := [3, 4, 6, 8, 9, 13]) (ss := [([3, 4, 6, 8, 9, 13], lsj19r18)]) (by kernel_rfl) (by kernel_rfl) (all_cons j19r18v (all_nil))) (all_nil)))) (by kernel_rfl) h36.of

abbrev Sj19r10 : List (Nat × Pat × Sp) := [(8, none, sp8)]
theorem hSj19r10 : SpecOK E (ofL Sj19r10) := specOK_cons h8 (specOK_nil)
abbrev Lj19r10 : List (Nat × List Nat × Pat × LSp) := [(20400013, [2, 3, 4, 6, 8, 9], none, lsj19r13)]
def lsj19r10 : LSp := fun vs σ K => asCons vs fun a1 r1 => asD (.int .i64) a1 fun s1 => asCons r1 fun a2 r2 => asP (.ptr 0 0 []) a2 <| asCons r2 fun a3 r3 => asP (.ptr 1 0 []) a3 <| asCons r3 fun a4 r4 => asP (.ptr 2 0 []) a4 <| asCons r4 fun a5 r5 => asD (.int .i64) a5 fun s2 => asCons r5 fun a6 r6 => asD (.int .i64) a6 fun s3 => asNil r6 <| asCons σ fun a7 r7 => asOne (.pair (.int .i64) (.pair (.int .i64) (.pair (.int .i64) (.pair (.arr 16 (.int .i64)) (.pair (.sl (.int .i64)) .unit))))) a7 fun a8 => asD (.pair (.int .i64) (.pair (.int .i64) (.pair (.int .i64) (.pair (.arr 16 (.int .i64)) (.pair (.sl (.int .i64)) .unit))))) a8 fun s4 => asCons r7 fun a9 r9 => asOne opT a9 fun a10 => asD opT a10 fun s5 => asCons r9 fun a11 r11 => asOne (.pair (.int .i64) (.pair (.int .i64) (.pair (.int .i64) (.pair (.arr 16 (.int .i64)) (.pair (.sl (.int .i64)) .unit))))) a11 fun a12 => asAgL a12 fun l13 => asCons l13 fun a14 r14 => asD (.int .i64) a14 fun s6 => asCons r14 fun a15 r15 => asD (.int .i64) a15 fun s7 => asCons r15 fun a16 r16 => asD (.int .i64) a16 fun s8 => asCons r16 fun a17 r17 => asD (.arr 16 (.int .i64)) a17 fun s9 => asCons r17 fun a18 r18 => asP (.vec 3) a18 <| asNil r18 <| asCons r11 fun a19 r19 => asRw (.int .i64) false a19 fun s10 => asNil r19 <| j19r10 (fun z1 z2 z3 z4 z5 z6 => K .ret [(6, .ptr 0 0 []), (7, I z1)] [.one (.pair (.int .i64) (.pair (.int .i64) (.pair (.int .i64) (.pair (.arr 16 (.int .i64)) (.pair (.sl (.int .i64)) .unit))))) (.agg [I z2, I z3, I z4, .d (.arr 16 (.int .i64)) z5, .vec 1]), .row (.int .i64) z6 false]) s1 s2 s3 s4 s5 s6 s7 s8 s9 s10
theorem j19r10v : JoinV E (inlF (PA (ACall E)) E 8) (E.info 19).keep 0 Try.f19.ntmps 20400010 4000010 (jbody Try.f19 4000010) ([2, 3, 4, 6, 8, 9], lsj19r10) := by
  intro vs σ K (h0 : lsj19r10 vs σ K)
  unfold lsj19r10 at h0
  obtain ⟨a1, r1, rfl, h1⟩ := asCons_inv h0; clear h0
  obtain ⟨s1, rfl, h2⟩ := asD_inv h1; clear h1
  obtain ⟨a2, r2, rfl, h3⟩ := asCons_inv h2; clear h2
  obtain ⟨rfl, h4⟩ := asP_inv h3; clear h3
  obtain ⟨a3, r3, rfl, h5⟩ := asCons_inv h4; clear h4
  obtain ⟨rfl, h6⟩ := asP_inv h5; clear h5
  obtain ⟨a4, r4, rfl, h7⟩ := asCons_inv h6; clear h6
  obtain ⟨rfl, h8⟩ := asP_inv h7; clear h7
  obtain ⟨a5, r5, rfl, h9⟩ := asCons_inv h8; clear h8
  obtain ⟨s2, rfl, h10⟩ := asD_inv h9; clear h9
  obtain ⟨a6, r6, rfl, h11⟩ := asCons_inv h10; clear h10
  obtain ⟨s3, rfl, h12⟩ := asD_inv h11; clear h11
  obtain ⟨rfl, h13⟩ := asNil_inv h12; clear h12
  obtain ⟨a7, r7, rfl, h14⟩ := asCons_inv h13; clear h13
  obtain ⟨a8, rfl, h15⟩ := asOne_inv h14; clear h14
  obtain ⟨s4, rfl, h16⟩ := asD_inv h15; clear h15
  obtain ⟨a9, r9, rfl, h17⟩ := asCons_inv h16; clear h16
  obtain ⟨a10, rfl, h18⟩ := asOne_inv h17; clear h17
  obtain ⟨s5, rfl, h19⟩ := asD_inv h18; clear h18
  obtain ⟨a11, r11, rfl, h20⟩ := asCons_inv h19; clear h19
  obtain ⟨a12, rfl, h21⟩ := asOne_inv h20; clear h20
  obtain ⟨l13, rfl, h22⟩ := asAgL_inv h21; clear h21
  obtain ⟨a14, r14, rfl, h23⟩ := asCons_inv h22; clear h22
  obtain ⟨s6, rfl, h24⟩ := asD_inv h23; clear h23
  obtain ⟨a15, r15, rfl, h25⟩ := asCons_inv h24; clear h24
  obtain ⟨s7, rfl, h26⟩ := asD_inv h25; clear h25
  obtain ⟨a16, r16, rfl, h27⟩ := asCons_inv h26; clear h26
  obtain ⟨s8, rfl, h28⟩ := asD_inv h27; clear h27
  obtain ⟨a17, r17, rfl, h29⟩ := asCons_inv h28; clear h28
  obtain ⟨s9, rfl, h30⟩ := asD_inv h29; clear h29
  obtain ⟨a18, r18, rfl, h31⟩ := asCons_inv h30; clear h30
  obtain ⟨rfl, h32⟩ := asP_inv h31; clear h31
  obtain ⟨rfl, h33⟩ := asNil_inv h32; clear h32
  obtain ⟨a19, r19, rfl, h34⟩ := asCons_inv h33; clear h33
  obtain ⟨s10, rfl, h35⟩ := asRw_inv h34; clear h34
  obtain ⟨rfl, h36⟩ := asNil_inv h35; clear h35
  exact join_round2 (S := ofL Sj19r10) (L := lofL Lj19r10) hSj19r10 (inlOK _) (all_eq (by kernel_rfl : subsOf (E.info 19).keep (jbody Try.f19 4000010) = [.join 4000013 (jbody Try.f19 4000013)]) (all_cons (joinOK_of (mk := 20400013) (sl := [2, 3, 4, 6, 8, 9]) (ss := [([2, 3, 4, 6, 8, 9], lsj19r13)]) (by kernel_rfl) (by kernel_rfl) (all_cons j19r13v (all_nil))) (all_nil))) (by kernel_rfl) h36.of

abbrev S19 : List (Nat × Pat × Sp) := [(6, none, sp6), (11, none, sp11)]
theorem hS19 : SpecOK E (ofL S19) := specOK_cons h6 (specOK_cons h11 (specOK_nil))
abbrev L19 : List (Nat × List Nat × Pat × LSp) := [(20000004, [2, 3, 4, 6, 8, 9, 27, 28, 29], none, lsl19r4), (20400010, [2, 3, 4, 6, 8, 9], none, lsj19r10)]
def sp19 : Sp := fun args τ K => asCons args fun a1 r1 => asD (.pair (.int .i64) (.pair (.int .i64) (.pair (.int .i64) (.pair (.arr 16 (.int .i64)) (.pair (.sl (.int .i64)) .unit))))) a1 fun x1 => asCons r1 fun a2 r2 => asD opT a2 fun x2 => asCons r2 fun a3 r3 => asD (.int .i64) a3 fun x3 => asNil r3 <| asNil τ <| c19 x1 x2 x3 (fun z1 z2 z3 z4 z5 z6 => K (.tup [.agg [I z1, I z2, I z3, .d (.arr 16 (.int .i64)) z4, .vec 0], I z5]) [.row (.int .i64) z6 false])
theorem h19 : ∀ args τ K, sp19 args τ K → ACall E 19 args τ K := by
  intro args τ K h0
  unfold sp19 at h0
  obtain ⟨a1, r1, rfl, h1⟩ := asCons_inv h0; clear h0
  obtain ⟨x1, rfl, h2⟩ := asD_inv h1; clear h1
  obtain ⟨a2, r2, rfl, h3⟩ := asCons_inv h2; clear h2
  obtain ⟨x2, rfl, h4⟩ := asD_inv h3; clear h3
  obtain ⟨a3, r3, rfl, h5⟩ := asCons_inv h4; clear h4
  obtain ⟨x3, rfl, h6⟩ := asD_inv h5; clear h5
  obtain ⟨rfl, h7⟩ := asNil_inv h6; clear h6
  obtain ⟨rfl, h8⟩ := asNil_inv h7; clear h7
  exact ACall.spec2 (fn := Try.f19) (c := codeOf Try.f19) (S := ofL S19) (L := lofL L19) hS19 (by kernel_rfl) (by kernel_rfl) (inlOK _) (all_eq (by kernel_rfl : subsOf (E.info 19).keep (codeOf Try.f19) = [.loop (body Try.f19 4), .join 4000010 (jbody Try.f19 4000010)]) (all_cons (loopOK_of (mk := 20000004) (sl := [2, 3, 4, 6, 8, 9, 27, 28, 29]) (ss := [([2, 3, 4, 6, 8, 9, 27, 28, 29], lsl19r4)]) (by kernel_rfl) (by kernel_rfl) (all_cons l19r4v (all_nil))) (all_cons (joinOK_of (mk := 20400010) (sl := [2, 3, 4, 6, 8, 9]) (ss := [([2, 3, 4, 6, 8, 9], lsj19r10)]) (by kernel_rfl) (by kernel_rfl) (all_cons j19r10v (all_nil))) (all_nil)))) (by kernel_rfl) h8.of

abbrev Sj3r12 : List (Nat × Pat × Sp) := [(17, none, sp17v2), (18, none, sp18), (19, none, sp19)]
theorem hSj3r12 : SpecOK E (ofL Sj3r12) := specOK_cons h17v2 (specOK_cons h18 (specOK_cons h19 (specOK_nil)))
abbrev Lj3r12 : List (Nat × List Nat × Pat × LSp) := [(4000016, [2, 3, 4, 8, 9, 10, 102, 103, 104], none, lsl3r16)]
def lsj3r12 : LSp := fun vs σ K => asCons vs fun a1 r1 => asD (.int .i64) a1 fun s1 => asCons r1 fun a2 r2 => asP (.ptr 0 0 []) a2 <| asCons r2 fun a3 r3 => asP (.ptr 1 0 []) a3 <| asCons r3 fun a4 r4 => asD (.int .i64) a4 fun s2 => asNil r4 <| asCons σ fun a5 r5 => asOne (.pair (.int .i64) (.pair (.int .i64) (.pair (.int .i64) (.pair (.arr 16 (.int .i64)) (.pair (.sl (.int .i64)) .unit))))) a5 fun a6 => asD (.pair (.int .i64) (.pair (.int .i64) (.pair (.int .i64) (.pair (.arr 16 (.int .i64)) (.pair (.sl (.int .i64)) .unit))))) a6 fun s3 => asCons r5 fun a7 r7 => asOne opT a7 fun a8 => asD opT a8 fun s4 => asNil r7 <| j3r12 (fun z1 => K .ret [(6, B z1)] []) s1 s2 s3 s4
theorem j3r12v : JoinV E (inlF (PA (ACall E)) E 8) (E.info 3).keep 0 Try.f3.ntmps 4400012 4000012 (jbody Try.f3 4000012) ([2, 3, 4, 7], lsj3r12) := by
  intro vs σ K (h0 : lsj3r12 vs σ K)
  unfold lsj3r12 at h0
  obtain ⟨a1, r1, rfl, h1⟩ := asCons_inv h0; clear h0
  obtain ⟨s1, rfl, h2⟩ := asD_inv h1; clear h1
  obtain ⟨a2, r2, rfl, h3⟩ := asCons_inv h2; clear h2
  obtain ⟨rfl, h4⟩ := asP_inv h3; clear h3
  obtain ⟨a3, r3, rfl, h5⟩ := asCons_inv h4; clear h4
  obtain ⟨rfl, h6⟩ := asP_inv h5; clear h5
  obtain ⟨a4, r4, rfl, h7⟩ := asCons_inv h6; clear h6
  obtain ⟨s2, rfl, h8⟩ := asD_inv h7; clear h7
  obtain ⟨rfl, h9⟩ := asNil_inv h8; clear h8
  obtain ⟨a5, r5, rfl, h10⟩ := asCons_inv h9; clear h9
  obtain ⟨a6, rfl, h11⟩ := asOne_inv h10; clear h10
  obtain ⟨s3, rfl, h12⟩ := asD_inv h11; clear h11
  obtain ⟨a7, r7, rfl, h13⟩ := asCons_inv h12; clear h12
  obtain ⟨a8, rfl, h14⟩ := asOne_inv h13; clear h13
  obtain ⟨s4, rfl, h15⟩ := asD_inv h14; clear h14
  obtain ⟨rfl, h16⟩ := asNil_inv h15; clear h15
  exact join_round2 (S := ofL Sj3r12) (L := lofL Lj3r12) hSj3r12 (inlOK _) (all_eq (by kernel_rfl : subsOf (E.info 3).keep (jbody Try.f3 4000012) = [.loop (body Try.f3 16)]) (all_cons (loopOK_of (mk := 4000016) (sl := [2, 3, 4, 8, 9, 10, 102, 103, 104]) (ss := [([2, 3, 4, 8, 9, 10, 102, 103, 104], lsl3r16)]) (by kernel_rfl) (by kernel_rfl) (all_cons l3r16v (all_nil))) (all_nil))) (by kernel_rfl) h16.of

abbrev Sj3r10 : List (Nat × Pat × Sp) := []
theorem hSj3r10 : SpecOK E (ofL Sj3r10) := specOK_nil
abbrev Lj3r10 : List (Nat × List Nat × Pat × LSp) := [(4400012, [2, 3, 4, 7], none, lsj3r12)]
def lsj3r10 : LSp := fun vs σ K => asCons vs fun a1 r1 => asD (.int .i64) a1 fun s1 => asCons r1 fun a2 r2 => asP (.ptr 0 0 []) a2 <| asCons r2 fun a3 r3 => asP (.ptr 1 0 []) a3 <| asCons r3 fun a4 r4 => asD (.int .i64) a4 fun s2 => asNil r4 <| asCons σ fun a5 r5 => asOne (.pair (.int .i64) (.pair (.int .i64) (.pair (.int .i64) (.pair (.arr 16 (.int .i64)) (.pair (.sl (.int .i64)) .unit))))) a5 fun a6 => asD (.pair (.int .i64) (.pair (.int .i64) (.pair (.int .i64) (.pair (.arr 16 (.int .i64)) (.pair (.sl (.int .i64)) .unit))))) a6 fun s3 => asCons r5 fun a7 r7 => asOne opT a7 fun a8 => asD opT a8 fun s4 => asNil r7 <| j3r10 (fun z1 => K .ret [(6, B z1)] []) s1 s2 s3 s4
theorem j3r10v : JoinV E (inlF (PA (ACall E)) E 8) (E.info 3).keep 0 Try.f3.ntmps 4400010 4000010 (jbody Try.f3 4000010) ([2, 3, 4, 7], lsj3r10) := by
  intro vs σ K (h0 : lsj3r10 vs σ K)
  unfold lsj3r10 at h0
  obtain ⟨a1, r1, rfl, h1⟩ := asCons_inv h0; clear h0
  obtain ⟨s1, rfl, h2⟩ := asD_inv h1; clear h1
  obtain ⟨a2, r2, rfl, h3⟩ := asCons_inv h2; clear h2
  obtain ⟨rfl, h4⟩ := asP_inv h3; clear h3
  obtain ⟨a3, r3, rfl, h5⟩ := asCons_inv h4; clear h4
  obtain ⟨rfl, h6⟩ := asP_inv h5; clear h5
  obtain ⟨a4, r4, rfl, h7⟩ := asCons_inv h6; clear h6
  obtain ⟨s2, rfl, h8⟩ := asD_inv h7; clear h7
  obtain ⟨rfl, h9⟩ := asNil_inv h8; clear h8
  obtain ⟨a5, r5, rfl, h10⟩ := asCons_inv h9; clear h9
  obtain ⟨a6, rfl, h11⟩ := asOne_inv h10; clear h10
  obtain ⟨s3, rfl, h12⟩ := asD_inv h11; clear h11
  obtain ⟨a7, r7, rfl, h13⟩ := asCons_inv h12; clear h12
  obtain ⟨a8, rfl, h14⟩ := asOne_inv h13; clear h13
  obtain ⟨s4, rfl, h15⟩ := asD_inv h14; clear h14
  obtain ⟨rfl, h16⟩ := asNil_inv h15; clear h15
  exact join_round2 (S := ofL Sj3r10) (L := lofL Lj3r10) hSj3r10 (inlOK _) (all_eq (by kernel_rfl : subsOf (E.info 3).keep (jbody Try.f3 4000010) = [.join 4000012 (jbody Try.f3 4000012)]) (all_cons (joinOK_of (mk := 4400012) (sl := [2, 3, 4, 7]) (ss := [([2, 3, 4, 7], lsj3r12)]) (by kernel_rfl) (by kernel_rfl) (all_cons j3r12v (all_nil))) (all_nil))) (by kernel_rfl) h16.of

abbrev S3 : List (Nat × Pat × Sp) := [(4, none, sp4), (5, none, sp5), (6, none, sp6), (7, none, sp7), (8, none, sp8), (10, none, sp10), (11, none, sp11), (9, none, sp9), (12, none, sp12), (13, none, sp13), (14, none, sp14), (15, none, sp15), (16, none, sp16)]
theorem hS3 : SpecOK E (ofL S3) := specOK_cons h4 (specOK_cons h5 (specOK_cons h6 (specOK_cons h7 (specOK_cons h8 (specOK_cons h10 (specOK_cons h11 (specOK_cons h9 (specOK_cons h12 (specOK_cons h13 (specOK_cons h14 (specOK_cons h15 (specOK_cons h16 (specOK_nil)))))))))))))
abbrev L3 : List (Nat × List Nat × Pat × LSp) := [(4400010, [2, 3, 4, 7], none, lsj3r10)]
def sp3 : Sp := fun args τ K => asCons args fun a1 r1 => asD (.pair (.int .i64) (.pair (.int .i64) (.pair (.int .i64) (.pair (.arr 16 (.int .i64)) (.pair (.sl (.int .i64)) .unit))))) a1 fun x1 => asCons r1 fun a2 r2 => asD opT a2 fun x2 => asCons r2 fun a3 r3 => asD (.int .i64) a3 fun x3 => asNil r3 <| asNil τ <| c3 x1 x2 x3 (fun z1 => K (B z1) [])
theorem h3 : ∀ args τ K, sp3 args τ K → ACall E 3 args τ K := by
  intro args τ K h0
  unfold sp3 at h0
  obtain ⟨a1, r1, rfl, h1⟩ := asCons_inv h0; clear h0
  obtain ⟨x1, rfl, h2⟩ := asD_inv h1; clear h1
  obtain ⟨a2, r2, rfl, h3⟩ := asCons_inv h2; clear h2
  obtain ⟨x2, rfl, h4⟩ := asD_inv h3; clear h3
  obtain ⟨a3, r3, rfl, h5⟩ := asCons_inv h4; clear h4
  obtain ⟨x3, rfl, h6⟩ := asD_inv h5; clear h5
  obtain ⟨rfl, h7⟩ := asNil_inv h6; clear h6
  obtain ⟨rfl, h8⟩ := asNil_inv h7; clear h7
  exact ACall.spec2 (fn := Try.f3) (c := codeOf Try.f3) (S := ofL S3) (L := lofL L3) hS3 (by kernel_rfl) (by kernel_rfl) (inlOK _) (all_eq (by kernel_rfl : subsOf (E.info 3).keep (codeOf Try.f3) = [.join 4000010 (jbody Try.f3 4000010)]) (all_cons (joinOK_of (mk := 4400010) (sl := [2, 3, 4, 7]) (ss := [([2, 3, 4, 7], lsj3r10)]) (by kernel_rfl) (by kernel_rfl) (all_cons j3r10v (all_nil))) (all_nil))) (by kernel_rfl) h8.of

end Go.Proofs.Ytomgefbhmpeabaa
