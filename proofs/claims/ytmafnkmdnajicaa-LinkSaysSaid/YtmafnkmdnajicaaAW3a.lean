/- The functions compute that (printed by a program). -/
import Derived.Test.YtmafnkmdnajicaaAD3
import Derived.Test.YtmafnkmdnajicaaAEnvC
import Derived.KernelRfl
namespace Go.Proofs.Ytmafnkmdnajicaa
open Go.Abs
set_option maxRecDepth 100000
set_option maxHeartbeats 4000000
set_option linter.unusedVariables false
abbrev wIT : Ty := .pair opT (.pair (.int .i64) .unit)
abbrev wCL : Ty := .pair (.int .i64) (.pair (.int .i64) .unit)
abbrev wMP : Ty := .pair (.int .i64) (.pair .bool (.pair (.sl (.int .i64)) (.pair (.int .i64) .unit)))
abbrev wLF : Ty := .pair (.int .i64) (.pair (.sl wIT) (.pair (.sl wCL) (.pair (.sl wMP) (.pair (.int .i64) .unit))))
abbrev S40 : List (Nat × Pat × Sp) := []
theorem hS40 : SpecOK E (ofL S40) := specOK_nil
abbrev L40 : List (Nat × List Nat × Pat × LSp) := []
def sp40 : Sp := fun args τ K => asCons args fun a1 r1 => asD (.int .i64) a1 fun x1 => asCons r1 fun a2 r2 => asD (.int .i64) a2 fun x2 => asCons r2 fun a3 r3 => asD (.int .i64) a3 fun x3 => asNil r3 <| asNil τ <| c40 x1 x2 x3 (fun z1 => K (B z1) [])
theorem h40 : ∀ args τ K, sp40 args τ K → ACall E 40 args τ K := by
  intro args τ K h0
  unfold sp40 at h0
  obtain ⟨a1, r1, rfl, h1⟩ := asCons_inv h0; clear h0
  obtain ⟨x1, rfl, h2⟩ := asD_inv h1; clear h1
  obtain ⟨a2, r2, rfl, h3⟩ := asCons_inv h2; clear h2
  obtain ⟨x2, rfl, h4⟩ := asD_inv h3; clear h3
  obtain ⟨a3, r3, rfl, h5⟩ := asCons_inv h4; clear h4
  obtain ⟨x3, rfl, h6⟩ := asD_inv h5; clear h5
  obtain ⟨rfl, h7⟩ := asNil_inv h6; clear h6
  obtain ⟨rfl, h8⟩ := asNil_inv h7; clear h7
  exact ACall.spec2 (fn := Try.f40) (c := codeOf Try.f40) (S := ofL S40) (L := lofL L40) hS40 (by kernel_rfl) (by kernel_rfl) (inlOK _) (all_eq (by kernel_rfl : subsOf (E.info 40).keep (codeOf Try.f40) = []) (all_nil)) (by kernel_rfl) h8.of

abbrev S41 : List (Nat × Pat × Sp) := []
theorem hS41 : SpecOK E (ofL S41) := specOK_nil
abbrev L41 : List (Nat × List Nat × Pat × LSp) := []
def sp41 : Sp := fun args τ K => asCons args fun a1 r1 => asD (.int .i64) a1 fun x1 => asNil r1 <| asNil τ <| c41 x1 (fun z1 => K (.d (.pair .bool (.pair .bool (.pair .bool (.pair .bool .unit)))) z1) [])
theorem h41 : ∀ args τ K, sp41 args τ K → ACall E 41 args τ K := by
  intro args τ K h0
  unfold sp41 at h0
  obtain ⟨a1, r1, rfl, h1⟩ := asCons_inv h0; clear h0
  obtain ⟨x1, rfl, h2⟩ := asD_inv h1; clear h1
  obtain ⟨rfl, h3⟩ := asNil_inv h2; clear h2
  obtain ⟨rfl, h4⟩ := asNil_inv h3; clear h3
  exact ACall.spec2 (fn := Try.f41) (c := codeOf Try.f41) (S := ofL S41) (L := lofL L41) hS41 (by kernel_rfl) (by kernel_rfl) (inlOK _) (all_eq (by kernel_rfl : subsOf (E.info 41).keep (codeOf Try.f41) = []) (all_nil)) (by kernel_rfl) h4.of

abbrev S26 : List (Nat × Pat × Sp) := [(40, none, sp40), (41, none, sp41)]
theorem hS26 : SpecOK E (ofL S26) := specOK_cons h40 (specOK_cons h41 (specOK_nil))
abbrev L26 : List (Nat × List Nat × Pat × LSp) := []
def sp26 : Sp := fun args τ K => asCons args fun a1 r1 => asD opT a1 fun x1 => asNil r1 <| asNil τ <| c26 x1 (fun z1 => K (I z1) [])
theorem h26 : ∀ args τ K, sp26 args τ K → ACall E 26 args τ K := by
  intro args τ K h0
  unfold sp26 at h0
  obtain ⟨a1, r1, rfl, h1⟩ := asCons_inv h0; clear h0
  obtain ⟨x1, rfl, h2⟩ := asD_inv h1; clear h1
  obtain ⟨rfl, h3⟩ := asNil_inv h2; clear h2
  obtain ⟨rfl, h4⟩ := asNil_inv h3; clear h3
  exact ACall.spec2 (fn := Try.f26) (c := codeOf Try.f26) (S := ofL S26) (L := lofL L26) hS26 (by kernel_rfl) (by kernel_rfl) (inlOK _) (all_eq (by kernel_rfl : subsOf (E.info 26).keep (codeOf Try.f26) = []) (all_nil)) (by kernel_rfl) h4.of

abbrev S27 : List (Nat × Pat × Sp) := []
theorem hS27 : SpecOK E (ofL S27) := specOK_nil
abbrev L27 : List (Nat × List Nat × Pat × LSp) := []
def sp27 : Sp := fun args τ K => asCons args fun a1 r1 => asD (.int .i64) a1 fun x1 => asNil r1 <| asNil τ <| c27 x1 (fun z1 => K (B z1) [])
theorem h27 : ∀ args τ K, sp27 args τ K → ACall E 27 args τ K := by
  intro args τ K h0
  unfold sp27 at h0
  obtain ⟨a1, r1, rfl, h1⟩ := asCons_inv h0; clear h0
  obtain ⟨x1, rfl, h2⟩ := asD_inv h1; clear h1
  obtain ⟨rfl, h3⟩ := asNil_inv h2; clear h2
  obtain ⟨rfl, h4⟩ := asNil_inv h3; clear h3
  exact ACall.spec2 (fn := Try.f27) (c := codeOf Try.f27) (S := ofL S27) (L := lofL L27) hS27 (by kernel_rfl) (by kernel_rfl) (inlOK _) (all_eq (by kernel_rfl : subsOf (E.info 27).keep (codeOf Try.f27) = []) (all_nil)) (by kernel_rfl) h4.of

abbrev Sl14r4 : List (Nat × Pat × Sp) := [(26, none, sp26), (27, none, sp27)]
theorem hSl14r4 : SpecOK E (ofL Sl14r4) := specOK_cons h26 (specOK_cons h27 (specOK_nil))
abbrev Ll14r4 : List (Nat × List Nat × Pat × LSp) := []
def lsl14r4 : LSp := fun vs σ K => asCons vs fun a1 r1 => asD (.sl wIT) a1 fun s1 => asCons r1 fun a2 r2 => asD (.sl wIT) a2 fun s2 => asCons r2 fun a3 r3 => asD (.int .i64) a3 fun s3 => asCons r3 fun a4 r4 => asD (.int .i64) a4 fun s4 => asNil r4 <| asNil σ <| l14r4 (fun z1 => K .ret [(2, I z1)] []) (K (.exit 0) [(2, .undef)] []) s1 s2 s3 s4
theorem l14r4v : LoopV E (inlF (PA (ACall E)) E 8) (E.info 14).keep 0 Try.f14.ntmps 15000004 (body Try.f14 4) ([0, 10, 11, 12], lsl14r4) := by
  intro vs σ K (h0 : lsl14r4 vs σ K)
  unfold lsl14r4 at h0
  obtain ⟨a1, r1, rfl, h1⟩ := asCons_inv h0; clear h0
  obtain ⟨s1, rfl, h2⟩ := asD_inv h1; clear h1
  obtain ⟨a2, r2, rfl, h3⟩ := asCons_inv h2; clear h2
  obtain ⟨s2, rfl, h4⟩ := asD_inv h3; clear h3
  obtain ⟨a3, r3, rfl, h5⟩ := asCons_inv h4; clear h4
  obtain ⟨s3, rfl, h6⟩ := asD_inv h5; clear h5
  obtain ⟨a4, r4, rfl, h7⟩ := asCons_inv h6; clear h6
  obtain ⟨s4, rfl, h8⟩ := asD_inv h7; clear h7
  obtain ⟨rfl, h9⟩ := asNil_inv h8; clear h8
  obtain ⟨rfl, h10⟩ := asNil_inv h9; clear h9
  intro J hJ
  have hp : ∀ c' ∈ subsOf (E.info 14).keep (body Try.f14 4), SubOK E (inlF (PA (ACall E)) E 8) (E.info 14).keep 0 Try.f14.ntmps (lofL Ll14r4) c' := all_eq (by kernel_rfl : subsOf (E.info 14).keep (body Try.f14 4) = []) (all_nil)
  exact h10.of (fun s1 s2 s3 s4 => J [(15000004, .undef), (0, .d (.sl wIT) s1), (10, .d (.sl wIT) s2), (11, I s3), (12, I s4)] []) (fun s1 s2 s3 s4 hb => loop_round2 (S := ofL Sl14r4) (L := lofL Ll14r4) hSl14r4 (inlOK _) hp hJ (by kernel_rfl) hb)

abbrev S14 : List (Nat × Pat × Sp) := []
theorem hS14 : SpecOK E (ofL S14) := specOK_nil
abbrev L14 : List (Nat × List Nat × Pat × LSp) := [(15000004, [0, 10, 11, 12], none, lsl14r4)]
def sp14 : Sp := fun args τ K => asCons args fun a1 r1 => asD (.sl wIT) a1 fun x1 => asNil r1 <| asNil τ <| c14 x1 (fun z1 => K (I z1) [])
theorem h14 : ∀ args τ K, sp14 args τ K → ACall E 14 args τ K := by
  intro args τ K h0
  unfold sp14 at h0
  obtain ⟨a1, r1, rfl, h1⟩ := asCons_inv h0; clear h0
  obtain ⟨x1, rfl, h2⟩ := asD_inv h1; clear h1
  obtain ⟨rfl, h3⟩ := asNil_inv h2; clear h2
  obtain ⟨rfl, h4⟩ := asNil_inv h3; clear h3
  exact ACall.spec2 (fn := Try.f14) (c := codeOf Try.f14) (S := ofL S14) (L := lofL L14) hS14 (by kernel_rfl) (by kernel_rfl) (inlOK _) (all_eq (by kernel_rfl : subsOf (E.info 14).keep (codeOf Try.f14) = [.loop (body Try.f14 4)]) (all_cons (loopOK_of (mk := 15000004) (sl := [0, 10, 11, 12]) (ss := [([0, 10, 11, 12], lsl14r4)]) (by kernel_rfl) (by kernel_rfl) (all_cons l14r4v (all_nil))) (all_nil))) (by kernel_rfl) h4.of

abbrev Sl15r2 : List (Nat × Pat × Sp) := []
theorem hSl15r2 : SpecOK E (ofL Sl15r2) := specOK_nil
abbrev Ll15r2 : List (Nat × List Nat × Pat × LSp) := []
def lsl15r2 : LSp := fun vs σ K => asCons vs fun a1 r1 => asD (.int .i64) a1 fun s1 => asCons r1 fun a2 r2 => asP (.ptr 0 0 []) a2 <| asCons r2 fun a3 r3 => asD (.sl wIT) a3 fun s2 => asCons r3 fun a4 r4 => asD (.int .i64) a4 fun s3 => asCons r4 fun a5 r5 => asD (.int .i64) a5 fun s4 => asNil r5 <| asCons σ fun a6 r6 => asOne wLF a6 fun a7 => asD wLF a7 fun s5 => asNil r6 <| l15r2 (fun z1 => K .ret [(1, .undef), (2, .undef), (4, I z1)] []) (fun z1 z2 => K (.exit 0) [(1, I z1), (2, .ptr 0 0 []), (4, .undef)] [.one wLF (.d wLF z2)]) s1 s2 s3 s4 s5
theorem l15r2v : LoopV E (inlF (PA (ACall E)) E 8) (E.info 15).keep 0 Try.f15.ntmps 16000002 (body Try.f15 2) ([1, 2, 14, 15, 16], lsl15r2) := by
  intro vs σ K (h0 : lsl15r2 vs σ K)
  unfold lsl15r2 at h0
  obtain ⟨a1, r1, rfl, h1⟩ := asCons_inv h0; clear h0
  obtain ⟨s1, rfl, h2⟩ := asD_inv h1; clear h1
  obtain ⟨a2, r2, rfl, h3⟩ := asCons_inv h2; clear h2
  obtain ⟨rfl, h4⟩ := asP_inv h3; clear h3
  obtain ⟨a3, r3, rfl, h5⟩ := asCons_inv h4; clear h4
  obtain ⟨s2, rfl, h6⟩ := asD_inv h5; clear h5
  obtain ⟨a4, r4, rfl, h7⟩ := asCons_inv h6; clear h6
  obtain ⟨s3, rfl, h8⟩ := asD_inv h7; clear h7
  obtain ⟨a5, r5, rfl, h9⟩ := asCons_inv h8; clear h8
  obtain ⟨s4, rfl, h10⟩ := asD_inv h9; clear h9
  obtain ⟨rfl, h11⟩ := asNil_inv h10; clear h10
  obtain ⟨a6, r6, rfl, h12⟩ := asCons_inv h11; clear h11
  obtain ⟨a7, rfl, h13⟩ := asOne_inv h12; clear h12
  obtain ⟨s5, rfl, h14⟩ := asD_inv h13; clear h13
  obtain ⟨rfl, h15⟩ := asNil_inv h14; clear h14
  intro J hJ
  have hp : ∀ c' ∈ subsOf (E.info 15).keep (body Try.f15 2), SubOK E (inlF (PA (ACall E)) E 8) (E.info 15).keep 0 Try.f15.ntmps (lofL Ll15r2) c' := all_eq (by kernel_rfl : subsOf (E.info 15).keep (body Try.f15 2) = []) (all_nil)
  exact h15.of (fun s1 s2 s3 s4 s5 => J [(16000002, .undef), (1, I s1), (2, .ptr 0 0 []), (14, .d (.sl wIT) s2), (15, I s3), (16, I s4)] [.one wLF (.d wLF s5)]) (fun s1 s2 s3 s4 s5 hb => loop_round2 (S := ofL Sl15r2) (L := lofL Ll15r2) hSl15r2 (inlOK _) hp hJ (by kernel_rfl) hb)

abbrev Sl15r9 : List (Nat × Pat × Sp) := []
theorem hSl15r9 : SpecOK E (ofL Sl15r9) := specOK_nil
abbrev Ll15r9 : List (Nat × List Nat × Pat × LSp) := []
def lsl15r9 : LSp := fun vs σ K => asCons vs fun a1 r1 => asD (.int .i64) a1 fun s1 => asCons r1 fun a2 r2 => asP (.ptr 0 0 []) a2 <| asCons r2 fun a3 r3 => asD (.int .i64) a3 fun s2 => asCons r3 fun a4 r4 => asD (.sl wCL) a4 fun s3 => asCons r4 fun a5 r5 => asD (.int .i64) a5 fun s4 => asCons r5 fun a6 r6 => asD (.int .i64) a6 fun s5 => asNil r6 <| asCons σ fun a7 r7 => asOne wLF a7 fun a8 => asD wLF a8 fun s6 => asNil r7 <| l15r9 (fun z1 => K .ret [(2, .undef), (4, I z1)] []) (fun z1 => K (.exit 2) [(2, .ptr 0 0 []), (4, .undef)] [.one wLF (.d wLF z1)]) s1 s2 s3 s4 s5 s6
theorem l15r9v : LoopV E (inlF (PA (ACall E)) E 8) (E.info 15).keep 0 Try.f15.ntmps 16000009 (body Try.f15 9) ([1, 2, 7, 28, 29, 30], lsl15r9) := by
  intro vs σ K (h0 : lsl15r9 vs σ K)
  unfold lsl15r9 at h0
  obtain ⟨a1, r1, rfl, h1⟩ := asCons_inv h0; clear h0
  obtain ⟨s1, rfl, h2⟩ := asD_inv h1; clear h1
  obtain ⟨a2, r2, rfl, h3⟩ := asCons_inv h2; clear h2
  obtain ⟨rfl, h4⟩ := asP_inv h3; clear h3
  obtain ⟨a3, r3, rfl, h5⟩ := asCons_inv h4; clear h4
  obtain ⟨s2, rfl, h6⟩ := asD_inv h5; clear h5
  obtain ⟨a4, r4, rfl, h7⟩ := asCons_inv h6; clear h6
  obtain ⟨s3, rfl, h8⟩ := asD_inv h7; clear h7
  obtain ⟨a5, r5, rfl, h9⟩ := asCons_inv h8; clear h8
  obtain ⟨s4, rfl, h10⟩ := asD_inv h9; clear h9
  obtain ⟨a6, r6, rfl, h11⟩ := asCons_inv h10; clear h10
  obtain ⟨s5, rfl, h12⟩ := asD_inv h11; clear h11
  obtain ⟨rfl, h13⟩ := asNil_inv h12; clear h12
  obtain ⟨a7, r7, rfl, h14⟩ := asCons_inv h13; clear h13
  obtain ⟨a8, rfl, h15⟩ := asOne_inv h14; clear h14
  obtain ⟨s6, rfl, h16⟩ := asD_inv h15; clear h15
  obtain ⟨rfl, h17⟩ := asNil_inv h16; clear h16
  intro J hJ
  have hp : ∀ c' ∈ subsOf (E.info 15).keep (body Try.f15 9), SubOK E (inlF (PA (ACall E)) E 8) (E.info 15).keep 0 Try.f15.ntmps (lofL Ll15r9) c' := all_eq (by kernel_rfl : subsOf (E.info 15).keep (body Try.f15 9) = []) (all_nil)
  exact h17.of (fun s1 s2 s3 s4 s5 s6 => J [(16000009, .undef), (1, I s1), (2, .ptr 0 0 []), (7, I s2), (28, .d (.sl wCL) s3), (29, I s4), (30, I s5)] [.one wLF (.d wLF s6)]) (fun s1 s2 s3 s4 s5 s6 hb => loop_round2 (S := ofL Sl15r9) (L := lofL Ll15r9) hSl15r9 (inlOK _) hp hJ (by kernel_rfl) hb)

abbrev Sl15r20 : List (Nat × Pat × Sp) := []
theorem hSl15r20 : SpecOK E (ofL Sl15r20) := specOK_nil
abbrev Ll15r20 : List (Nat × List Nat × Pat × LSp) := []
def lsl15r20 : LSp := fun vs σ K => asCons vs fun a1 r1 => asP (.ptr 0 0 []) a1 <| asCons r1 fun a2 r2 => asD (.int .i64) a2 fun s1 => asCons r2 fun a3 r3 => asD (.sl wMP) a3 fun s2 => asCons r3 fun a4 r4 => asD (.int .i64) a4 fun s3 => asCons r4 fun a5 r5 => asD (.int .i64) a5 fun s4 => asNil r5 <| asCons σ fun a6 r6 => asOne wLF a6 fun a7 => asD wLF a7 fun s5 => asNil r6 <| l15r20 (fun z1 => K .ret [(4, I z1)] []) (K (.exit 4) [(4, .undef)] []) s1 s2 s3 s4 s5
theorem l15r20v : LoopV E (inlF (PA (ACall E)) E 8) (E.info 15).keep 0 Try.f15.ntmps 16000020 (body Try.f15 20) ([2, 7, 88, 89, 90], lsl15r20) := by
  intro vs σ K (h0 : lsl15r20 vs σ K)
  unfold lsl15r20 at h0
  obtain ⟨a1, r1, rfl, h1⟩ := asCons_inv h0; clear h0
  obtain ⟨rfl, h2⟩ := asP_inv h1; clear h1
  obtain ⟨a2, r2, rfl, h3⟩ := asCons_inv h2; clear h2
  obtain ⟨s1, rfl, h4⟩ := asD_inv h3; clear h3
  obtain ⟨a3, r3, rfl, h5⟩ := asCons_inv h4; clear h4
  obtain ⟨s2, rfl, h6⟩ := asD_inv h5; clear h5
  obtain ⟨a4, r4, rfl, h7⟩ := asCons_inv h6; clear h6
  obtain ⟨s3, rfl, h8⟩ := asD_inv h7; clear h7
  obtain ⟨a5, r5, rfl, h9⟩ := asCons_inv h8; clear h8
  obtain ⟨s4, rfl, h10⟩ := asD_inv h9; clear h9
  obtain ⟨rfl, h11⟩ := asNil_inv h10; clear h10
  obtain ⟨a6, r6, rfl, h12⟩ := asCons_inv h11; clear h11
  obtain ⟨a7, rfl, h13⟩ := asOne_inv h12; clear h12
  obtain ⟨s5, rfl, h14⟩ := asD_inv h13; clear h13
  obtain ⟨rfl, h15⟩ := asNil_inv h14; clear h14
  intro J hJ
  have hp : ∀ c' ∈ subsOf (E.info 15).keep (body Try.f15 20), SubOK E (inlF (PA (ACall E)) E 8) (E.info 15).keep 0 Try.f15.ntmps (lofL Ll15r20) c' := all_eq (by kernel_rfl : subsOf (E.info 15).keep (body Try.f15 20) = []) (all_nil)
  exact h15.of (fun s1 s2 s3 s4 s5 => J [(16000020, .undef), (2, .ptr 0 0 []), (7, I s1), (88, .d (.sl wMP) s2), (89, I s3), (90, I s4)] [.one wLF (.d wLF s5)]) (fun s1 s2 s3 s4 s5 hb => loop_round2 (S := ofL Sl15r20) (L := lofL Ll15r20) hSl15r20 (inlOK _) hp hJ (by kernel_rfl) hb)

abbrev S15 : List (Nat × Pat × Sp) := []
theorem hS15 : SpecOK E (ofL S15) := specOK_nil
abbrev L15 : List (Nat × List Nat × Pat × LSp) := [(16000002, [1, 2, 14, 15, 16], none, lsl15r2), (16000009, [1, 2, 7, 28, 29, 30], none, lsl15r9), (16000020, [2, 7, 88, 89, 90], none, lsl15r20)]
def sp15 : Sp := fun args τ K => asCons args fun a1 r1 => asD wLF a1 fun x1 => asCons r1 fun a2 r2 => asD (.int .i64) a2 fun x2 => asNil r2 <| asNil τ <| c15 x1 x2 (fun z1 => K (I z1) [])
theorem h15 : ∀ args τ K, sp15 args τ K → ACall E 15 args τ K := by
  intro args τ K h0
  unfold sp15 at h0
  obtain ⟨a1, r1, rfl, h1⟩ := asCons_inv h0; clear h0
  obtain ⟨x1, rfl, h2⟩ := asD_inv h1; clear h1
  obtain ⟨a2, r2, rfl, h3⟩ := asCons_inv h2; clear h2
  obtain ⟨x2, rfl, h4⟩ := asD_inv h3; clear h3
  obtain ⟨rfl, h5⟩ := asNil_inv h4; clear h4
  obtain ⟨rfl, h6⟩ := asNil_inv h5; clear h5
  exact ACall.spec2 (fn := Try.f15) (c := codeOf Try.f15) (S := ofL S15) (L := lofL L15) hS15 (by kernel_rfl) (by kernel_rfl) (inlOK _) (all_eq (by kernel_rfl : subsOf (E.info 15).keep (codeOf Try.f15) = [.loop (body Try.f15 2), .loop (body Try.f15 9), .loop (body Try.f15 20)]) (all_cons (loopOK_of (mk := 16000002) (sl := [1, 2, 14, 15, 16]) (ss := [([1, 2, 14, 15, 16], lsl15r2)]) (by kernel_rfl) (by kernel_rfl) (all_cons l15r2v (all_nil))) (all_cons (loopOK_of (mk := 16000009) (sl := [1, 2, 7, 28, 29, 30]) (ss := [([1, 2, 7, 28, 29, 30], lsl15r9)]) (by kernel_rfl) (by kernel_rfl) (all_cons l15r9v (all_nil))) (all_cons (loopOK_of (mk := 16000020) (sl := [2, 7, 88, 89, 90]) (ss := [([2, 7, 88, 89, 90], lsl15r20)]) (by kernel_rfl) (by kernel_rfl) (all_cons l15r20v (all_nil))) (all_nil))))) (by kernel_rfl) h6.of

abbrev Sl6r4 : List (Nat × Pat × Sp) := [(14, none, sp14), (15, none, sp15)]
theorem hSl6r4 : SpecOK E (ofL Sl6r4) := specOK_cons h14 (specOK_cons h15 (specOK_nil))
abbrev Ll6r4 : List (Nat × List Nat × Pat × LSp) := []
def lsl6r4 : LSp := fun vs σ K => asCons vs fun a1 r1 => asD (.sl wLF) a1 fun s1 => asCons r1 fun a2 r2 => asD (.sl wLF) a2 fun s2 => asCons r2 fun a3 r3 => asD (.int .i64) a3 fun s3 => asCons r3 fun a4 r4 => asD (.int .i64) a4 fun s4 => asNil r4 <| asNil σ <| l6r4 (fun z1 => K .ret [(2, I z1)] []) (K (.exit 0) [(2, .undef)] []) s1 s2 s3 s4
theorem l6r4v : LoopV E (inlF (PA (ACall E)) E 8) (E.info 6).keep 0 Try.f6.ntmps 7000004 (body Try.f6 4) ([0, 10, 11, 12], lsl6r4) := by
  intro vs σ K (h0 : lsl6r4 vs σ K)
  unfold lsl6r4 at h0
  obtain ⟨a1, r1, rfl, h1⟩ := asCons_inv h0; clear h0
  obtain ⟨s1, rfl, h2⟩ := asD_inv h1; clear h1
  obtain ⟨a2, r2, rfl, h3⟩ := asCons_inv h2; clear h2
  obtain ⟨s2, rfl, h4⟩ := asD_inv h3; clear h3
  obtain ⟨a3, r3, rfl, h5⟩ := asCons_inv h4; clear h4
  obtain ⟨s3, rfl, h6⟩ := asD_inv h5; clear h5
  obtain ⟨a4, r4, rfl, h7⟩ := asCons_inv h6; clear h6
  obtain ⟨s4, rfl, h8⟩ := asD_inv h7; clear h7
  obtain ⟨rfl, h9⟩ := asNil_inv h8; clear h8
  obtain ⟨rfl, h10⟩ := asNil_inv h9; clear h9
  intro J hJ
  have hp : ∀ c' ∈ subsOf (E.info 6).keep (body Try.f6 4), SubOK E (inlF (PA (ACall E)) E 8) (E.info 6).keep 0 Try.f6.ntmps (lofL Ll6r4) c' := all_eq (by kernel_rfl : subsOf (E.info 6).keep (body Try.f6 4) = []) (all_nil)
  exact h10.of (fun s1 s2 s3 s4 => J [(7000004, .undef), (0, .d (.sl wLF) s1), (10, .d (.sl wLF) s2), (11, I s3), (12, I s4)] []) (fun s1 s2 s3 s4 hb => loop_round2 (S := ofL Sl6r4) (L := lofL Ll6r4) hSl6r4 (inlOK _) hp hJ (by kernel_rfl) hb)

abbrev S6 : List (Nat × Pat × Sp) := []
theorem hS6 : SpecOK E (ofL S6) := specOK_nil
abbrev L6 : List (Nat × List Nat × Pat × LSp) := [(7000004, [0, 10, 11, 12], none, lsl6r4)]
def sp6 : Sp := fun args τ K => asCons args fun a1 r1 => asD (.sl wLF) a1 fun x1 => asNil r1 <| asNil τ <| c6 x1 (fun z1 => K (I z1) [])
theorem h6 : ∀ args τ K, sp6 args τ K → ACall E 6 args τ K := by
  intro args τ K h0
  unfold sp6 at h0
  obtain ⟨a1, r1, rfl, h1⟩ := asCons_inv h0; clear h0
  obtain ⟨x1, rfl, h2⟩ := asD_inv h1; clear h1
  obtain ⟨rfl, h3⟩ := asNil_inv h2; clear h2
  obtain ⟨rfl, h4⟩ := asNil_inv h3; clear h3
  exact ACall.spec2 (fn := Try.f6) (c := codeOf Try.f6) (S := ofL S6) (L := lofL L6) hS6 (by kernel_rfl) (by kernel_rfl) (inlOK _) (all_eq (by kernel_rfl : subsOf (E.info 6).keep (codeOf Try.f6) = [.loop (body Try.f6 4)]) (all_cons (loopOK_of (mk := 7000004) (sl := [0, 10, 11, 12]) (ss := [([0, 10, 11, 12], lsl6r4)]) (by kernel_rfl) (by kernel_rfl) (all_cons l6r4v (all_nil))) (all_nil))) (by kernel_rfl) h4.of

abbrev Sl33r4 : List (Nat × Pat × Sp) := []
theorem hSl33r4 : SpecOK E (ofL Sl33r4) := specOK_nil
abbrev Ll33r4 : List (Nat × List Nat × Pat × LSp) := []
def lsl33r4 : LSp := fun vs σ K => asCons vs fun a1 r1 => asD (.sl wIT) a1 fun s1 => asCons r1 fun a2 r2 => asD (.sl wIT) a2 fun s2 => asCons r2 fun a3 r3 => asD (.int .i64) a3 fun s3 => asCons r3 fun a4 r4 => asD (.int .i64) a4 fun s4 => asNil r4 <| asNil σ <| l33r4 (fun z1 => K .ret [(4, B z1)] []) (K (.exit 0) [(4, .undef)] []) s1 s2 s3 s4
theorem l33r4v : LoopV E (inlF (PA (ACall E)) E 8) (E.info 33).keep 0 Try.f33.ntmps 34000004 (body Try.f33 4) ([0, 1, 12, 13], lsl33r4) := by
  intro vs σ K (h0 : lsl33r4 vs σ K)
  unfold lsl33r4 at h0
  obtain ⟨a1, r1, rfl, h1⟩ := asCons_inv h0; clear h0
  obtain ⟨s1, rfl, h2⟩ := asD_inv h1; clear h1
  obtain ⟨a2, r2, rfl, h3⟩ := asCons_inv h2; clear h2
  obtain ⟨s2, rfl, h4⟩ := asD_inv h3; clear h3
  obtain ⟨a3, r3, rfl, h5⟩ := asCons_inv h4; clear h4
  obtain ⟨s3, rfl, h6⟩ := asD_inv h5; clear h5
  obtain ⟨a4, r4, rfl, h7⟩ := asCons_inv h6; clear h6
  obtain ⟨s4, rfl, h8⟩ := asD_inv h7; clear h7
  obtain ⟨rfl, h9⟩ := asNil_inv h8; clear h8
  obtain ⟨rfl, h10⟩ := asNil_inv h9; clear h9
  intro J hJ
  have hp : ∀ c' ∈ subsOf (E.info 33).keep (body Try.f33 4), SubOK E (inlF (PA (ACall E)) E 8) (E.info 33).keep 0 Try.f33.ntmps (lofL Ll33r4) c' := all_eq (by kernel_rfl : subsOf (E.info 33).keep (body Try.f33 4) = []) (all_nil)
  exact h10.of (fun s1 s2 s3 s4 => J [(34000004, .undef), (0, .d (.sl wIT) s1), (1, .d (.sl wIT) s2), (12, I s3), (13, I s4)] []) (fun s1 s2 s3 s4 hb => loop_round2 (S := ofL Sl33r4) (L := lofL Ll33r4) hSl33r4 (inlOK _) hp hJ (by kernel_rfl) hb)

abbrev S33 : List (Nat × Pat × Sp) := []
theorem hS33 : SpecOK E (ofL S33) := specOK_nil
abbrev L33 : List (Nat × List Nat × Pat × LSp) := [(34000004, [0, 1, 12, 13], none, lsl33r4)]
def sp33 : Sp := fun args τ K => asCons args fun a1 r1 => asD (.sl wIT) a1 fun x1 => asCons r1 fun a2 r2 => asD (.sl wIT) a2 fun x2 => asNil r2 <| asNil τ <| c33 x1 x2 (fun z1 => K (B z1) [])
theorem h33 : ∀ args τ K, sp33 args τ K → ACall E 33 args τ K := by
  intro args τ K h0
  unfold sp33 at h0
  obtain ⟨a1, r1, rfl, h1⟩ := asCons_inv h0; clear h0
  obtain ⟨x1, rfl, h2⟩ := asD_inv h1; clear h1
  obtain ⟨a2, r2, rfl, h3⟩ := asCons_inv h2; clear h2
  obtain ⟨x2, rfl, h4⟩ := asD_inv h3; clear h3
  obtain ⟨rfl, h5⟩ := asNil_inv h4; clear h4
  obtain ⟨rfl, h6⟩ := asNil_inv h5; clear h5
  exact ACall.spec2 (fn := Try.f33) (c := codeOf Try.f33) (S := ofL S33) (L := lofL L33) hS33 (by kernel_rfl) (by kernel_rfl) (inlOK _) (all_eq (by kernel_rfl : subsOf (E.info 33).keep (codeOf Try.f33) = [.loop (body Try.f33 4)]) (all_cons (loopOK_of (mk := 34000004) (sl := [0, 1, 12, 13]) (ss := [([0, 1, 12, 13], lsl33r4)]) (by kernel_rfl) (by kernel_rfl) (all_cons l33r4v (all_nil))) (all_nil))) (by kernel_rfl) h6.of

abbrev Sl23r4 : List (Nat × Pat × Sp) := []
theorem hSl23r4 : SpecOK E (ofL Sl23r4) := specOK_nil
abbrev Ll23r4 : List (Nat × List Nat × Pat × LSp) := []
def lsl23r4 : LSp := fun vs σ K => asCons vs fun a1 r1 => asD (.sl (.int .i64)) a1 fun s1 => asCons r1 fun a2 r2 => asD (.sl (.int .i64)) a2 fun s2 => asCons r2 fun a3 r3 => asD (.int .i64) a3 fun s3 => asCons r3 fun a4 r4 => asD (.int .i64) a4 fun s4 => asNil r4 <| asNil σ <| l23r4 (fun z1 => K .ret [(4, B z1)] []) (K (.exit 0) [(4, .undef)] []) s1 s2 s3 s4
theorem l23r4v : LoopV E (inlF (PA (ACall E)) E 8) (E.info 23).keep 0 Try.f23.ntmps 24000004 (body Try.f23 4) ([0, 1, 12, 13], lsl23r4) := by
  intro vs σ K (h0 : lsl23r4 vs σ K)
  unfold lsl23r4 at h0
  obtain ⟨a1, r1, rfl, h1⟩ := asCons_inv h0; clear h0
  obtain ⟨s1, rfl, h2⟩ := asD_inv h1; clear h1
  obtain ⟨a2, r2, rfl, h3⟩ := asCons_inv h2; clear h2
  obtain ⟨s2, rfl, h4⟩ := asD_inv h3; clear h3
  obtain ⟨a3, r3, rfl, h5⟩ := asCons_inv h4; clear h4
  obtain ⟨s3, rfl, h6⟩ := asD_inv h5; clear h5
  obtain ⟨a4, r4, rfl, h7⟩ := asCons_inv h6; clear h6
  obtain ⟨s4, rfl, h8⟩ := asD_inv h7; clear h7
  obtain ⟨rfl, h9⟩ := asNil_inv h8; clear h8
  obtain ⟨rfl, h10⟩ := asNil_inv h9; clear h9
  intro J hJ
  have hp : ∀ c' ∈ subsOf (E.info 23).keep (body Try.f23 4), SubOK E (inlF (PA (ACall E)) E 8) (E.info 23).keep 0 Try.f23.ntmps (lofL Ll23r4) c' := all_eq (by kernel_rfl : subsOf (E.info 23).keep (body Try.f23 4) = []) (all_nil)
  exact h10.of (fun s1 s2 s3 s4 => J [(24000004, .undef), (0, .d (.sl (.int .i64)) s1), (1, .d (.sl (.int .i64)) s2), (12, I s3), (13, I s4)] []) (fun s1 s2 s3 s4 hb => loop_round2 (S := ofL Sl23r4) (L := lofL Ll23r4) hSl23r4 (inlOK _) hp hJ (by kernel_rfl) hb)

abbrev S23 : List (Nat × Pat × Sp) := []
theorem hS23 : SpecOK E (ofL S23) := specOK_nil
abbrev L23 : List (Nat × List Nat × Pat × LSp) := [(24000004, [0, 1, 12, 13], none, lsl23r4)]
def sp23 : Sp := fun args τ K => asCons args fun a1 r1 => asD (.sl (.int .i64)) a1 fun x1 => asCons r1 fun a2 r2 => asD (.sl (.int .i64)) a2 fun x2 => asNil r2 <| asNil τ <| c23 x1 x2 (fun z1 => K (B z1) [])
theorem h23 : ∀ args τ K, sp23 args τ K → ACall E 23 args τ K := by
  intro args τ K h0
  unfold sp23 at h0
  obtain ⟨a1, r1, rfl, h1⟩ := asCons_inv h0; clear h0
  obtain ⟨x1, rfl, h2⟩ := asD_inv h1; clear h1
  obtain ⟨a2, r2, rfl, h3⟩ := asCons_inv h2; clear h2
  obtain ⟨x2, rfl, h4⟩ := asD_inv h3; clear h3
  obtain ⟨rfl, h5⟩ := asNil_inv h4; clear h4
  obtain ⟨rfl, h6⟩ := asNil_inv h5; clear h5
  exact ACall.spec2 (fn := Try.f23) (c := codeOf Try.f23) (S := ofL S23) (L := lofL L23) hS23 (by kernel_rfl) (by kernel_rfl) (inlOK _) (all_eq (by kernel_rfl : subsOf (E.info 23).keep (codeOf Try.f23) = [.loop (body Try.f23 4)]) (all_cons (loopOK_of (mk := 24000004) (sl := [0, 1, 12, 13]) (ss := [([0, 1, 12, 13], lsl23r4)]) (by kernel_rfl) (by kernel_rfl) (all_cons l23r4v (all_nil))) (all_nil))) (by kernel_rfl) h6.of

abbrev S35 : List (Nat × Pat × Sp) := [(23, none, sp23)]
theorem hS35 : SpecOK E (ofL S35) := specOK_cons h23 (specOK_nil)
abbrev L35 : List (Nat × List Nat × Pat × LSp) := []
def sp35 : Sp := fun args τ K => asCons args fun a1 r1 => asD wMP a1 fun x1 => asCons r1 fun a2 r2 => asD wMP a2 fun x2 => asNil r2 <| asNil τ <| c35 x1 x2 (fun z1 => K (B z1) [])
theorem h35 : ∀ args τ K, sp35 args τ K → ACall E 35 args τ K := by
  intro args τ K h0
  unfold sp35 at h0
  obtain ⟨a1, r1, rfl, h1⟩ := asCons_inv h0; clear h0
  obtain ⟨x1, rfl, h2⟩ := asD_inv h1; clear h1
  obtain ⟨a2, r2, rfl, h3⟩ := asCons_inv h2; clear h2
  obtain ⟨x2, rfl, h4⟩ := asD_inv h3; clear h3
  obtain ⟨rfl, h5⟩ := asNil_inv h4; clear h4
  obtain ⟨rfl, h6⟩ := asNil_inv h5; clear h5
  exact ACall.spec2 (fn := Try.f35) (c := codeOf Try.f35) (S := ofL S35) (L := lofL L35) hS35 (by kernel_rfl) (by kernel_rfl) (inlOK _) (all_eq (by kernel_rfl : subsOf (E.info 35).keep (codeOf Try.f35) = []) (all_nil)) (by kernel_rfl) h6.of

abbrev Sl34r4 : List (Nat × Pat × Sp) := [(35, none, sp35)]
theorem hSl34r4 : SpecOK E (ofL Sl34r4) := specOK_cons h35 (specOK_nil)
abbrev Ll34r4 : List (Nat × List Nat × Pat × LSp) := []
def lsl34r4 : LSp := fun vs σ K => asCons vs fun a1 r1 => asD (.sl wMP) a1 fun s1 => asCons r1 fun a2 r2 => asFn 35 a2 fun l3 l4 => asNil l3 <| asNil l4 <| asCons r2 fun a5 r5 => asD (.sl wMP) a5 fun s2 => asCons r5 fun a6 r6 => asD (.int .i64) a6 fun s3 => asCons r6 fun a7 r7 => asD (.int .i64) a7 fun s4 => asNil r7 <| asNil σ <| l34r4 (fun z1 => K .ret [(6, B z1)] []) (K (.exit 0) [(6, .undef)] []) s1 s2 s3 s4
theorem l34r4v : LoopV E (inlF (PA (ACall E)) E 8) (E.info 34).keep 0 Try.f34.ntmps 35000004 (body Try.f34 4) ([1, 2, 15, 16, 17], lsl34r4) := by
  intro vs σ K (h0 : lsl34r4 vs σ K)
  unfold lsl34r4 at h0
  obtain ⟨a1, r1, rfl, h1⟩ := asCons_inv h0; clear h0
  obtain ⟨s1, rfl, h2⟩ := asD_inv h1; clear h1
  obtain ⟨a2, r2, rfl, h3⟩ := asCons_inv h2; clear h2
  obtain ⟨l3, l4, rfl, h4⟩ := asFn_inv h3; clear h3
  obtain ⟨rfl, h5⟩ := asNil_inv h4; clear h4
  obtain ⟨rfl, h6⟩ := asNil_inv h5; clear h5
  obtain ⟨a5, r5, rfl, h7⟩ := asCons_inv h6; clear h6
  obtain ⟨s2, rfl, h8⟩ := asD_inv h7; clear h7
  obtain ⟨a6, r6, rfl, h9⟩ := asCons_inv h8; clear h8
  obtain ⟨s3, rfl, h10⟩ := asD_inv h9; clear h9
  obtain ⟨a7, r7, rfl, h11⟩ := asCons_inv h10; clear h10
  obtain ⟨s4, rfl, h12⟩ := asD_inv h11; clear h11
  obtain ⟨rfl, h13⟩ := asNil_inv h12; clear h12
  obtain ⟨rfl, h14⟩ := asNil_inv h13; clear h13
  intro J hJ
  have hp : ∀ c' ∈ subsOf (E.info 34).keep (body Try.f34 4), SubOK E (inlF (PA (ACall E)) E 8) (E.info 34).keep 0 Try.f34.ntmps (lofL Ll34r4) c' := all_eq (by kernel_rfl : subsOf (E.info 34).keep (body Try.f34 4) = []) (all_nil)
  exact h14.of (fun s1 s2 s3 s4 => J [(35000004, .undef), (1, .d (.sl wMP) s1), (2, .fn 35 [] []), (15, .d (.sl wMP) s2), (16, I s3), (17, I s4)] []) (fun s1 s2 s3 s4 hb => loop_round2 (S := ofL Sl34r4) (L := lofL Ll34r4) hSl34r4 (inlOK _) hp hJ (by kernel_rfl) hb)

abbrev S34 : List (Nat × Pat × Sp) := []
theorem hS34 : SpecOK E (ofL S34) := specOK_nil
abbrev L34 : List (Nat × List Nat × Pat × LSp) := [(35000004, [1, 2, 15, 16, 17], none, lsl34r4)]
def sp34 : Sp := fun args τ K => asCons args fun a1 r1 => asD (.sl wMP) a1 fun x1 => asCons r1 fun a2 r2 => asD (.sl wMP) a2 fun x2 => asCons r2 fun a3 r3 => asFn 35 a3 fun l4 l5 => asNil l4 <| asNil l5 <| asNil r3 <| asNil τ <| c34 x1 x2 (fun z1 => K (B z1) [])
theorem h34 : ∀ args τ K, sp34 args τ K → ACall E 34 args τ K := by
  intro args τ K h0
  unfold sp34 at h0
  obtain ⟨a1, r1, rfl, h1⟩ := asCons_inv h0; clear h0
  obtain ⟨x1, rfl, h2⟩ := asD_inv h1; clear h1
  obtain ⟨a2, r2, rfl, h3⟩ := asCons_inv h2; clear h2
  obtain ⟨x2, rfl, h4⟩ := asD_inv h3; clear h3
  obtain ⟨a3, r3, rfl, h5⟩ := asCons_inv h4; clear h4
  obtain ⟨l4, l5, rfl, h6⟩ := asFn_inv h5; clear h5
  obtain ⟨rfl, h7⟩ := asNil_inv h6; clear h6
  obtain ⟨rfl, h8⟩ := asNil_inv h7; clear h7
  obtain ⟨rfl, h9⟩ := asNil_inv h8; clear h8
  obtain ⟨rfl, h10⟩ := asNil_inv h9; clear h9
  exact ACall.spec2 (fn := Try.f34) (c := codeOf Try.f34) (S := ofL S34) (L := lofL L34) hS34 (by kernel_rfl) (by kernel_rfl) (inlOK _) (all_eq (by kernel_rfl : subsOf (E.info 34).keep (codeOf Try.f34) = [.loop (body Try.f34 4)]) (all_cons (loopOK_of (mk := 35000004) (sl := [1, 2, 15, 16, 17]) (ss := [([1, 2, 15, 16, 17], lsl34r4)]) (by kernel_rfl) (by kernel_rfl) (all_cons l34r4v (all_nil))) (all_nil))) (by kernel_rfl) h10.of

abbrev S37 : List (Nat × Pat × Sp) := []
theorem hS37 : SpecOK E (ofL S37) := specOK_nil
abbrev L37 : List (Nat × List Nat × Pat × LSp) := []
def sp37 : Sp := fun args τ K => asCons args fun a1 r1 => asD wCL a1 fun x1 => asCons r1 fun a2 r2 => asD wCL a2 fun x2 => asCons r2 fun a3 r3 => asP (.ptr 0 0 []) a3 <| asNil r3 <| asCons τ fun a4 r4 => asOne (.sl (.int .i64)) a4 fun a5 => asD (.sl (.int .i64)) a5 fun x3 => asNil r4 <| c37 x1 x2 x3 (fun z1 z2 => K (B z1) [.one (.sl (.int .i64)) (.d (.sl (.int .i64)) z2)])
theorem h37 : ∀ args τ K, sp37 args τ K → ACall E 37 args τ K := by
  intro args τ K h0
  unfold sp37 at h0
  obtain ⟨a1, r1, rfl, h1⟩ := asCons_inv h0; clear h0
  obtain ⟨x1, rfl, h2⟩ := asD_inv h1; clear h1
  obtain ⟨a2, r2, rfl, h3⟩ := asCons_inv h2; clear h2
  obtain ⟨x2, rfl, h4⟩ := asD_inv h3; clear h3
  obtain ⟨a3, r3, rfl, h5⟩ := asCons_inv h4; clear h4
  obtain ⟨rfl, h6⟩ := asP_inv h5; clear h5
  obtain ⟨rfl, h7⟩ := asNil_inv h6; clear h6
  obtain ⟨a4, r4, rfl, h8⟩ := asCons_inv h7; clear h7
  obtain ⟨a5, rfl, h9⟩ := asOne_inv h8; clear h8
  obtain ⟨x3, rfl, h10⟩ := asD_inv h9; clear h9
  obtain ⟨rfl, h11⟩ := asNil_inv h10; clear h10
  exact ACall.spec2 (fn := Try.f37) (c := codeOf Try.f37) (S := ofL S37) (L := lofL L37) hS37 (by kernel_rfl) (by kernel_rfl) (inlOK _) (all_eq (by kernel_rfl : subsOf (E.info 37).keep (codeOf Try.f37) = []) (all_nil)) (by kernel_rfl) h11.of

abbrev Sl36r4 : List (Nat × Pat × Sp) := [(37, none, sp37)]
theorem hSl36r4 : SpecOK E (ofL Sl36r4) := specOK_cons h37 (specOK_nil)
abbrev Ll36r4 : List (Nat × List Nat × Pat × LSp) := []
def lsl36r4 : LSp := fun vs σ K => asCons vs fun a1 r1 => asD (.sl wCL) a1 fun s1 => asCons r1 fun a2 r2 => asFn 37 a2 fun l3 l4 => asNil l3 <| asCons l4 fun a5 r5 => asP (.ptr 0 0 []) a5 <| asNil r5 <| asCons r2 fun a6 r6 => asD (.sl wCL) a6 fun s2 => asCons r6 fun a7 r7 => asD (.int .i64) a7 fun s3 => asCons r7 fun a8 r8 => asD (.int .i64) a8 fun s4 => asNil r8 <| asCons σ fun a9 r9 => asOne (.sl (.int .i64)) a9 fun a10 => asD (.sl (.int .i64)) a10 fun s5 => asNil r9 <| l36r4 (fun z1 z2 => K .ret [(6, B z1)] [.one (.sl (.int .i64)) (.d (.sl (.int .i64)) z2)]) (fun z1 => K (.exit 0) [(6, .undef)] [.one (.sl (.int .i64)) (.d (.sl (.int .i64)) z1)]) s1 s2 s3 s4 s5
theorem l36r4v : LoopV E (inlF (PA (ACall E)) E 8) (E.info 36).keep 1 Try.f36.ntmps 37000004 (body Try.f36 4) ([1, 2, 15, 16, 17], lsl36r4) := by
  intro vs σ K (h0 : lsl36r4 vs σ K)
  unfold lsl36r4 at h0
  obtain ⟨a1, r1, rfl, h1⟩ := asCons_inv h0; clear h0
  obtain ⟨s1, rfl, h2⟩ := asD_inv h1; clear h1
  obtain ⟨a2, r2, rfl, h3⟩ := asCons_inv h2; clear h2
  obtain ⟨l3, l4, rfl, h4⟩ := asFn_inv h3; clear h3
  obtain ⟨rfl, h5⟩ := asNil_inv h4; clear h4
  obtain ⟨a5, r5, rfl, h6⟩ := asCons_inv h5; clear h5
  obtain ⟨rfl, h7⟩ := asP_inv h6; clear h6
  obtain ⟨rfl, h8⟩ := asNil_inv h7; clear h7
  obtain ⟨a6, r6, rfl, h9⟩ := asCons_inv h8; clear h8
  obtain ⟨s2, rfl, h10⟩ := asD_inv h9; clear h9
  obtain ⟨a7, r7, rfl, h11⟩ := asCons_inv h10; clear h10
  obtain ⟨s3, rfl, h12⟩ := asD_inv h11; clear h11
  obtain ⟨a8, r8, rfl, h13⟩ := asCons_inv h12; clear h12
  obtain ⟨s4, rfl, h14⟩ := asD_inv h13; clear h13
  obtain ⟨rfl, h15⟩ := asNil_inv h14; clear h14
  obtain ⟨a9, r9, rfl, h16⟩ := asCons_inv h15; clear h15
  obtain ⟨a10, rfl, h17⟩ := asOne_inv h16; clear h16
  obtain ⟨s5, rfl, h18⟩ := asD_inv h17; clear h17
  obtain ⟨rfl, h19⟩ := asNil_inv h18; clear h18
  intro J hJ
  have hp : ∀ c' ∈ subsOf (E.info 36).keep (body Try.f36 4), SubOK E (inlF (PA (ACall E)) E 8) (E.info 36).keep 1 Try.f36.ntmps (lofL Ll36r4) c' := all_eq (by kernel_rfl : subsOf (E.info 36).keep (body Try.f36 4) = []) (all_nil)
  exact h19.of (fun s1 s2 s3 s4 s5 => J [(37000004, .undef), (1, .d (.sl wCL) s1), (2, .fn 37 [] [.ptr 0 0 []]), (15, .d (.sl wCL) s2), (16, I s3), (17, I s4)] [.one (.sl (.int .i64)) (.d (.sl (.int .i64)) s5)]) (fun s1 s2 s3 s4 s5 hb => loop_round2 (S := ofL Sl36r4) (L := lofL Ll36r4) hSl36r4 (inlOK _) hp hJ (by kernel_rfl) hb)

abbrev S36 : List (Nat × Pat × Sp) := []
theorem hS36 : SpecOK E (ofL S36) := specOK_nil
abbrev L36 : List (Nat × List Nat × Pat × LSp) := [(37000004, [1, 2, 15, 16, 17], none, lsl36r4)]
def sp36 : Sp := fun args τ K => asCons args fun a1 r1 => asD (.sl wCL) a1 fun x1 => asCons r1 fun a2 r2 => asD (.sl wCL) a2 fun x2 => asCons r2 fun a3 r3 => asFn 37 a3 fun l4 l5 => asNil l4 <| asCons l5 fun a6 r6 => asP (.ptr 0 0 []) a6 <| asNil r6 <| asNil r3 <| asCons τ fun a7 r7 => asOne (.sl (.int .i64)) a7 fun a8 => asD (.sl (.int .i64)) a8 fun x3 => asNil r7 <| c36 x1 x2 x3 (fun z1 z2 => K (B z1) [.one (.sl (.int .i64)) (.d (.sl (.int .i64)) z2)])
theorem h36 : ∀ args τ K, sp36 args τ K → ACall E 36 args τ K := by
  intro args τ K h0
  unfold sp36 at h0
  obtain ⟨a1, r1, rfl, h1⟩ := asCons_inv h0; clear h0
  obtain ⟨x1, rfl, h2⟩ := asD_inv h1; clear h1
  obtain ⟨a2, r2, rfl, h3⟩ := asCons_inv h2; clear h2
  obtain ⟨x2, rfl, h4⟩ := asD_inv h3; clear h3
  obtain ⟨a3, r3, rfl, h5⟩ := asCons_inv h4; clear h4
  obtain ⟨l4, l5, rfl, h6⟩ := asFn_inv h5; clear h5
  obtain ⟨rfl, h7⟩ := asNil_inv h6; clear h6
  obtain ⟨a6, r6, rfl, h8⟩ := asCons_inv h7; clear h7
  obtain ⟨rfl, h9⟩ := asP_inv h8; clear h8
  obtain ⟨rfl, h10⟩ := asNil_inv h9; clear h9
  obtain ⟨rfl, h11⟩ := asNil_inv h10; clear h10
  obtain ⟨a7, r7, rfl, h12⟩ := asCons_inv h11; clear h11
  obtain ⟨a8, rfl, h13⟩ := asOne_inv h12; clear h12
  obtain ⟨x3, rfl, h14⟩ := asD_inv h13; clear h13
  obtain ⟨rfl, h15⟩ := asNil_inv h14; clear h14
  exact ACall.spec2 (fn := Try.f36) (c := codeOf Try.f36) (S := ofL S36) (L := lofL L36) hS36 (by kernel_rfl) (by kernel_rfl) (inlOK _) (all_eq (by kernel_rfl : subsOf (E.info 36).keep (codeOf Try.f36) = [.loop (body Try.f36 4)]) (all_cons (loopOK_of (mk := 37000004) (sl := [1, 2, 15, 16, 17]) (ss := [([1, 2, 15, 16, 17], lsl36r4)]) (by kernel_rfl) (by kernel_rfl) (all_cons l36r4v (all_nil))) (all_nil))) (by kernel_rfl) h15.of

abbrev S22 : List (Nat × Pat × Sp) := [(33, none, sp33), (34, none, sp34), (36, none, sp36)]
theorem hS22 : SpecOK E (ofL S22) := specOK_cons h33 (specOK_cons h34 (specOK_cons h36 (specOK_nil)))
abbrev L22 : List (Nat × List Nat × Pat × LSp) := []
def sp22 : Sp := fun args τ K => asCons args fun a1 r1 => asD wLF a1 fun x1 => asCons r1 fun a2 r2 => asD wLF a2 fun x2 => asCons r2 fun a3 r3 => asD (.sl (.int .i64)) a3 fun x3 => asNil r3 <| asNil τ <| c22 x1 x2 x3 (fun z1 => K (B z1) [])
theorem h22 : ∀ args τ K, sp22 args τ K → ACall E 22 args τ K := by
  intro args τ K h0
  unfold sp22 at h0
  obtain ⟨a1, r1, rfl, h1⟩ := asCons_inv h0; clear h0
  obtain ⟨x1, rfl, h2⟩ := asD_inv h1; clear h1
  obtain ⟨a2, r2, rfl, h3⟩ := asCons_inv h2; clear h2
  obtain ⟨x2, rfl, h4⟩ := asD_inv h3; clear h3
  obtain ⟨a3, r3, rfl, h5⟩ := asCons_inv h4; clear h4
  obtain ⟨x3, rfl, h6⟩ := asD_inv h5; clear h5
  obtain ⟨rfl, h7⟩ := asNil_inv h6; clear h6
  obtain ⟨rfl, h8⟩ := asNil_inv h7; clear h7
  exact ACall.spec2 (fn := Try.f22) (c := codeOf Try.f22) (S := ofL S22) (L := lofL L22) hS22 (by kernel_rfl) (by kernel_rfl) (inlOK _) (all_eq (by kernel_rfl : subsOf (E.info 22).keep (codeOf Try.f22) = []) (all_nil)) (by kernel_rfl) h8.of

abbrev Sl11r11 : List (Nat × Pat × Sp) := [(22, none, sp22)]
theorem hSl11r11 : SpecOK E (ofL Sl11r11) := specOK_cons h22 (specOK_nil)
abbrev Ll11r11 : List (Nat × List Nat × Pat × LSp) := []
def lsl11r11 : LSp := fun vs σ K => asCons vs fun a1 r1 => asD (.sl wLF) a1 fun s1 => asCons r1 fun a2 r2 => asP (.vec 0) a2 <| asCons r2 fun a3 r3 => asP (.vec 1) a3 <| asCons r3 fun a4 r4 => asD (.int .i64) a4 fun s2 => asCons r4 fun a5 r5 => asD (.int .i64) a5 fun s3 => asCons r5 fun a6 r6 => asD (.int .i64) a6 fun s4 => asCons r6 fun a7 r7 => asD (.int .i64) a7 fun s5 => asCons r7 fun a8 r8 => asD (.int .i64) a8 fun s6 => asNil r8 <| asCons σ fun a9 r9 => asRw (.int .i64) false a9 fun s7 => asCons r9 fun a10 r10 => asRw (.int .i64) false a10 fun s8 => asNil r10 <| l11r11 (fun z1 z2 z3 z4 z5 => K (.exit 4) [(0, .d (.sl wLF) z1), (5, .vec 0), (6, .vec 1), (21, I z2), (22, I z3)] [.row (.int .i64) z4 false, .row (.int .i64) z5 false]) s1 s2 s3 s4 s5 s6 s7 s8
theorem l11r11v : LoopV E (inlF (PA (ACall E)) E 8) (E.info 11).keep 0 Try.f11.ntmps 12000011 (body Try.f11 11) ([0, 5, 6, 7, 21, 22, 29, 30], lsl11r11) := by
  intro vs σ K (h0 : lsl11r11 vs σ K)
  unfold lsl11r11 at h0
  obtain ⟨a1, r1, rfl, h1⟩ := asCons_inv h0; clear h0
  obtain ⟨s1, rfl, h2⟩ := asD_inv h1; clear h1
  obtain ⟨a2, r2, rfl, h3⟩ := asCons_inv h2; clear h2
  obtain ⟨rfl, h4⟩ := asP_inv h3; clear h3
  obtain ⟨a3, r3, rfl, h5⟩ := asCons_inv h4; clear h4
  obtain ⟨rfl, h6⟩ := asP_inv h5; clear h5
  obtain ⟨a4, r4, rfl, h7⟩ := asCons_inv h6; clear h6
  obtain ⟨s2, rfl, h8⟩ := asD_inv h7; clear h7
  obtain ⟨a5, r5, rfl, h9⟩ := asCons_inv h8; clear h8
  obtain ⟨s3, rfl, h10⟩ := asD_inv h9; clear h9
  obtain ⟨a6, r6, rfl, h11⟩ := asCons_inv h10; clear h10
  obtain ⟨s4, rfl, h12⟩ := asD_inv h11; clear h11
  obtain ⟨a7, r7, rfl, h13⟩ := asCons_inv h12; clear h12
  obtain ⟨s5, rfl, h14⟩ := asD_inv h13; clear h13
  obtain ⟨a8, r8, rfl, h15⟩ := asCons_inv h14; clear h14
  obtain ⟨s6, rfl, h16⟩ := asD_inv h15; clear h15
  obtain ⟨rfl, h17⟩ := asNil_inv h16; clear h16
  obtain ⟨a9, r9, rfl, h18⟩ := asCons_inv h17; clear h17
  obtain ⟨s7, rfl, h19⟩ := asRw_inv h18; clear h18
  obtain ⟨a10, r10, rfl, h20⟩ := asCons_inv h19; clear h19
  obtain ⟨s8, rfl, h21⟩ := asRw_inv h20; clear h20
  obtain ⟨rfl, h22⟩ := asNil_inv h21; clear h21
  intro J hJ
  have hp : ∀ c' ∈ subsOf (E.info 11).keep (body Try.f11 11), SubOK E (inlF (PA (ACall E)) E 8) (E.info 11).keep 0 Try.f11.ntmps (lofL Ll11r11) c' := all_eq (by kernel_rfl : subsOf (E.info 11).keep (body Try.f11 11) = []) (all_nil)
  exact h22.of (fun s1 s2 s3 s4 s5 s6 s7 s8 => J [(12000011, .undef), (0, .d (.sl wLF) s1), (5, .vec 0), (6, .vec 1), (7, I s2), (21, I s3), (22, I s4), (29, I s5), (30, I s6)] [.row (.int .i64) s7 false, .row (.int .i64) s8 false]) (fun s1 s2 s3 s4 s5 s6 s7 s8 hb => loop_round2 (S := ofL Sl11r11) (L := lofL Ll11r11) hSl11r11 (inlOK _) hp hJ (by kernel_rfl) hb)

abbrev Sl11r7 : List (Nat × Pat × Sp) := []
theorem hSl11r7 : SpecOK E (ofL Sl11r7) := specOK_nil
abbrev Ll11r7 : List (Nat × List Nat × Pat × LSp) := [(12000011, [0, 5, 6, 7, 21, 22, 29, 30], none, lsl11r11)]
def lsl11r7 : LSp := fun vs σ K => asCons vs fun a1 r1 => asD (.sl wLF) a1 fun s1 => asCons r1 fun a2 r2 => asP (.vec 0) a2 <| asCons r2 fun a3 r3 => asP (.vec 1) a3 <| asCons r3 fun a4 r4 => asD (.int .i64) a4 fun s2 => asCons r4 fun a5 r5 => asD (.int .i64) a5 fun s3 => asNil r5 <| asCons σ fun a6 r6 => asRw (.int .i64) false a6 fun s4 => asCons r6 fun a7 r7 => asRw (.int .i64) false a7 fun s5 => asNil r7 <| l11r7 (fun z1 z2 z3 => K (.exit 2) [(0, .d (.sl wLF) z1), (5, .vec 0), (6, .vec 1)] [.row (.int .i64) z2 false, .row (.int .i64) z3 false]) s1 s2 s3 s4 s5
theorem l11r7v : LoopV E (inlF (PA (ACall E)) E 8) (E.info 11).keep 0 Try.f11.ntmps 12000007 (body Try.f11 7) ([0, 5, 6, 21, 22], lsl11r7) := by
  intro vs σ K (h0 : lsl11r7 vs σ K)
  unfold lsl11r7 at h0
  obtain ⟨a1, r1, rfl, h1⟩ := asCons_inv h0; clear h0
  obtain ⟨s1, rfl, h2⟩ := asD_inv h1; clear h1
  obtain ⟨a2, r2, rfl, h3⟩ := asCons_inv h2; clear h2
  obtain ⟨rfl, h4⟩ := asP_inv h3; clear h3
  obtain ⟨a3, r3, rfl, h5⟩ := asCons_inv h4; clear h4
  obtain ⟨rfl, h6⟩ := asP_inv h5; clear h5
  obtain ⟨a4, r4, rfl, h7⟩ := asCons_inv h6; clear h6
  obtain ⟨s2, rfl, h8⟩ := asD_inv h7; clear h7
  obtain ⟨a5, r5, rfl, h9⟩ := asCons_inv h8; clear h8
  obtain ⟨s3, rfl, h10⟩ := asD_inv h9; clear h9
  obtain ⟨rfl, h11⟩ := asNil_inv h10; clear h10
  obtain ⟨a6, r6, rfl, h12⟩ := asCons_inv h11; clear h11
  obtain ⟨s4, rfl, h13⟩ := asRw_inv h12; clear h12
  obtain ⟨a7, r7, rfl, h14⟩ := asCons_inv h13; clear h13
  obtain ⟨s5, rfl, h15⟩ := asRw_inv h14; clear h14
  obtain ⟨rfl, h16⟩ := asNil_inv h15; clear h15
  intro J hJ
  have hp : ∀ c' ∈ subsOf (E.info 11).keep (body Try.f11 7), SubOK E (inlF (PA (ACall E)) E 8) (E.info 11).keep 0 Try.f11.ntmps (lofL Ll11r7) c' := all_eq (by kernel_rfl : subsOf (E.info 11).keep (body Try.f11 7) = [.loop (body Try.f11 11)]) (all_cons (loopOK_of (mk := 12000011) (sl := [0, 5, 6, 7, 21, 22, 29, 30]) (ss := [([0, 5, 6, 7, 21, 22, 29, 30], lsl11r11)]) (by kernel_rfl) (by kernel_rfl) (all_cons l11r11v (all_nil))) (all_nil))
  exact h16.of (fun s1 s2 s3 s4 s5 => J [(12000007, .undef), (0, .d (.sl wLF) s1), (5, .vec 0), (6, .vec 1), (21, I s2), (22, I s3)] [.row (.int .i64) s4 false, .row (.int .i64) s5 false]) (fun s1 s2 s3 s4 s5 hb => loop_round2 (S := ofL Sl11r7) (L := lofL Ll11r7) hSl11r7 (inlOK _) hp hJ (by kernel_rfl) hb)

abbrev Sl11r5 : List (Nat × Pat × Sp) := [(23, none, sp23)]
theorem hSl11r5 : SpecOK E (ofL Sl11r5) := specOK_cons h23 (specOK_nil)
abbrev Ll11r5 : List (Nat × List Nat × Pat × LSp) := [(12000007, [0, 5, 6, 21, 22], none, lsl11r7)]
def lsl11r5 : LSp := fun vs σ K => asCons vs fun a1 r1 => asD (.sl wLF) a1 fun s1 => asCons r1 fun a2 r2 => asP (.vec 0) a2 <| asNil r2 <| asCons σ fun a3 r3 => asRw (.int .i64) false a3 fun s2 => asNil r3 <| l11r5 (fun z1 z2 => K .ret [(2, .vec 0), (3, I z1)] [.row (.int .i64) z2 false]) s1 s2
theorem l11r5v : LoopV E (inlF (PA (ACall E)) E 8) (E.info 11).keep 0 Try.f11.ntmps 12000005 (body Try.f11 5) ([0, 5], lsl11r5) := by
  intro vs σ K (h0 : lsl11r5 vs σ K)
  unfold lsl11r5 at h0
  obtain ⟨a1, r1, rfl, h1⟩ := asCons_inv h0; clear h0
  obtain ⟨s1, rfl, h2⟩ := asD_inv h1; clear h1
  obtain ⟨a2, r2, rfl, h3⟩ := asCons_inv h2; clear h2
  obtain ⟨rfl, h4⟩ := asP_inv h3; clear h3
  obtain ⟨rfl, h5⟩ := asNil_inv h4; clear h4
  obtain ⟨a3, r3, rfl, h6⟩ := asCons_inv h5; clear h5
  obtain ⟨s2, rfl, h7⟩ := asRw_inv h6; clear h6
  obtain ⟨rfl, h8⟩ := asNil_inv h7; clear h7
  intro J hJ
  have hp : ∀ c' ∈ subsOf (E.info 11).keep (body Try.f11 5), SubOK E (inlF (PA (ACall E)) E 8) (E.info 11).keep 0 Try.f11.ntmps (lofL Ll11r5) c' := all_eq (by kernel_rfl : subsOf (E.info 11).keep (body Try.f11 5) = [.loop (body Try.f11 7)]) (all_cons (loopOK_of (mk := 12000007) (sl := [0, 5, 6, 21, 22]) (ss := [([0, 5, 6, 21, 22], lsl11r7)]) (by kernel_rfl) (by kernel_rfl) (all_cons l11r7v (all_nil))) (all_nil))
  exact h8.of (fun s1 s2 => J [(12000005, .undef), (0, .d (.sl wLF) s1), (5, .vec 0)] [.row (.int .i64) s2 false]) (fun s1 s2 hb => loop_round2 (S := ofL Sl11r5) (L := lofL Ll11r5) hSl11r5 (inlOK _) hp hJ (by kernel_rfl) hb)

abbrev S11 : List (Nat × Pat × Sp) := [(6, none, sp6)]
theorem hS11 : SpecOK E (ofL S11) := specOK_cons h6 (specOK_nil)
abbrev L11 : List (Nat × List Nat × Pat × LSp) := [(12000005, [0, 5], none, lsl11r5)]
def sp11 : Sp := fun args τ K => asCons args fun a1 r1 => asD (.sl wLF) a1 fun x1 => asNil r1 <| asNil τ <| c11 x1 (fun z1 z2 => K (.tup [.vec 0, I z1]) [.row (.int .i64) z2 false])
theorem h11 : ∀ args τ K, sp11 args τ K → ACall E 11 args τ K := by
  intro args τ K h0
  unfold sp11 at h0
  obtain ⟨a1, r1, rfl, h1⟩ := asCons_inv h0; clear h0
  obtain ⟨x1, rfl, h2⟩ := asD_inv h1; clear h1
  obtain ⟨rfl, h3⟩ := asNil_inv h2; clear h2
  obtain ⟨rfl, h4⟩ := asNil_inv h3; clear h3
  exact ACall.spec2 (fn := Try.f11) (c := codeOf Try.f11) (S := ofL S11) (L := lofL L11) hS11 (by kernel_rfl) (by kernel_rfl) (inlOK _) (all_eq (by kernel_rfl : subsOf (E.info 11).keep (codeOf Try.f11) = [.loop (body Try.f11 5)]) (all_cons (loopOK_of (mk := 12000005) (sl := [0, 5]) (ss := [([0, 5], lsl11r5)]) (by kernel_rfl) (by kernel_rfl) (all_cons l11r5v (all_nil))) (all_nil))) (by kernel_rfl) h4.of

abbrev Sl10r4 : List (Nat × Pat × Sp) := []
theorem hSl10r4 : SpecOK E (ofL Sl10r4) := specOK_nil
abbrev Ll10r4 : List (Nat × List Nat × Pat × LSp) := []
def lsl10r4 : LSp := fun vs σ K => asCons vs fun a1 r1 => asD (.sl (.int .i64)) a1 fun s1 => asCons r1 fun a2 r2 => asD (.sl (.int .i64)) a2 fun s2 => asCons r2 fun a3 r3 => asD (.int .i64) a3 fun s3 => asCons r3 fun a4 r4 => asD (.int .i64) a4 fun s4 => asNil r4 <| asNil σ <| l10r4 (fun z1 => K .ret [(4, B z1)] []) (K (.exit 0) [(4, .undef)] []) s1 s2 s3 s4
theorem l10r4v : LoopV E (inlF (PA (ACall E)) E 8) (E.info 10).keep 0 Try.f10.ntmps 11000004 (body Try.f10 4) ([0, 1, 12, 13], lsl10r4) := by
  intro vs σ K (h0 : lsl10r4 vs σ K)
  unfold lsl10r4 at h0
  obtain ⟨a1, r1, rfl, h1⟩ := asCons_inv h0; clear h0
  obtain ⟨s1, rfl, h2⟩ := asD_inv h1; clear h1
  obtain ⟨a2, r2, rfl, h3⟩ := asCons_inv h2; clear h2
  obtain ⟨s2, rfl, h4⟩ := asD_inv h3; clear h3
  obtain ⟨a3, r3, rfl, h5⟩ := asCons_inv h4; clear h4
  obtain ⟨s3, rfl, h6⟩ := asD_inv h5; clear h5
  obtain ⟨a4, r4, rfl, h7⟩ := asCons_inv h6; clear h6
  obtain ⟨s4, rfl, h8⟩ := asD_inv h7; clear h7
  obtain ⟨rfl, h9⟩ := asNil_inv h8; clear h8
  obtain ⟨rfl, h10⟩ := asNil_inv h9; clear h9
  intro J hJ
  have hp : ∀ c' ∈ subsOf (E.info 10).keep (body Try.f10 4), SubOK E (inlF (PA (ACall E)) E 8) (E.info 10).keep 0 Try.f10.ntmps (lofL Ll10r4) c' := all_eq (by kernel_rfl : subsOf (E.info 10).keep (body Try.f10 4) = []) (all_nil)
  exact h10.of (fun s1 s2 s3 s4 => J [(11000004, .undef), (0, .d (.sl (.int .i64)) s1), (1, .d (.sl (.int .i64)) s2), (12, I s3), (13, I s4)] []) (fun s1 s2 s3 s4 hb => loop_round2 (S := ofL Sl10r4) (L := lofL Ll10r4) hSl10r4 (inlOK _) hp hJ (by kernel_rfl) hb)

abbrev S10 : List (Nat × Pat × Sp) := []
theorem hS10 : SpecOK E (ofL S10) := specOK_nil
abbrev L10 : List (Nat × List Nat × Pat × LSp) := [(11000004, [0, 1, 12, 13], none, lsl10r4)]
def sp10 : Sp := fun args τ K => asCons args fun a1 r1 => asD (.sl (.int .i64)) a1 fun x1 => asCons r1 fun a2 r2 => asD (.sl (.int .i64)) a2 fun x2 => asNil r2 <| asNil τ <| c10 x1 x2 (fun z1 => K (B z1) [])
theorem h10 : ∀ args τ K, sp10 args τ K → ACall E 10 args τ K := by
  intro args τ K h0
  unfold sp10 at h0
  obtain ⟨a1, r1, rfl, h1⟩ := asCons_inv h0; clear h0
  obtain ⟨x1, rfl, h2⟩ := asD_inv h1; clear h1
  obtain ⟨a2, r2, rfl, h3⟩ := asCons_inv h2; clear h2
  obtain ⟨x2, rfl, h4⟩ := asD_inv h3; clear h3
  obtain ⟨rfl, h5⟩ := asNil_inv h4; clear h4
  obtain ⟨rfl, h6⟩ := asNil_inv h5; clear h5
  exact ACall.spec2 (fn := Try.f10) (c := codeOf Try.f10) (S := ofL S10) (L := lofL L10) hS10 (by kernel_rfl) (by kernel_rfl) (inlOK _) (all_eq (by kernel_rfl : subsOf (E.info 10).keep (codeOf Try.f10) = [.loop (body Try.f10 4)]) (all_cons (loopOK_of (mk := 11000004) (sl := [0, 1, 12, 13]) (ss := [([0, 1, 12, 13], lsl10r4)]) (by kernel_rfl) (by kernel_rfl) (all_cons l10r4v (all_nil))) (all_nil))) (by kernel_rfl) h6.of

abbrev S4 : List (Nat × Pat × Sp) := [(11, none, sp11), (10, none, sp10)]
theorem hS4 : SpecOK E (ofL S4) := specOK_cons h11 (specOK_cons h10 (specOK_nil))
abbrev L4 : List (Nat × List Nat × Pat × LSp) := []
def sp4 : Sp := fun args τ K => asNil args <| asNil τ <| c4  (fun z1 => K (B z1) [])
theorem h4 : ∀ args τ K, sp4 args τ K → ACall E 4 args τ K := by
  intro args τ K h0
  unfold sp4 at h0
  obtain ⟨rfl, h1⟩ := asNil_inv h0; clear h0
  obtain ⟨rfl, h2⟩ := asNil_inv h1; clear h1
  exact ACall.spec2 (fn := Try.f4) (c := codeOf Try.f4) (S := ofL S4) (L := lofL L4) hS4 (by kernel_rfl) (by kernel_rfl) (inlOK _) (all_eq (by kernel_rfl : subsOf (E.info 4).keep (codeOf Try.f4) = []) (all_nil)) (by kernel_rfl) h2.of

abbrev Sl24r4 : List (Nat × Pat × Sp) := []
theorem hSl24r4 : SpecOK E (ofL Sl24r4) := specOK_nil
abbrev Ll24r4 : List (Nat × List Nat × Pat × LSp) := []
def lsl24r4 : LSp := fun vs σ K => asCons vs fun a1 r1 => asP (.ptr 0 0 []) a1 <| asCons r1 fun a2 r2 => asP (.vec 1) a2 <| asCons r2 fun a3 r3 => asD (.int .i64) a3 fun s1 => asCons r3 fun a4 r4 => asD (.int .i64) a4 fun s2 => asNil r4 <| asCons σ fun a5 r5 => asOne opT a5 fun a6 => asD opT a6 fun s3 => asCons r5 fun a7 r7 => asRw (.int .i64) false a7 fun s4 => asNil r7 <| l24r4 (fun z1 => K .ret [(1, .undef), (2, I z1)] []) (fun z1 => K (.exit 0) [(1, .ptr 0 0 []), (2, .undef)] [.one opT (.d opT z1)]) s1 s2 s3 s4
theorem l24r4v : LoopV E (inlF (PA (ACall E)) E 8) (E.info 24).keep 0 Try.f24.ntmps 25000004 (body Try.f24 4) ([1, 24, 25, 26], lsl24r4) := by
  intro vs σ K (h0 : lsl24r4 vs σ K)
  unfold lsl24r4 at h0
  obtain ⟨a1, r1, rfl, h1⟩ := asCons_inv h0; clear h0
  obtain ⟨rfl, h2⟩ := asP_inv h1; clear h1
  obtain ⟨a2, r2, rfl, h3⟩ := asCons_inv h2; clear h2
  obtain ⟨rfl, h4⟩ := asP_inv h3; clear h3
  obtain ⟨a3, r3, rfl, h5⟩ := asCons_inv h4; clear h4
  obtain ⟨s1, rfl, h6⟩ := asD_inv h5; clear h5
  obtain ⟨a4, r4, rfl, h7⟩ := asCons_inv h6; clear h6
  obtain ⟨s2, rfl, h8⟩ := asD_inv h7; clear h7
  obtain ⟨rfl, h9⟩ := asNil_inv h8; clear h8
  obtain ⟨a5, r5, rfl, h10⟩ := asCons_inv h9; clear h9
  obtain ⟨a6, rfl, h11⟩ := asOne_inv h10; clear h10
  obtain ⟨s3, rfl, h12⟩ := asD_inv h11; clear h11
  obtain ⟨a7, r7, rfl, h13⟩ := asCons_inv h12; clear h12
  obtain ⟨s4, rfl, h14⟩ := asRw_inv h13; clear h13
  obtain ⟨rfl, h15⟩ := asNil_inv h14; clear h14
  intro J hJ
  have hp : ∀ c' ∈ subsOf (E.info 24).keep (body Try.f24 4), SubOK E (inlF (PA (ACall E)) E 8) (E.info 24).keep 0 Try.f24.ntmps (lofL Ll24r4) c' := all_eq (by kernel_rfl : subsOf (E.info 24).keep (body Try.f24 4) = []) (all_nil)
  exact h15.of (fun s1 s2 s3 s4 => J [(25000004, .undef), (1, .ptr 0 0 []), (24, .vec 1), (25, I s1), (26, I s2)] [.one opT (.d opT s3), .row (.int .i64) s4 false]) (fun s1 s2 s3 s4 hb => loop_round2 (S := ofL Sl24r4) (L := lofL Ll24r4) hSl24r4 (inlOK _) hp hJ (by kernel_rfl) hb)

abbrev S38 : List (Nat × Pat × Sp) := []
theorem hS38 : SpecOK E (ofL S38) := specOK_nil
abbrev L38 : List (Nat × List Nat × Pat × LSp) := []
def sp38 : Sp := fun args τ K => asNil args <| asNil τ <| c38  (fun z1 => K (.vec 0) [.row .str z1 false])
theorem h38 : ∀ args τ K, sp38 args τ K → ACall E 38 args τ K := by
  intro args τ K h0
  unfold sp38 at h0
  obtain ⟨rfl, h1⟩ := asNil_inv h0; clear h0
  obtain ⟨rfl, h2⟩ := asNil_inv h1; clear h1
  exact ACall.spec2 (fn := Try.f38) (c := codeOf Try.f38) (S := ofL S38) (L := lofL L38) hS38 (by kernel_rfl) (by kernel_rfl) (inlOK _) (all_eq (by kernel_rfl : subsOf (E.info 38).keep (codeOf Try.f38) = []) (all_nil)) (by kernel_rfl) h2.of

abbrev Sl39r2 : List (Nat × Pat × Sp) := []
theorem hSl39r2 : SpecOK E (ofL Sl39r2) := specOK_nil
abbrev Ll39r2 : List (Nat × List Nat × Pat × LSp) := []
def lsl39r2 : LSp := fun vs σ K => asCons vs fun a1 r1 => asD .str a1 fun s1 => asCons r1 fun a2 r2 => asD (.int .u8) a2 fun s2 => asCons r2 fun a3 r3 => asD (.int .i64) a3 fun s3 => asCons r3 fun a4 r4 => asD (.int .i64) a4 fun s4 => asNil r4 <| asNil σ <| l39r2 (fun z1 => K .ret [(4, B z1)] []) (K (.exit 0) [(4, .undef)] []) s1 s2 s3 s4
theorem l39r2v : LoopV E (inlF (PA (ACall E)) E 8) (E.info 39).keep 0 Try.f39.ntmps 40000002 (body Try.f39 2) ([0, 1, 7, 8], lsl39r2) := by
  intro vs σ K (h0 : lsl39r2 vs σ K)
  unfold lsl39r2 at h0
  obtain ⟨a1, r1, rfl, h1⟩ := asCons_inv h0; clear h0
  obtain ⟨s1, rfl, h2⟩ := asD_inv h1; clear h1
  obtain ⟨a2, r2, rfl, h3⟩ := asCons_inv h2; clear h2
  obtain ⟨s2, rfl, h4⟩ := asD_inv h3; clear h3
  obtain ⟨a3, r3, rfl, h5⟩ := asCons_inv h4; clear h4
  obtain ⟨s3, rfl, h6⟩ := asD_inv h5; clear h5
  obtain ⟨a4, r4, rfl, h7⟩ := asCons_inv h6; clear h6
  obtain ⟨s4, rfl, h8⟩ := asD_inv h7; clear h7
  obtain ⟨rfl, h9⟩ := asNil_inv h8; clear h8
  obtain ⟨rfl, h10⟩ := asNil_inv h9; clear h9
  intro J hJ
  have hp : ∀ c' ∈ subsOf (E.info 39).keep (body Try.f39 2), SubOK E (inlF (PA (ACall E)) E 8) (E.info 39).keep 0 Try.f39.ntmps (lofL Ll39r2) c' := all_eq (by kernel_rfl : subsOf (E.info 39).keep (body Try.f39 2) = []) (all_nil)
  exact h10.of (fun s1 s2 s3 s4 => J [(40000002, .undef), (0, .d .str s1), (1, .d (.int .u8) s2), (7, I s3), (8, I s4)] []) (fun s1 s2 s3 s4 hb => loop_round2 (S := ofL Sl39r2) (L := lofL Ll39r2) hSl39r2 (inlOK _) hp hJ (by kernel_rfl) hb)

abbrev S39 : List (Nat × Pat × Sp) := []
theorem hS39 : SpecOK E (ofL S39) := specOK_nil
abbrev L39 : List (Nat × List Nat × Pat × LSp) := [(40000002, [0, 1, 7, 8], none, lsl39r2)]
def sp39 : Sp := fun args τ K => asCons args fun a1 r1 => asD .str a1 fun x1 => asCons r1 fun a2 r2 => asD (.int .u8) a2 fun x2 => asNil r2 <| asNil τ <| c39 x1 x2 (fun z1 => K (B z1) [])
theorem h39 : ∀ args τ K, sp39 args τ K → ACall E 39 args τ K := by
  intro args τ K h0
  unfold sp39 at h0
  obtain ⟨a1, r1, rfl, h1⟩ := asCons_inv h0; clear h0
  obtain ⟨x1, rfl, h2⟩ := asD_inv h1; clear h1
  obtain ⟨a2, r2, rfl, h3⟩ := asCons_inv h2; clear h2
  obtain ⟨x2, rfl, h4⟩ := asD_inv h3; clear h3
  obtain ⟨rfl, h5⟩ := asNil_inv h4; clear h4
  obtain ⟨rfl, h6⟩ := asNil_inv h5; clear h5
  exact ACall.spec2 (fn := Try.f39) (c := codeOf Try.f39) (S := ofL S39) (L := lofL L39) hS39 (by kernel_rfl) (by kernel_rfl) (inlOK _) (all_eq (by kernel_rfl : subsOf (E.info 39).keep (codeOf Try.f39) = [.loop (body Try.f39 2)]) (all_cons (loopOK_of (mk := 40000002) (sl := [0, 1, 7, 8]) (ss := [([0, 1, 7, 8], lsl39r2)]) (by kernel_rfl) (by kernel_rfl) (all_cons l39r2v (all_nil))) (all_nil))) (by kernel_rfl) h6.of

abbrev Sl24r13 : List (Nat × Pat × Sp) := [(39, none, sp39)]
theorem hSl24r13 : SpecOK E (ofL Sl24r13) := specOK_cons h39 (specOK_nil)
abbrev Ll24r13 : List (Nat × List Nat × Pat × LSp) := []
def lsl24r13 : LSp := fun vs σ K => asCons vs fun a1 r1 => asP (.ptr 0 0 []) a1 <| asCons r1 fun a2 r2 => asD .str a2 fun s1 => asCons r2 fun a3 r3 => asP (.vec 1) a3 <| asCons r3 fun a4 r4 => asD (.int .i64) a4 fun s2 => asCons r4 fun a5 r5 => asD (.int .i64) a5 fun s3 => asNil r5 <| asCons σ fun a6 r6 => asOne opT a6 fun a7 => asD opT a7 fun s4 => asCons r6 fun a8 r8 => asRw (.int .i64) false a8 fun s5 => asNil r8 <| l24r13 (fun z1 => K .ret [(1, .undef), (2, I z1)] []) (fun z1 => K (.exit 2) [(1, .ptr 0 0 []), (2, .undef)] [.one opT (.d opT z1)]) s1 s2 s3 s4 s5
theorem l24r13v : LoopV E (inlF (PA (ACall E)) E 8) (E.info 24).keep 0 Try.f24.ntmps 25000013 (body Try.f24 13) ([1, 5, 58, 59, 60], lsl24r13) := by
  intro vs σ K (h0 : lsl24r13 vs σ K)
  unfold lsl24r13 at h0
  obtain ⟨a1, r1, rfl, h1⟩ := asCons_inv h0; clear h0
  obtain ⟨rfl, h2⟩ := asP_inv h1; clear h1
  obtain ⟨a2, r2, rfl, h3⟩ := asCons_inv h2; clear h2
  obtain ⟨s1, rfl, h4⟩ := asD_inv h3; clear h3
  obtain ⟨a3, r3, rfl, h5⟩ := asCons_inv h4; clear h4
  obtain ⟨rfl, h6⟩ := asP_inv h5; clear h5
  obtain ⟨a4, r4, rfl, h7⟩ := asCons_inv h6; clear h6
  obtain ⟨s2, rfl, h8⟩ := asD_inv h7; clear h7
  obtain ⟨a5, r5, rfl, h9⟩ := asCons_inv h8; clear h8
  obtain ⟨s3, rfl, h10⟩ := asD_inv h9; clear h9
  obtain ⟨rfl, h11⟩ := asNil_inv h10; clear h10
  obtain ⟨a6, r6, rfl, h12⟩ := asCons_inv h11; clear h11
  obtain ⟨a7, rfl, h13⟩ := asOne_inv h12; clear h12
  obtain ⟨s4, rfl, h14⟩ := asD_inv h13; clear h13
  obtain ⟨a8, r8, rfl, h15⟩ := asCons_inv h14; clear h14
  obtain ⟨s5, rfl, h16⟩ := asRw_inv h15; clear h15
  obtain ⟨rfl, h17⟩ := asNil_inv h16; clear h16
  intro J hJ
  have hp : ∀ c' ∈ subsOf (E.info 24).keep (body Try.f24 13), SubOK E (inlF (PA (ACall E)) E 8) (E.info 24).keep 0 Try.f24.ntmps (lofL Ll24r13) c' := all_eq (by kernel_rfl : subsOf (E.info 24).keep (body Try.f24 13) = []) (all_nil)
  exact h17.of (fun s1 s2 s3 s4 s5 => J [(25000013, .undef), (1, .ptr 0 0 []), (5, .d .str s1), (58, .vec 1), (59, I s2), (60, I s3)] [.one opT (.d opT s4), .row (.int .i64) s5 false]) (fun s1 s2 s3 s4 s5 hb => loop_round2 (S := ofL Sl24r13) (L := lofL Ll24r13) hSl24r13 (inlOK _) hp hJ (by kernel_rfl) hb)

abbrev S24 : List (Nat × Pat × Sp) := [(38, none, sp38)]
theorem hS24 : SpecOK E (ofL S24) := specOK_cons h38 (specOK_nil)
abbrev L24 : List (Nat × List Nat × Pat × LSp) := [(25000004, [1, 24, 25, 26], none, lsl24r4), (25000013, [1, 5, 58, 59, 60], none, lsl24r13)]
def sp24 : Sp := fun args τ K => asCons args fun a1 r1 => asD opT a1 fun x1 => asNil r1 <| asNil τ <| c24 x1 (fun z1 => K (I z1) [])
theorem h24 : ∀ args τ K, sp24 args τ K → ACall E 24 args τ K := by
  intro args τ K h0
  unfold sp24 at h0
  obtain ⟨a1, r1, rfl, h1⟩ := asCons_inv h0; clear h0
  obtain ⟨x1, rfl, h2⟩ := asD_inv h1; clear h1
  obtain ⟨rfl, h3⟩ := asNil_inv h2; clear h2
  obtain ⟨rfl, h4⟩ := asNil_inv h3; clear h3
  exact ACall.spec2 (fn := Try.f24) (c := codeOf Try.f24) (S := ofL S24) (L := lofL L24) hS24 (by kernel_rfl) (by kernel_rfl) (inlOK _) (all_eq (by kernel_rfl : subsOf (E.info 24).keep (codeOf Try.f24) = [.loop (body Try.f24 4), .loop (body Try.f24 13)]) (all_cons (loopOK_of (mk := 25000004) (sl := [1, 24, 25, 26]) (ss := [([1, 24, 25, 26], lsl24r4)]) (by kernel_rfl) (by kernel_rfl) (all_cons l24r4v (all_nil))) (all_cons (loopOK_of (mk := 25000013) (sl := [1, 5, 58, 59, 60]) (ss := [([1, 5, 58, 59, 60], lsl24r13)]) (by kernel_rfl) (by kernel_rfl) (all_cons l24r13v (all_nil))) (all_nil)))) (by kernel_rfl) h4.of

abbrev S25 : List (Nat × Pat × Sp) := []
theorem hS25 : SpecOK E (ofL S25) := specOK_nil
abbrev L25 : List (Nat × List Nat × Pat × LSp) := []
def sp25 : Sp := fun args τ K => asCons args fun a1 r1 => asD (.int .i64) a1 fun x1 => asNil r1 <| asNil τ <| c25 x1 (fun z1 => K (B z1) [])
theorem h25 : ∀ args τ K, sp25 args τ K → ACall E 25 args τ K := by
  intro args τ K h0
  unfold sp25 at h0
  obtain ⟨a1, r1, rfl, h1⟩ := asCons_inv h0; clear h0
  obtain ⟨x1, rfl, h2⟩ := asD_inv h1; clear h1
  obtain ⟨rfl, h3⟩ := asNil_inv h2; clear h2
  obtain ⟨rfl, h4⟩ := asNil_inv h3; clear h3
  exact ACall.spec2 (fn := Try.f25) (c := codeOf Try.f25) (S := ofL S25) (L := lofL L25) hS25 (by kernel_rfl) (by kernel_rfl) (inlOK _) (all_eq (by kernel_rfl : subsOf (E.info 25).keep (codeOf Try.f25) = []) (all_nil)) (by kernel_rfl) h4.of

abbrev Sl12r4 : List (Nat × Pat × Sp) := [(24, none, sp24), (25, none, sp25)]
theorem hSl12r4 : SpecOK E (ofL Sl12r4) := specOK_cons h24 (specOK_cons h25 (specOK_nil))
abbrev Ll12r4 : List (Nat × List Nat × Pat × LSp) := []
def lsl12r4 : LSp := fun vs σ K => asCons vs fun a1 r1 => asD (.sl wIT) a1 fun s1 => asCons r1 fun a2 r2 => asD (.sl wIT) a2 fun s2 => asCons r2 fun a3 r3 => asD (.int .i64) a3 fun s3 => asCons r3 fun a4 r4 => asD (.int .i64) a4 fun s4 => asNil r4 <| asNil σ <| l12r4 (fun z1 => K .ret [(2, I z1)] []) (K (.exit 0) [(2, .undef)] []) s1 s2 s3 s4
theorem l12r4v : LoopV E (inlF (PA (ACall E)) E 8) (E.info 12).keep 0 Try.f12.ntmps 13000004 (body Try.f12 4) ([0, 10, 11, 12], lsl12r4) := by
  intro vs σ K (h0 : lsl12r4 vs σ K)
  unfold lsl12r4 at h0
  obtain ⟨a1, r1, rfl, h1⟩ := asCons_inv h0; clear h0
  obtain ⟨s1, rfl, h2⟩ := asD_inv h1; clear h1
  obtain ⟨a2, r2, rfl, h3⟩ := asCons_inv h2; clear h2
  obtain ⟨s2, rfl, h4⟩ := asD_inv h3; clear h3
  obtain ⟨a3, r3, rfl, h5⟩ := asCons_inv h4; clear h4
  obtain ⟨s3, rfl, h6⟩ := asD_inv h5; clear h5
  obtain ⟨a4, r4, rfl, h7⟩ := asCons_inv h6; clear h6
  obtain ⟨s4, rfl, h8⟩ := asD_inv h7; clear h7
  obtain ⟨rfl, h9⟩ := asNil_inv h8; clear h8
  obtain ⟨rfl, h10⟩ := asNil_inv h9; clear h9
  intro J hJ
  have hp : ∀ c' ∈ subsOf (E.info 12).keep (body Try.f12 4), SubOK E (inlF (PA (ACall E)) E 8) (E.info 12).keep 0 Try.f12.ntmps (lofL Ll12r4) c' := all_eq (by kernel_rfl : subsOf (E.info 12).keep (body Try.f12 4) = []) (all_nil)
  exact h10.of (fun s1 s2 s3 s4 => J [(13000004, .undef), (0, .d (.sl wIT) s1), (10, .d (.sl wIT) s2), (11, I s3), (12, I s4)] []) (fun s1 s2 s3 s4 hb => loop_round2 (S := ofL Sl12r4) (L := lofL Ll12r4) hSl12r4 (inlOK _) hp hJ (by kernel_rfl) hb)

abbrev S12 : List (Nat × Pat × Sp) := []
theorem hS12 : SpecOK E (ofL S12) := specOK_nil
abbrev L12 : List (Nat × List Nat × Pat × LSp) := [(13000004, [0, 10, 11, 12], none, lsl12r4)]
def sp12 : Sp := fun args τ K => asCons args fun a1 r1 => asD (.sl wIT) a1 fun x1 => asNil r1 <| asNil τ <| c12 x1 (fun z1 => K (I z1) [])
theorem h12 : ∀ args τ K, sp12 args τ K → ACall E 12 args τ K := by
  intro args τ K h0
  unfold sp12 at h0
  obtain ⟨a1, r1, rfl, h1⟩ := asCons_inv h0; clear h0
  obtain ⟨x1, rfl, h2⟩ := asD_inv h1; clear h1
  obtain ⟨rfl, h3⟩ := asNil_inv h2; clear h2
  obtain ⟨rfl, h4⟩ := asNil_inv h3; clear h3
  exact ACall.spec2 (fn := Try.f12) (c := codeOf Try.f12) (S := ofL S12) (L := lofL L12) hS12 (by kernel_rfl) (by kernel_rfl) (inlOK _) (all_eq (by kernel_rfl : subsOf (E.info 12).keep (codeOf Try.f12) = [.loop (body Try.f12 4)]) (all_cons (loopOK_of (mk := 13000004) (sl := [0, 10, 11, 12]) (ss := [([0, 10, 11, 12], lsl12r4)]) (by kernel_rfl) (by kernel_rfl) (all_cons l12r4v (all_nil))) (all_nil))) (by kernel_rfl) h4.of

abbrev S13 : List (Nat × Pat × Sp) := []
theorem hS13 : SpecOK E (ofL S13) := specOK_nil
abbrev L13 : List (Nat × List Nat × Pat × LSp) := []
def sp13 : Sp := fun args τ K => asCons args fun a1 r1 => asD (.int .i64) a1 fun x1 => asCons r1 fun a2 r2 => asD (.int .i64) a2 fun x2 => asCons r2 fun a3 r3 => asD (.int .i64) a3 fun x3 => asNil r3 <| asNil τ <| c13 x1 x2 x3 (fun z1 => K (B z1) [])
theorem h13 : ∀ args τ K, sp13 args τ K → ACall E 13 args τ K := by
  intro args τ K h0
  unfold sp13 at h0
  obtain ⟨a1, r1, rfl, h1⟩ := asCons_inv h0; clear h0
  obtain ⟨x1, rfl, h2⟩ := asD_inv h1; clear h1
  obtain ⟨a2, r2, rfl, h3⟩ := asCons_inv h2; clear h2
  obtain ⟨x2, rfl, h4⟩ := asD_inv h3; clear h3
  obtain ⟨a3, r3, rfl, h5⟩ := asCons_inv h4; clear h4
  obtain ⟨x3, rfl, h6⟩ := asD_inv h5; clear h5
  obtain ⟨rfl, h7⟩ := asNil_inv h6; clear h6
  obtain ⟨rfl, h8⟩ := asNil_inv h7; clear h7
  exact ACall.spec2 (fn := Try.f13) (c := codeOf Try.f13) (S := ofL S13) (L := lofL L13) hS13 (by kernel_rfl) (by kernel_rfl) (inlOK _) (all_eq (by kernel_rfl : subsOf (E.info 13).keep (codeOf Try.f13) = []) (all_nil)) (by kernel_rfl) h8.of

abbrev Sl5r12 : List (Nat × Pat × Sp) := []
theorem hSl5r12 : SpecOK E (ofL Sl5r12) := specOK_nil
abbrev Ll5r12 : List (Nat × List Nat × Pat × LSp) := []
def lsl5r12 : LSp := fun vs σ K => asCons vs fun a1 r1 => asD (.sl wLF) a1 fun s1 => asCons r1 fun a2 r2 => asP (.ptr 0 0 []) a2 <| asCons r2 fun a3 r3 => asD (.sl wLF) a3 fun s2 => asCons r3 fun a4 r4 => asD (.int .i64) a4 fun s3 => asCons r4 fun a5 r5 => asD (.int .i64) a5 fun s4 => asCons r5 fun a6 r6 => asD (.sl wIT) a6 fun s5 => asCons r6 fun a7 r7 => asD (.int .i64) a7 fun s6 => asCons r7 fun a8 r8 => asD (.int .i64) a8 fun s7 => asNil r8 <| asCons σ fun a9 r9 => asOne wLF a9 fun a10 => asD wLF a10 fun s8 => asNil r9 <| l5r12 (fun z1 => K .ret [(0, .undef), (2, I z1), (4, .undef), (17, .undef), (18, .undef), (19, .undef)] []) (fun z1 z2 z3 z4 z5 => K (.exit 2) [(0, .d (.sl wLF) z1), (2, .undef), (4, .ptr 0 0 []), (17, .d (.sl wLF) z2), (18, I z3), (19, I z4)] [.one wLF (.d wLF z5)]) s1 s2 s3 s4 s5 s6 s7 s8
theorem l5r12v : LoopV E (inlF (PA (ACall E)) E 8) (E.info 5).keep 0 Try.f5.ntmps 6000012 (body Try.f5 12) ([0, 4, 17, 18, 19, 40, 41, 42], lsl5r12) := by
  intro vs σ K (h0 : lsl5r12 vs σ K)
  unfold lsl5r12 at h0
  obtain ⟨a1, r1, rfl, h1⟩ := asCons_inv h0; clear h0
  obtain ⟨s1, rfl, h2⟩ := asD_inv h1; clear h1
  obtain ⟨a2, r2, rfl, h3⟩ := asCons_inv h2; clear h2
  obtain ⟨rfl, h4⟩ := asP_inv h3; clear h3
  obtain ⟨a3, r3, rfl, h5⟩ := asCons_inv h4; clear h4
  obtain ⟨s2, rfl, h6⟩ := asD_inv h5; clear h5
  obtain ⟨a4, r4, rfl, h7⟩ := asCons_inv h6; clear h6
  obtain ⟨s3, rfl, h8⟩ := asD_inv h7; clear h7
  obtain ⟨a5, r5, rfl, h9⟩ := asCons_inv h8; clear h8
  obtain ⟨s4, rfl, h10⟩ := asD_inv h9; clear h9
  obtain ⟨a6, r6, rfl, h11⟩ := asCons_inv h10; clear h10
  obtain ⟨s5, rfl, h12⟩ := asD_inv h11; clear h11
  obtain ⟨a7, r7, rfl, h13⟩ := asCons_inv h12; clear h12
  obtain ⟨s6, rfl, h14⟩ := asD_inv h13; clear h13
  obtain ⟨a8, r8, rfl, h15⟩ := asCons_inv h14; clear h14
  obtain ⟨s7, rfl, h16⟩ := asD_inv h15; clear h15
  obtain ⟨rfl, h17⟩ := asNil_inv h16; clear h16
  obtain ⟨a9, r9, rfl, h18⟩ := asCons_inv h17; clear h17
  obtain ⟨a10, rfl, h19⟩ := asOne_inv h18; clear h18
  obtain ⟨s8, rfl, h20⟩ := asD_inv h19; clear h19
  obtain ⟨rfl, h21⟩ := asNil_inv h20; clear h20
  intro J hJ
  have hp : ∀ c' ∈ subsOf (E.info 5).keep (body Try.f5 12), SubOK E (inlF (PA (ACall E)) E 8) (E.info 5).keep 0 Try.f5.ntmps (lofL Ll5r12) c' := all_eq (by kernel_rfl : subsOf (E.info 5).keep (body Try.f5 12) = []) (all_nil)
  exact h21.of (fun s1 s2 s3 s4 s5 s6 s7 s8 => J [(6000012, .undef), (0, .d (.sl wLF) s1), (4, .ptr 0 0 []), (17, .d (.sl wLF) s2), (18, I s3), (19, I s4), (40, .d (.sl wIT) s5), (41, I s6), (42, I s7)] [.one wLF (.d wLF s8)]) (fun s1 s2 s3 s4 s5 s6 s7 s8 hb => loop_round2 (S := ofL Sl5r12) (L := lofL Ll5r12) hSl5r12 (inlOK _) hp hJ (by kernel_rfl) hb)

abbrev Sl5r19 : List (Nat × Pat × Sp) := [(13, none, sp13)]
theorem hSl5r19 : SpecOK E (ofL Sl5r19) := specOK_cons h13 (specOK_nil)
abbrev Ll5r19 : List (Nat × List Nat × Pat × LSp) := []
def lsl5r19 : LSp := fun vs σ K => asCons vs fun a1 r1 => asD (.sl wLF) a1 fun s1 => asCons r1 fun a2 r2 => asP (.ptr 0 0 []) a2 <| asCons r2 fun a3 r3 => asD (.int .i64) a3 fun s2 => asCons r3 fun a4 r4 => asD (.sl wLF) a4 fun s3 => asCons r4 fun a5 r5 => asD (.int .i64) a5 fun s4 => asCons r5 fun a6 r6 => asD (.int .i64) a6 fun s5 => asCons r6 fun a7 r7 => asD (.sl wCL) a7 fun s6 => asCons r7 fun a8 r8 => asD (.int .i64) a8 fun s7 => asCons r8 fun a9 r9 => asD (.int .i64) a9 fun s8 => asNil r9 <| asCons σ fun a10 r10 => asOne wLF a10 fun a11 => asD wLF a11 fun s9 => asNil r10 <| l5r19 (fun z1 => K .ret [(0, .undef), (2, I z1), (4, .undef), (17, .undef), (18, .undef), (19, .undef)] []) (fun z1 z2 z3 z4 z5 => K (.exit 4) [(0, .d (.sl wLF) z1), (2, .undef), (4, .ptr 0 0 []), (17, .d (.sl wLF) z2), (18, I z3), (19, I z4)] [.one wLF (.d wLF z5)]) s1 s2 s3 s4 s5 s6 s7 s8 s9
theorem l5r19v : LoopV E (inlF (PA (ACall E)) E 8) (E.info 5).keep 0 Try.f5.ntmps 6000019 (body Try.f5 19) ([0, 4, 8, 17, 18, 19, 54, 55, 56], lsl5r19) := by
  intro vs σ K (h0 : lsl5r19 vs σ K)
  unfold lsl5r19 at h0
  obtain ⟨a1, r1, rfl, h1⟩ := asCons_inv h0; clear h0
  obtain ⟨s1, rfl, h2⟩ := asD_inv h1; clear h1
  obtain ⟨a2, r2, rfl, h3⟩ := asCons_inv h2; clear h2
  obtain ⟨rfl, h4⟩ := asP_inv h3; clear h3
  obtain ⟨a3, r3, rfl, h5⟩ := asCons_inv h4; clear h4
  obtain ⟨s2, rfl, h6⟩ := asD_inv h5; clear h5
  obtain ⟨a4, r4, rfl, h7⟩ := asCons_inv h6; clear h6
  obtain ⟨s3, rfl, h8⟩ := asD_inv h7; clear h7
  obtain ⟨a5, r5, rfl, h9⟩ := asCons_inv h8; clear h8
  obtain ⟨s4, rfl, h10⟩ := asD_inv h9; clear h9
  obtain ⟨a6, r6, rfl, h11⟩ := asCons_inv h10; clear h10
  obtain ⟨s5, rfl, h12⟩ := asD_inv h11; clear h11
  obtain ⟨a7, r7, rfl, h13⟩ := asCons_inv h12; clear h12
  obtain ⟨s6, rfl, h14⟩ := asD_inv h13; clear h13
  obtain ⟨a8, r8, rfl, h15⟩ := asCons_inv h14; clear h14
  obtain ⟨s7, rfl, h16⟩ := asD_inv h15; clear h15
  obtain ⟨a9, r9, rfl, h17⟩ := asCons_inv h16; clear h16
  obtain ⟨s8, rfl, h18⟩ := asD_inv h17; clear h17
  obtain ⟨rfl, h19⟩ := asNil_inv h18; clear h18
  obtain ⟨a10, r10, rfl, h20⟩ := asCons_inv h19; clear h19
  obtain ⟨a11, rfl, h21⟩ := asOne_inv h20; clear h20
  obtain ⟨s9, rfl, h22⟩ := asD_inv h21; clear h21
  obtain ⟨rfl, h23⟩ := asNil_inv h22; clear h22
  intro J hJ
  have hp : ∀ c' ∈ subsOf (E.info 5).keep (body Try.f5 19), SubOK E (inlF (PA (ACall E)) E 8) (E.info 5).keep 0 Try.f5.ntmps (lofL Ll5r19) c' := all_eq (by kernel_rfl : subsOf (E.info 5).keep (body Try.f5 19) = []) (all_nil)
  exact h23.of (fun s1 s2 s3 s4 s5 s6 s7 s8 s9 => J [(6000019, .undef), (0, .d (.sl wLF) s1), (4, .ptr 0 0 []), (8, I s2), (17, .d (.sl wLF) s3), (18, I s4), (19, I s5), (54, .d (.sl wCL) s6), (55, I s7), (56, I s8)] [.one wLF (.d wLF s9)]) (fun s1 s2 s3 s4 s5 s6 s7 s8 s9 hb => loop_round2 (S := ofL Sl5r19) (L := lofL Ll5r19) hSl5r19 (inlOK _) hp hJ (by kernel_rfl) hb)

abbrev Sl5r30 : List (Nat × Pat × Sp) := []
theorem hSl5r30 : SpecOK E (ofL Sl5r30) := specOK_nil
abbrev Ll5r30 : List (Nat × List Nat × Pat × LSp) := []
def lsl5r30 : LSp := fun vs σ K => asCons vs fun a1 r1 => asD (.sl wLF) a1 fun s1 => asCons r1 fun a2 r2 => asP (.ptr 0 0 []) a2 <| asCons r2 fun a3 r3 => asD (.int .i64) a3 fun s2 => asCons r3 fun a4 r4 => asD (.sl wLF) a4 fun s3 => asCons r4 fun a5 r5 => asD (.int .i64) a5 fun s4 => asCons r5 fun a6 r6 => asD (.int .i64) a6 fun s5 => asCons r6 fun a7 r7 => asD (.sl wMP) a7 fun s6 => asCons r7 fun a8 r8 => asD (.int .i64) a8 fun s7 => asCons r8 fun a9 r9 => asD (.int .i64) a9 fun s8 => asNil r9 <| asCons σ fun a10 r10 => asOne wLF a10 fun a11 => asD wLF a11 fun s9 => asNil r10 <| l5r30 (fun z1 => K .ret [(0, .undef), (2, I z1), (17, .undef), (18, .undef), (19, .undef)] []) (fun z1 z2 z3 z4 => K (.exit 6) [(0, .d (.sl wLF) z1), (2, .undef), (17, .d (.sl wLF) z2), (18, I z3), (19, I z4)] []) s1 s2 s3 s4 s5 s6 s7 s8 s9
theorem l5r30v : LoopV E (inlF (PA (ACall E)) E 8) (E.info 5).keep 0 Try.f5.ntmps 6000030 (body Try.f5 30) ([0, 4, 8, 17, 18, 19, 112, 113, 114], lsl5r30) := by
  intro vs σ K (h0 : lsl5r30 vs σ K)
  unfold lsl5r30 at h0
  obtain ⟨a1, r1, rfl, h1⟩ := asCons_inv h0; clear h0
  obtain ⟨s1, rfl, h2⟩ := asD_inv h1; clear h1
  obtain ⟨a2, r2, rfl, h3⟩ := asCons_inv h2; clear h2
  obtain ⟨rfl, h4⟩ := asP_inv h3; clear h3
  obtain ⟨a3, r3, rfl, h5⟩ := asCons_inv h4; clear h4
  obtain ⟨s2, rfl, h6⟩ := asD_inv h5; clear h5
  obtain ⟨a4, r4, rfl, h7⟩ := asCons_inv h6; clear h6
  obtain ⟨s3, rfl, h8⟩ := asD_inv h7; clear h7
  obtain ⟨a5, r5, rfl, h9⟩ := asCons_inv h8; clear h8
  obtain ⟨s4, rfl, h10⟩ := asD_inv h9; clear h9
  obtain ⟨a6, r6, rfl, h11⟩ := asCons_inv h10; clear h10
  obtain ⟨s5, rfl, h12⟩ := asD_inv h11; clear h11
  obtain ⟨a7, r7, rfl, h13⟩ := asCons_inv h12; clear h12
  obtain ⟨s6, rfl, h14⟩ := asD_inv h13; clear h13
  obtain ⟨a8, r8, rfl, h15⟩ := asCons_inv h14; clear h14
  obtain ⟨s7, rfl, h16⟩ := asD_inv h15; clear h15
  obtain ⟨a9, r9, rfl, h17⟩ := asCons_inv h16; clear h16
  obtain ⟨s8, rfl, h18⟩ := asD_inv h17; clear h17
  obtain ⟨rfl, h19⟩ := asNil_inv h18; clear h18
  obtain ⟨a10, r10, rfl, h20⟩ := asCons_inv h19; clear h19
  obtain ⟨a11, rfl, h21⟩ := asOne_inv h20; clear h20
  obtain ⟨s9, rfl, h22⟩ := asD_inv h21; clear h21
  obtain ⟨rfl, h23⟩ := asNil_inv h22; clear h22
  intro J hJ
  have hp : ∀ c' ∈ subsOf (E.info 5).keep (body Try.f5 30), SubOK E (inlF (PA (ACall E)) E 8) (E.info 5).keep 0 Try.f5.ntmps (lofL Ll5r30) c' := all_eq (by kernel_rfl : subsOf (E.info 5).keep (body Try.f5 30) = []) (all_nil)
  exact h23.of (fun s1 s2 s3 s4 s5 s6 s7 s8 s9 => J [(6000030, .undef), (0, .d (.sl wLF) s1), (4, .ptr 0 0 []), (8, I s2), (17, .d (.sl wLF) s3), (18, I s4), (19, I s5), (112, .d (.sl wMP) s6), (113, I s7), (114, I s8)] [.one wLF (.d wLF s9)]) (fun s1 s2 s3 s4 s5 s6 s7 s8 s9 hb => loop_round2 (S := ofL Sl5r30) (L := lofL Ll5r30) hSl5r30 (inlOK _) hp hJ (by kernel_rfl) hb)

abbrev Sl5r4 : List (Nat × Pat × Sp) := [(12, none, sp12), (13, none, sp13)]
theorem hSl5r4 : SpecOK E (ofL Sl5r4) := specOK_cons h12 (specOK_cons h13 (specOK_nil))
abbrev Ll5r4 : List (Nat × List Nat × Pat × LSp) := [(6000012, [0, 4, 17, 18, 19, 40, 41, 42], none, lsl5r12), (6000019, [0, 4, 8, 17, 18, 19, 54, 55, 56], none, lsl5r19), (6000030, [0, 4, 8, 17, 18, 19, 112, 113, 114], none, lsl5r30)]
def lsl5r4 : LSp := fun vs σ K => asCons vs fun a1 r1 => asD (.sl wLF) a1 fun s1 => asCons r1 fun a2 r2 => asD (.sl wLF) a2 fun s2 => asCons r2 fun a3 r3 => asD (.int .i64) a3 fun s3 => asCons r3 fun a4 r4 => asD (.int .i64) a4 fun s4 => asNil r4 <| asNil σ <| l5r4 (fun z1 => K .ret [(2, I z1)] []) (K (.exit 0) [(2, .undef)] []) s1 s2 s3 s4
theorem l5r4v : LoopV E (inlF (PA (ACall E)) E 8) (E.info 5).keep 0 Try.f5.ntmps 6000004 (body Try.f5 4) ([0, 17, 18, 19], lsl5r4) := by
  intro vs σ K (h0 : lsl5r4 vs σ K)
  unfold lsl5r4 at h0
  obtain ⟨a1, r1, rfl, h1⟩ := asCons_inv h0; clear h0
  obtain ⟨s1, rfl, h2⟩ := asD_inv h1; clear h1
  obtain ⟨a2, r2, rfl, h3⟩ := asCons_inv h2; clear h2
  obtain ⟨s2, rfl, h4⟩ := asD_inv h3; clear h3
  obtain ⟨a3, r3, rfl, h5⟩ := asCons_inv h4; clear h4
  obtain ⟨s3, rfl, h6⟩ := asD_inv h5; clear h5
  obtain ⟨a4, r4, rfl, h7⟩ := asCons_inv h6; clear h6
  obtain ⟨s4, rfl, h8⟩ := asD_inv h7; clear h7
  obtain ⟨rfl, h9⟩ := asNil_inv h8; clear h8
  obtain ⟨rfl, h10⟩ := asNil_inv h9; clear h9
  intro J hJ
  have hp : ∀ c' ∈ subsOf (E.info 5).keep (body Try.f5 4), SubOK E (inlF (PA (ACall E)) E 8) (E.info 5).keep 0 Try.f5.ntmps (lofL Ll5r4) c' := all_eq (by kernel_rfl : subsOf (E.info 5).keep (body Try.f5 4) = [.loop (body Try.f5 12), .loop (body Try.f5 19), .loop (body Try.f5 30)]) (all_cons (loopOK_of (mk := 6000012) (sl := [0, 4, 17, 18, 19, 40, 41, 42]) (ss := [([0, 4, 17, 18, 19, 40, 41, 42], lsl5r12)]) (by kernel_rfl) (by kernel_rfl) (all_cons l5r12v (all_nil))) (all_cons (loopOK_of (mk := 6000019) (sl := [0, 4, 8, 17, 18, 19, 54, 55, 56]) (ss := [([0, 4, 8, 17, 18, 19, 54, 55, 56], lsl5r19)]) (by kernel_rfl) (by kernel_rfl) (all_cons l5r19v (all_nil))) (all_cons (loopOK_of (mk := 6000030) (sl := [0, 4, 8, 17, 18, 19, 112, 113, 114]) (ss := [([0, 4, 8, 17, 18, 19, 112, 113, 114], lsl5r30)]) (by kernel_rfl) (by kernel_rfl) (all_cons l5r30v (all_nil))) (all_nil))))
  exact h10.of (fun s1 s2 s3 s4 => J [(6000004, .undef), (0, .d (.sl wLF) s1), (17, .d (.sl wLF) s2), (18, I s3), (19, I s4)] []) (fun s1 s2 s3 s4 hb => loop_round2 (S := ofL Sl5r4) (L := lofL Ll5r4) hSl5r4 (inlOK _) hp hJ (by kernel_rfl) hb)

abbrev S5 : List (Nat × Pat × Sp) := []
theorem hS5 : SpecOK E (ofL S5) := specOK_nil
abbrev L5 : List (Nat × List Nat × Pat × LSp) := [(6000004, [0, 17, 18, 19], none, lsl5r4)]
def sp5 : Sp := fun args τ K => asCons args fun a1 r1 => asD (.sl wLF) a1 fun x1 => asNil r1 <| asNil τ <| c5 x1 (fun z1 => K (I z1) [])
theorem h5 : ∀ args τ K, sp5 args τ K → ACall E 5 args τ K := by
  intro args τ K h0
  unfold sp5 at h0
  obtain ⟨a1, r1, rfl, h1⟩ := asCons_inv h0; clear h0
  obtain ⟨x1, rfl, h2⟩ := asD_inv h1; clear h1
  obtain ⟨rfl, h3⟩ := asNil_inv h2; clear h2
  obtain ⟨rfl, h4⟩ := asNil_inv h3; clear h3
  exact ACall.spec2 (fn := Try.f5) (c := codeOf Try.f5) (S := ofL S5) (L := lofL L5) hS5 (by kernel_rfl) (by kernel_rfl) (inlOK _) (all_eq (by kernel_rfl : subsOf (E.info 5).keep (codeOf Try.f5) = [.loop (body Try.f5 4)]) (all_cons (loopOK_of (mk := 6000004) (sl := [0, 17, 18, 19]) (ss := [([0, 17, 18, 19], lsl5r4)]) (by kernel_rfl) (by kernel_rfl) (all_cons l5r4v (all_nil))) (all_nil))) (by kernel_rfl) h4.of

abbrev Sl3r9 : List (Nat × Pat × Sp) := []
theorem hSl3r9 : SpecOK E (ofL Sl3r9) := specOK_nil
abbrev Ll3r9 : List (Nat × List Nat × Pat × LSp) := []
def lsl3r9 : LSp := fun vs σ K => asCons vs fun a1 r1 => asD (.sl wLF) a1 fun s1 => asCons r1 fun a2 r2 => asD .bool a2 fun s2 => asCons r2 fun a3 r3 => asD (.int .i64) a3 fun s3 => asCons r3 fun a4 r4 => asD .bool a4 fun s4 => asCons r4 fun a5 r5 => asD (.int .i64) a5 fun s5 => asCons r5 fun a6 r6 => asP (.vec 0) a6 <| asCons r6 fun a7 r7 => asD (.int .i64) a7 fun s6 => asCons r7 fun a8 r8 => asD (.int .i64) a8 fun s7 => asNil r8 <| asCons σ fun a9 r9 => asRw (.int .i64) false a9 fun s8 => asNil r9 <| l3r9 (fun z1 z2 z3 z4 z5 z6 => K (.exit 0) [(0, .d (.sl wLF) z1), (1, B z2), (2, I z3), (3, B z4), (9, I z5), (10, .vec 0)] [.row (.int .i64) z6 false]) s1 s2 s3 s4 s5 s6 s7 s8
theorem l3r9v : LoopV E (inlF (PA (ACall E)) E 8) (E.info 3).keep 0 Try.f3.ntmps 4000009 (body Try.f3 9) ([0, 1, 2, 3, 9, 10, 35, 36], lsl3r9) := by
  intro vs σ K (h0 : lsl3r9 vs σ K)
  unfold lsl3r9 at h0
  obtain ⟨a1, r1, rfl, h1⟩ := asCons_inv h0; clear h0
  obtain ⟨s1, rfl, h2⟩ := asD_inv h1; clear h1
  obtain ⟨a2, r2, rfl, h3⟩ := asCons_inv h2; clear h2
  obtain ⟨s2, rfl, h4⟩ := asD_inv h3; clear h3
  obtain ⟨a3, r3, rfl, h5⟩ := asCons_inv h4; clear h4
  obtain ⟨s3, rfl, h6⟩ := asD_inv h5; clear h5
  obtain ⟨a4, r4, rfl, h7⟩ := asCons_inv h6; clear h6
  obtain ⟨s4, rfl, h8⟩ := asD_inv h7; clear h7
  obtain ⟨a5, r5, rfl, h9⟩ := asCons_inv h8; clear h8
  obtain ⟨s5, rfl, h10⟩ := asD_inv h9; clear h9
  obtain ⟨a6, r6, rfl, h11⟩ := asCons_inv h10; clear h10
  obtain ⟨rfl, h12⟩ := asP_inv h11; clear h11
  obtain ⟨a7, r7, rfl, h13⟩ := asCons_inv h12; clear h12
  obtain ⟨s6, rfl, h14⟩ := asD_inv h13; clear h13
  obtain ⟨a8, r8, rfl, h15⟩ := asCons_inv h14; clear h14
  obtain ⟨s7, rfl, h16⟩ := asD_inv h15; clear h15
  obtain ⟨rfl, h17⟩ := asNil_inv h16; clear h16
  obtain ⟨a9, r9, rfl, h18⟩ := asCons_inv h17; clear h17
  obtain ⟨s8, rfl, h19⟩ := asRw_inv h18; clear h18
  obtain ⟨rfl, h20⟩ := asNil_inv h19; clear h19
  intro J hJ
  have hp : ∀ c' ∈ subsOf (E.info 3).keep (body Try.f3 9), SubOK E (inlF (PA (ACall E)) E 8) (E.info 3).keep 0 Try.f3.ntmps (lofL Ll3r9) c' := all_eq (by kernel_rfl : subsOf (E.info 3).keep (body Try.f3 9) = []) (all_nil)
  exact h20.of (fun s1 s2 s3 s4 s5 s6 s7 s8 => J [(4000009, .undef), (0, .d (.sl wLF) s1), (1, B s2), (2, I s3), (3, B s4), (9, I s5), (10, .vec 0), (35, I s6), (36, I s7)] [.row (.int .i64) s8 false]) (fun s1 s2 s3 s4 s5 s6 s7 s8 hb => loop_round2 (S := ofL Sl3r9) (L := lofL Ll3r9) hSl3r9 (inlOK _) hp hJ (by kernel_rfl) hb)

abbrev Sl7r4 : List (Nat × Pat × Sp) := []
theorem hSl7r4 : SpecOK E (ofL Sl7r4) := specOK_nil
abbrev Ll7r4 : List (Nat × List Nat × Pat × LSp) := []
def lsl7r4 : LSp := fun vs σ K => asCons vs fun a1 r1 => asD (.sl wLF) a1 fun s1 => asCons r1 fun a2 r2 => asD (.int .i64) a2 fun s2 => asCons r2 fun a3 r3 => asP (.vec 0) a3 <| asCons r3 fun a4 r4 => asD (.int .i64) a4 fun s3 => asCons r4 fun a5 r5 => asD (.int .i64) a5 fun s4 => asNil r5 <| asCons σ fun a6 r6 => asRw .bool false a6 fun s5 => asNil r6 <| l7r4 (fun z1 z2 z3 => K (.exit 0) [(0, .d (.sl wLF) z1), (3, I z2), (4, .vec 0)] [.row .bool z3 false]) s1 s2 s3 s4 s5
theorem l7r4v : LoopV E (inlF (PA (ACall E)) E 8) (E.info 7).keep 0 Try.f7.ntmps 8000004 (body Try.f7 4) ([0, 3, 4, 19, 20], lsl7r4) := by
  intro vs σ K (h0 : lsl7r4 vs σ K)
  unfold lsl7r4 at h0
  obtain ⟨a1, r1, rfl, h1⟩ := asCons_inv h0; clear h0
  obtain ⟨s1, rfl, h2⟩ := asD_inv h1; clear h1
  obtain ⟨a2, r2, rfl, h3⟩ := asCons_inv h2; clear h2
  obtain ⟨s2, rfl, h4⟩ := asD_inv h3; clear h3
  obtain ⟨a3, r3, rfl, h5⟩ := asCons_inv h4; clear h4
  obtain ⟨rfl, h6⟩ := asP_inv h5; clear h5
  obtain ⟨a4, r4, rfl, h7⟩ := asCons_inv h6; clear h6
  obtain ⟨s3, rfl, h8⟩ := asD_inv h7; clear h7
  obtain ⟨a5, r5, rfl, h9⟩ := asCons_inv h8; clear h8
  obtain ⟨s4, rfl, h10⟩ := asD_inv h9; clear h9
  obtain ⟨rfl, h11⟩ := asNil_inv h10; clear h10
  obtain ⟨a6, r6, rfl, h12⟩ := asCons_inv h11; clear h11
  obtain ⟨s5, rfl, h13⟩ := asRw_inv h12; clear h12
  obtain ⟨rfl, h14⟩ := asNil_inv h13; clear h13
  intro J hJ
  have hp : ∀ c' ∈ subsOf (E.info 7).keep (body Try.f7 4), SubOK E (inlF (PA (ACall E)) E 8) (E.info 7).keep 0 Try.f7.ntmps (lofL Ll7r4) c' := all_eq (by kernel_rfl : subsOf (E.info 7).keep (body Try.f7 4) = []) (all_nil)
  exact h14.of (fun s1 s2 s3 s4 s5 => J [(8000004, .undef), (0, .d (.sl wLF) s1), (3, I s2), (4, .vec 0), (19, I s3), (20, I s4)] [.row .bool s5 false]) (fun s1 s2 s3 s4 s5 hb => loop_round2 (S := ofL Sl7r4) (L := lofL Ll7r4) hSl7r4 (inlOK _) hp hJ (by kernel_rfl) hb)

abbrev Sl16r4 : List (Nat × Pat × Sp) := []
theorem hSl16r4 : SpecOK E (ofL Sl16r4) := specOK_nil
abbrev Ll16r4 : List (Nat × List Nat × Pat × LSp) := []
def lsl16r4 : LSp := fun vs σ K => asCons vs fun a1 r1 => asD (.sl .bool) a1 fun s1 => asCons r1 fun a2 r2 => asD (.int .i64) a2 fun s2 => asCons r2 fun a3 r3 => asP (.ptr 0 0 []) a3 <| asCons r3 fun a4 r4 => asP (.ptr 1 0 []) a4 <| asCons r4 fun a5 r5 => asD (.int .i64) a5 fun s3 => asCons r5 fun a6 r6 => asD (.int .i64) a6 fun s4 => asNil r6 <| asCons σ fun a7 r7 => asOne wLF a7 fun a8 => asD wLF a8 fun s5 => asCons r7 fun a9 r9 => asOne wLF a9 fun a10 => asD wLF a10 fun s6 => asNil r9 <| l16r4 (fun z1 => K .ret [(2, .undef), (3, .undef), (4, .undef), (5, .undef), (8, B z1)] []) (fun z1 z2 z3 z4 => K (.exit 0) [(2, .d (.sl .bool) z1), (3, I z2), (4, .ptr 0 0 []), (5, .ptr 1 0 []), (8, .undef)] [.one wLF (.d wLF z3), .one wLF (.d wLF z4)]) s1 s2 s3 s4 s5 s6
theorem l16r4v : LoopV E (inlF (PA (ACall E)) E 8) (E.info 16).keep 0 Try.f16.ntmps 17000004 (body Try.f16 4) ([2, 3, 4, 5, 48, 49], lsl16r4) := by
  intro vs σ K (h0 : lsl16r4 vs σ K)
  unfold lsl16r4 at h0
  obtain ⟨a1, r1, rfl, h1⟩ := asCons_inv h0; clear h0
  obtain ⟨s1, rfl, h2⟩ := asD_inv h1; clear h1
  obtain ⟨a2, r2, rfl, h3⟩ := asCons_inv h2; clear h2
  obtain ⟨s2, rfl, h4⟩ := asD_inv h3; clear h3
  obtain ⟨a3, r3, rfl, h5⟩ := asCons_inv h4; clear h4
  obtain ⟨rfl, h6⟩ := asP_inv h5; clear h5
  obtain ⟨a4, r4, rfl, h7⟩ := asCons_inv h6; clear h6
  obtain ⟨rfl, h8⟩ := asP_inv h7; clear h7
  obtain ⟨a5, r5, rfl, h9⟩ := asCons_inv h8; clear h8
  obtain ⟨s3, rfl, h10⟩ := asD_inv h9; clear h9
  obtain ⟨a6, r6, rfl, h11⟩ := asCons_inv h10; clear h10
  obtain ⟨s4, rfl, h12⟩ := asD_inv h11; clear h11
  obtain ⟨rfl, h13⟩ := asNil_inv h12; clear h12
  obtain ⟨a7, r7, rfl, h14⟩ := asCons_inv h13; clear h13
  obtain ⟨a8, rfl, h15⟩ := asOne_inv h14; clear h14
  obtain ⟨s5, rfl, h16⟩ := asD_inv h15; clear h15
  obtain ⟨a9, r9, rfl, h17⟩ := asCons_inv h16; clear h16
  obtain ⟨a10, rfl, h18⟩ := asOne_inv h17; clear h17
  obtain ⟨s6, rfl, h19⟩ := asD_inv h18; clear h18
  obtain ⟨rfl, h20⟩ := asNil_inv h19; clear h19
  intro J hJ
  have hp : ∀ c' ∈ subsOf (E.info 16).keep (body Try.f16 4), SubOK E (inlF (PA (ACall E)) E 8) (E.info 16).keep 0 Try.f16.ntmps (lofL Ll16r4) c' := all_eq (by kernel_rfl : subsOf (E.info 16).keep (body Try.f16 4) = []) (all_nil)
  exact h20.of (fun s1 s2 s3 s4 s5 s6 => J [(17000004, .undef), (2, .d (.sl .bool) s1), (3, I s2), (4, .ptr 0 0 []), (5, .ptr 1 0 []), (48, I s3), (49, I s4)] [.one wLF (.d wLF s5), .one wLF (.d wLF s6)]) (fun s1 s2 s3 s4 s5 s6 hb => loop_round2 (S := ofL Sl16r4) (L := lofL Ll16r4) hSl16r4 (inlOK _) hp hJ (by kernel_rfl) hb)

abbrev Sl16r10 : List (Nat × Pat × Sp) := []
theorem hSl16r10 : SpecOK E (ofL Sl16r10) := specOK_nil
abbrev Ll16r10 : List (Nat × List Nat × Pat × LSp) := []
def lsl16r10 : LSp := fun vs σ K => asCons vs fun a1 r1 => asD (.sl .bool) a1 fun s1 => asCons r1 fun a2 r2 => asD (.int .i64) a2 fun s2 => asCons r2 fun a3 r3 => asP (.ptr 0 0 []) a3 <| asCons r3 fun a4 r4 => asP (.ptr 1 0 []) a4 <| asCons r4 fun a5 r5 => asD (.int .i64) a5 fun s3 => asCons r5 fun a6 r6 => asD (.int .i64) a6 fun s4 => asNil r6 <| asCons σ fun a7 r7 => asOne wLF a7 fun a8 => asD wLF a8 fun s5 => asCons r7 fun a9 r9 => asOne wLF a9 fun a10 => asD wLF a10 fun s6 => asNil r9 <| l16r10 (fun z1 => K .ret [(4, .undef), (5, .undef), (8, B z1)] []) (fun z1 z2 => K (.exit 2) [(4, .ptr 0 0 []), (5, .ptr 1 0 []), (8, .undef)] [.one wLF (.d wLF z1), .one wLF (.d wLF z2)]) s1 s2 s3 s4 s5 s6
theorem l16r10v : LoopV E (inlF (PA (ACall E)) E 8) (E.info 16).keep 0 Try.f16.ntmps 17000010 (body Try.f16 10) ([2, 3, 4, 5, 66, 67], lsl16r10) := by
  intro vs σ K (h0 : lsl16r10 vs σ K)
  unfold lsl16r10 at h0
  obtain ⟨a1, r1, rfl, h1⟩ := asCons_inv h0; clear h0
  obtain ⟨s1, rfl, h2⟩ := asD_inv h1; clear h1
  obtain ⟨a2, r2, rfl, h3⟩ := asCons_inv h2; clear h2
  obtain ⟨s2, rfl, h4⟩ := asD_inv h3; clear h3
  obtain ⟨a3, r3, rfl, h5⟩ := asCons_inv h4; clear h4
  obtain ⟨rfl, h6⟩ := asP_inv h5; clear h5
  obtain ⟨a4, r4, rfl, h7⟩ := asCons_inv h6; clear h6
  obtain ⟨rfl, h8⟩ := asP_inv h7; clear h7
  obtain ⟨a5, r5, rfl, h9⟩ := asCons_inv h8; clear h8
  obtain ⟨s3, rfl, h10⟩ := asD_inv h9; clear h9
  obtain ⟨a6, r6, rfl, h11⟩ := asCons_inv h10; clear h10
  obtain ⟨s4, rfl, h12⟩ := asD_inv h11; clear h11
  obtain ⟨rfl, h13⟩ := asNil_inv h12; clear h12
  obtain ⟨a7, r7, rfl, h14⟩ := asCons_inv h13; clear h13
  obtain ⟨a8, rfl, h15⟩ := asOne_inv h14; clear h14
  obtain ⟨s5, rfl, h16⟩ := asD_inv h15; clear h15
  obtain ⟨a9, r9, rfl, h17⟩ := asCons_inv h16; clear h16
  obtain ⟨a10, rfl, h18⟩ := asOne_inv h17; clear h17
  obtain ⟨s6, rfl, h19⟩ := asD_inv h18; clear h18
  obtain ⟨rfl, h20⟩ := asNil_inv h19; clear h19
  intro J hJ
  have hp : ∀ c' ∈ subsOf (E.info 16).keep (body Try.f16 10), SubOK E (inlF (PA (ACall E)) E 8) (E.info 16).keep 0 Try.f16.ntmps (lofL Ll16r10) c' := all_eq (by kernel_rfl : subsOf (E.info 16).keep (body Try.f16 10) = []) (all_nil)
  exact h20.of (fun s1 s2 s3 s4 s5 s6 => J [(17000010, .undef), (2, .d (.sl .bool) s1), (3, I s2), (4, .ptr 0 0 []), (5, .ptr 1 0 []), (66, I s3), (67, I s4)] [.one wLF (.d wLF s5), .one wLF (.d wLF s6)]) (fun s1 s2 s3 s4 s5 s6 hb => loop_round2 (S := ofL Sl16r10) (L := lofL Ll16r10) hSl16r10 (inlOK _) hp hJ (by kernel_rfl) hb)

abbrev Sl16r16 : List (Nat × Pat × Sp) := [(10, none, sp10)]
theorem hSl16r16 : SpecOK E (ofL Sl16r16) := specOK_cons h10 (specOK_nil)
abbrev Ll16r16 : List (Nat × List Nat × Pat × LSp) := []
def lsl16r16 : LSp := fun vs σ K => asCons vs fun a1 r1 => asP (.ptr 0 0 []) a1 <| asCons r1 fun a2 r2 => asP (.ptr 1 0 []) a2 <| asCons r2 fun a3 r3 => asD (.int .i64) a3 fun s1 => asCons r3 fun a4 r4 => asD (.int .i64) a4 fun s2 => asNil r4 <| asCons σ fun a5 r5 => asOne wLF a5 fun a6 => asD wLF a6 fun s3 => asCons r5 fun a7 r7 => asOne wLF a7 fun a8 => asD wLF a8 fun s4 => asNil r7 <| l16r16 (fun z1 => K .ret [(8, B z1)] []) (K (.exit 4) [(8, .undef)] []) s1 s2 s3 s4
theorem l16r16v : LoopV E (inlF (PA (ACall E)) E 8) (E.info 16).keep 0 Try.f16.ntmps 17000016 (body Try.f16 16) ([4, 5, 107, 108], lsl16r16) := by
  intro vs σ K (h0 : lsl16r16 vs σ K)
  unfold lsl16r16 at h0
  obtain ⟨a1, r1, rfl, h1⟩ := asCons_inv h0; clear h0
  obtain ⟨rfl, h2⟩ := asP_inv h1; clear h1
  obtain ⟨a2, r2, rfl, h3⟩ := asCons_inv h2; clear h2
  obtain ⟨rfl, h4⟩ := asP_inv h3; clear h3
  obtain ⟨a3, r3, rfl, h5⟩ := asCons_inv h4; clear h4
  obtain ⟨s1, rfl, h6⟩ := asD_inv h5; clear h5
  obtain ⟨a4, r4, rfl, h7⟩ := asCons_inv h6; clear h6
  obtain ⟨s2, rfl, h8⟩ := asD_inv h7; clear h7
  obtain ⟨rfl, h9⟩ := asNil_inv h8; clear h8
  obtain ⟨a5, r5, rfl, h10⟩ := asCons_inv h9; clear h9
  obtain ⟨a6, rfl, h11⟩ := asOne_inv h10; clear h10
  obtain ⟨s3, rfl, h12⟩ := asD_inv h11; clear h11
  obtain ⟨a7, r7, rfl, h13⟩ := asCons_inv h12; clear h12
  obtain ⟨a8, rfl, h14⟩ := asOne_inv h13; clear h13
  obtain ⟨s4, rfl, h15⟩ := asD_inv h14; clear h14
  obtain ⟨rfl, h16⟩ := asNil_inv h15; clear h15
  intro J hJ
  have hp : ∀ c' ∈ subsOf (E.info 16).keep (body Try.f16 16), SubOK E (inlF (PA (ACall E)) E 8) (E.info 16).keep 0 Try.f16.ntmps (lofL Ll16r16) c' := all_eq (by kernel_rfl : subsOf (E.info 16).keep (body Try.f16 16) = []) (all_nil)
  exact h16.of (fun s1 s2 s3 s4 => J [(17000016, .undef), (4, .ptr 0 0 []), (5, .ptr 1 0 []), (107, I s1), (108, I s2)] [.one wLF (.d wLF s3), .one wLF (.d wLF s4)]) (fun s1 s2 s3 s4 hb => loop_round2 (S := ofL Sl16r16) (L := lofL Ll16r16) hSl16r16 (inlOK _) hp hJ (by kernel_rfl) hb)

abbrev S16 : List (Nat × Pat × Sp) := []
theorem hS16 : SpecOK E (ofL S16) := specOK_nil
abbrev L16 : List (Nat × List Nat × Pat × LSp) := [(17000004, [2, 3, 4, 5, 48, 49], none, lsl16r4), (17000010, [2, 3, 4, 5, 66, 67], none, lsl16r10), (17000016, [4, 5, 107, 108], none, lsl16r16)]
def sp16 : Sp := fun args τ K => asCons args fun a1 r1 => asD wLF a1 fun x1 => asCons r1 fun a2 r2 => asD wLF a2 fun x2 => asCons r2 fun a3 r3 => asD (.sl .bool) a3 fun x3 => asCons r3 fun a4 r4 => asD (.int .i64) a4 fun x4 => asNil r4 <| asNil τ <| c16 x1 x2 x3 x4 (fun z1 => K (B z1) [])
theorem h16 : ∀ args τ K, sp16 args τ K → ACall E 16 args τ K := by
  intro args τ K h0
  unfold sp16 at h0
  obtain ⟨a1, r1, rfl, h1⟩ := asCons_inv h0; clear h0
  obtain ⟨x1, rfl, h2⟩ := asD_inv h1; clear h1
  obtain ⟨a2, r2, rfl, h3⟩ := asCons_inv h2; clear h2
  obtain ⟨x2, rfl, h4⟩ := asD_inv h3; clear h3
  obtain ⟨a3, r3, rfl, h5⟩ := asCons_inv h4; clear h4
  obtain ⟨x3, rfl, h6⟩ := asD_inv h5; clear h5
  obtain ⟨a4, r4, rfl, h7⟩ := asCons_inv h6; clear h6
  obtain ⟨x4, rfl, h8⟩ := asD_inv h7; clear h7
  obtain ⟨rfl, h9⟩ := asNil_inv h8; clear h8
  obtain ⟨rfl, h10⟩ := asNil_inv h9; clear h9
  exact ACall.spec2 (fn := Try.f16) (c := codeOf Try.f16) (S := ofL S16) (L := lofL L16) hS16 (by kernel_rfl) (by kernel_rfl) (inlOK _) (all_eq (by kernel_rfl : subsOf (E.info 16).keep (codeOf Try.f16) = [.loop (body Try.f16 4), .loop (body Try.f16 10), .loop (body Try.f16 16)]) (all_cons (loopOK_of (mk := 17000004) (sl := [2, 3, 4, 5, 48, 49]) (ss := [([2, 3, 4, 5, 48, 49], lsl16r4)]) (by kernel_rfl) (by kernel_rfl) (all_cons l16r4v (all_nil))) (all_cons (loopOK_of (mk := 17000010) (sl := [2, 3, 4, 5, 66, 67]) (ss := [([2, 3, 4, 5, 66, 67], lsl16r10)]) (by kernel_rfl) (by kernel_rfl) (all_cons l16r10v (all_nil))) (all_cons (loopOK_of (mk := 17000016) (sl := [4, 5, 107, 108]) (ss := [([4, 5, 107, 108], lsl16r16)]) (by kernel_rfl) (by kernel_rfl) (all_cons l16r16v (all_nil))) (all_nil))))) (by kernel_rfl) h10.of

abbrev Sl7r15 : List (Nat × Pat × Sp) := [(16, none, sp16)]
theorem hSl7r15 : SpecOK E (ofL Sl7r15) := specOK_cons h16 (specOK_nil)
abbrev Ll7r15 : List (Nat × List Nat × Pat × LSp) := []
def lsl7r15 : LSp := fun vs σ K => asCons vs fun a1 r1 => asD (.sl wLF) a1 fun s1 => asCons r1 fun a2 r2 => asD (.int .i64) a2 fun s2 => asCons r2 fun a3 r3 => asP (.vec 0) a3 <| asCons r3 fun a4 r4 => asD .bool a4 fun s3 => asCons r4 fun a5 r5 => asD (.int .i64) a5 fun s4 => asCons r5 fun a6 r6 => asD (.int .i64) a6 fun s5 => asCons r6 fun a7 r7 => asD (.int .i64) a7 fun s6 => asCons r7 fun a8 r8 => asD (.int .i64) a8 fun s7 => asCons r8 fun a9 r9 => asD (.int .i64) a9 fun s8 => asNil r9 <| asCons σ fun a10 r10 => asRw .bool false a10 fun s9 => asNil r10 <| l7r15 (fun z1 z2 z3 z4 z5 z6 => K (.exit 6) [(0, .d (.sl wLF) z1), (3, I z2), (4, .vec 0), (6, B z3), (28, I z4), (29, I z5)] [.row .bool z6 false]) s1 s2 s3 s4 s5 s6 s7 s8 s9
theorem l7r15v : LoopV E (inlF (PA (ACall E)) E 8) (E.info 7).keep 0 Try.f7.ntmps 8000015 (body Try.f7 15) ([0, 3, 4, 6, 7, 28, 29, 32, 33], lsl7r15) := by
  intro vs σ K (h0 : lsl7r15 vs σ K)
  unfold lsl7r15 at h0
  obtain ⟨a1, r1, rfl, h1⟩ := asCons_inv h0; clear h0
  obtain ⟨s1, rfl, h2⟩ := asD_inv h1; clear h1
  obtain ⟨a2, r2, rfl, h3⟩ := asCons_inv h2; clear h2
  obtain ⟨s2, rfl, h4⟩ := asD_inv h3; clear h3
  obtain ⟨a3, r3, rfl, h5⟩ := asCons_inv h4; clear h4
  obtain ⟨rfl, h6⟩ := asP_inv h5; clear h5
  obtain ⟨a4, r4, rfl, h7⟩ := asCons_inv h6; clear h6
  obtain ⟨s3, rfl, h8⟩ := asD_inv h7; clear h7
  obtain ⟨a5, r5, rfl, h9⟩ := asCons_inv h8; clear h8
  obtain ⟨s4, rfl, h10⟩ := asD_inv h9; clear h9
  obtain ⟨a6, r6, rfl, h11⟩ := asCons_inv h10; clear h10
  obtain ⟨s5, rfl, h12⟩ := asD_inv h11; clear h11
  obtain ⟨a7, r7, rfl, h13⟩ := asCons_inv h12; clear h12
  obtain ⟨s6, rfl, h14⟩ := asD_inv h13; clear h13
  obtain ⟨a8, r8, rfl, h15⟩ := asCons_inv h14; clear h14
  obtain ⟨s7, rfl, h16⟩ := asD_inv h15; clear h15
  obtain ⟨a9, r9, rfl, h17⟩ := asCons_inv h16; clear h16
  obtain ⟨s8, rfl, h18⟩ := asD_inv h17; clear h17
  obtain ⟨rfl, h19⟩ := asNil_inv h18; clear h18
  obtain ⟨a10, r10, rfl, h20⟩ := asCons_inv h19; clear h19
  obtain ⟨s9, rfl, h21⟩ := asRw_inv h20; clear h20
  obtain ⟨rfl, h22⟩ := asNil_inv h21; clear h21
  intro J hJ
  have hp : ∀ c' ∈ subsOf (E.info 7).keep (body Try.f7 15), SubOK E (inlF (PA (ACall E)) E 8) (E.info 7).keep 0 Try.f7.ntmps (lofL Ll7r15) c' := all_eq (by kernel_rfl : subsOf (E.info 7).keep (body Try.f7 15) = []) (all_nil)
  exact h22.of (fun s1 s2 s3 s4 s5 s6 s7 s8 s9 => J [(8000015, .undef), (0, .d (.sl wLF) s1), (3, I s2), (4, .vec 0), (6, B s3), (7, I s4), (28, I s5), (29, I s6), (32, I s7), (33, I s8)] [.row .bool s9 false]) (fun s1 s2 s3 s4 s5 s6 s7 s8 s9 hb => loop_round2 (S := ofL Sl7r15) (L := lofL Ll7r15) hSl7r15 (inlOK _) hp hJ (by kernel_rfl) hb)

abbrev Sl7r12 : List (Nat × Pat × Sp) := []
theorem hSl7r12 : SpecOK E (ofL Sl7r12) := specOK_nil
abbrev Ll7r12 : List (Nat × List Nat × Pat × LSp) := [(8000015, [0, 3, 4, 6, 7, 28, 29, 32, 33], none, lsl7r15)]
def lsl7r12 : LSp := fun vs σ K => asCons vs fun a1 r1 => asD (.sl wLF) a1 fun s1 => asCons r1 fun a2 r2 => asD (.int .i64) a2 fun s2 => asCons r2 fun a3 r3 => asP (.vec 0) a3 <| asCons r3 fun a4 r4 => asD .bool a4 fun s3 => asCons r4 fun a5 r5 => asD (.int .i64) a5 fun s4 => asCons r5 fun a6 r6 => asD (.int .i64) a6 fun s5 => asNil r6 <| asCons σ fun a7 r7 => asRw .bool false a7 fun s6 => asNil r7 <| l7r12 (fun z1 z2 z3 z4 => K (.exit 4) [(0, .d (.sl wLF) z1), (3, I z2), (4, .vec 0), (6, B z3)] [.row .bool z4 false]) s1 s2 s3 s4 s5 s6
theorem l7r12v : LoopV E (inlF (PA (ACall E)) E 8) (E.info 7).keep 0 Try.f7.ntmps 8000012 (body Try.f7 12) ([0, 3, 4, 6, 28, 29], lsl7r12) := by
  intro vs σ K (h0 : lsl7r12 vs σ K)
  unfold lsl7r12 at h0
  obtain ⟨a1, r1, rfl, h1⟩ := asCons_inv h0; clear h0
  obtain ⟨s1, rfl, h2⟩ := asD_inv h1; clear h1
  obtain ⟨a2, r2, rfl, h3⟩ := asCons_inv h2; clear h2
  obtain ⟨s2, rfl, h4⟩ := asD_inv h3; clear h3
  obtain ⟨a3, r3, rfl, h5⟩ := asCons_inv h4; clear h4
  obtain ⟨rfl, h6⟩ := asP_inv h5; clear h5
  obtain ⟨a4, r4, rfl, h7⟩ := asCons_inv h6; clear h6
  obtain ⟨s3, rfl, h8⟩ := asD_inv h7; clear h7
  obtain ⟨a5, r5, rfl, h9⟩ := asCons_inv h8; clear h8
  obtain ⟨s4, rfl, h10⟩ := asD_inv h9; clear h9
  obtain ⟨a6, r6, rfl, h11⟩ := asCons_inv h10; clear h10
  obtain ⟨s5, rfl, h12⟩ := asD_inv h11; clear h11
  obtain ⟨rfl, h13⟩ := asNil_inv h12; clear h12
  obtain ⟨a7, r7, rfl, h14⟩ := asCons_inv h13; clear h13
  obtain ⟨s6, rfl, h15⟩ := asRw_inv h14; clear h14
  obtain ⟨rfl, h16⟩ := asNil_inv h15; clear h15
  intro J hJ
  have hp : ∀ c' ∈ subsOf (E.info 7).keep (body Try.f7 12), SubOK E (inlF (PA (ACall E)) E 8) (E.info 7).keep 0 Try.f7.ntmps (lofL Ll7r12) c' := all_eq (by kernel_rfl : subsOf (E.info 7).keep (body Try.f7 12) = [.loop (body Try.f7 15)]) (all_cons (loopOK_of (mk := 8000015) (sl := [0, 3, 4, 6, 7, 28, 29, 32, 33]) (ss := [([0, 3, 4, 6, 7, 28, 29, 32, 33], lsl7r15)]) (by kernel_rfl) (by kernel_rfl) (all_cons l7r15v (all_nil))) (all_nil))
  exact h16.of (fun s1 s2 s3 s4 s5 s6 => J [(8000012, .undef), (0, .d (.sl wLF) s1), (3, I s2), (4, .vec 0), (6, B s3), (28, I s4), (29, I s5)] [.row .bool s6 false]) (fun s1 s2 s3 s4 s5 s6 hb => loop_round2 (S := ofL Sl7r12) (L := lofL Ll7r12) hSl7r12 (inlOK _) hp hJ (by kernel_rfl) hb)

abbrev Sl7r9 : List (Nat × Pat × Sp) := []
theorem hSl7r9 : SpecOK E (ofL Sl7r9) := specOK_nil
abbrev Ll7r9 : List (Nat × List Nat × Pat × LSp) := [(8000012, [0, 3, 4, 6, 28, 29], none, lsl7r12)]
def lsl7r9 : LSp := fun vs σ K => asCons vs fun a1 r1 => asD (.sl wLF) a1 fun s1 => asCons r1 fun a2 r2 => asD (.int .i64) a2 fun s2 => asCons r2 fun a3 r3 => asP (.vec 0) a3 <| asCons r3 fun a4 r4 => asD .bool a4 fun s3 => asNil r4 <| asCons σ fun a5 r5 => asRw .bool false a5 fun s4 => asNil r5 <| l7r9 (fun z1 z2 => K (.exit 2) [(3, I z1), (4, .vec 0)] [.row .bool z2 false]) s1 s2 s3 s4
theorem l7r9v : LoopV E (inlF (PA (ACall E)) E 8) (E.info 7).keep 0 Try.f7.ntmps 8000009 (body Try.f7 9) ([0, 3, 4, 6], lsl7r9) := by
  intro vs σ K (h0 : lsl7r9 vs σ K)
  unfold lsl7r9 at h0
  obtain ⟨a1, r1, rfl, h1⟩ := asCons_inv h0; clear h0
  obtain ⟨s1, rfl, h2⟩ := asD_inv h1; clear h1
  obtain ⟨a2, r2, rfl, h3⟩ := asCons_inv h2; clear h2
  obtain ⟨s2, rfl, h4⟩ := asD_inv h3; clear h3
  obtain ⟨a3, r3, rfl, h5⟩ := asCons_inv h4; clear h4
  obtain ⟨rfl, h6⟩ := asP_inv h5; clear h5
  obtain ⟨a4, r4, rfl, h7⟩ := asCons_inv h6; clear h6
  obtain ⟨s3, rfl, h8⟩ := asD_inv h7; clear h7
  obtain ⟨rfl, h9⟩ := asNil_inv h8; clear h8
  obtain ⟨a5, r5, rfl, h10⟩ := asCons_inv h9; clear h9
  obtain ⟨s4, rfl, h11⟩ := asRw_inv h10; clear h10
  obtain ⟨rfl, h12⟩ := asNil_inv h11; clear h11
  intro J hJ
  have hp : ∀ c' ∈ subsOf (E.info 7).keep (body Try.f7 9), SubOK E (inlF (PA (ACall E)) E 8) (E.info 7).keep 0 Try.f7.ntmps (lofL Ll7r9) c' := all_eq (by kernel_rfl : subsOf (E.info 7).keep (body Try.f7 9) = [.loop (body Try.f7 12)]) (all_cons (loopOK_of (mk := 8000012) (sl := [0, 3, 4, 6, 28, 29]) (ss := [([0, 3, 4, 6, 28, 29], lsl7r12)]) (by kernel_rfl) (by kernel_rfl) (all_cons l7r12v (all_nil))) (all_nil))
  exact h12.of (fun s1 s2 s3 s4 => J [(8000009, .undef), (0, .d (.sl wLF) s1), (3, I s2), (4, .vec 0), (6, B s3)] [.row .bool s4 false]) (fun s1 s2 s3 s4 hb => loop_round2 (S := ofL Sl7r9) (L := lofL Ll7r9) hSl7r9 (inlOK _) hp hJ (by kernel_rfl) hb)

abbrev Sl7r26 : List (Nat × Pat × Sp) := []
theorem hSl7r26 : SpecOK E (ofL Sl7r26) := specOK_nil
abbrev Ll7r26 : List (Nat × List Nat × Pat × LSp) := []
def lsl7r26 : LSp := fun vs σ K => asCons vs fun a1 r1 => asD (.int .i64) a1 fun s1 => asCons r1 fun a2 r2 => asP (.vec 0) a2 <| asCons r2 fun a3 r3 => asP (.vec 1) a3 <| asCons r3 fun a4 r4 => asD (.int .i64) a4 fun s2 => asCons r4 fun a5 r5 => asD (.int .i64) a5 fun s3 => asCons r5 fun a6 r6 => asD (.int .i64) a6 fun s4 => asCons r6 fun a7 r7 => asD (.int .i64) a7 fun s5 => asNil r7 <| asCons σ fun a8 r8 => asRw .bool false a8 fun s6 => asCons r8 fun a9 r9 => asRw (.int .i64) false a9 fun s7 => asNil r9 <| l7r26 (fun z1 z2 z3 z4 z5 z6 => K (.exit 10) [(3, I z1), (4, .vec 0), (9, .vec 1), (11, I z2), (67, I z3), (68, I z4)] [.row .bool z5 false, .row (.int .i64) z6 false]) s1 s2 s3 s4 s5 s6 s7
theorem l7r26v : LoopV E (inlF (PA (ACall E)) E 8) (E.info 7).keep 0 Try.f7.ntmps 8000026 (body Try.f7 26) ([3, 4, 9, 10, 11, 67, 68], lsl7r26) := by
  intro vs σ K (h0 : lsl7r26 vs σ K)
  unfold lsl7r26 at h0
  obtain ⟨a1, r1, rfl, h1⟩ := asCons_inv h0; clear h0
  obtain ⟨s1, rfl, h2⟩ := asD_inv h1; clear h1
  obtain ⟨a2, r2, rfl, h3⟩ := asCons_inv h2; clear h2
  obtain ⟨rfl, h4⟩ := asP_inv h3; clear h3
  obtain ⟨a3, r3, rfl, h5⟩ := asCons_inv h4; clear h4
  obtain ⟨rfl, h6⟩ := asP_inv h5; clear h5
  obtain ⟨a4, r4, rfl, h7⟩ := asCons_inv h6; clear h6
  obtain ⟨s2, rfl, h8⟩ := asD_inv h7; clear h7
  obtain ⟨a5, r5, rfl, h9⟩ := asCons_inv h8; clear h8
  obtain ⟨s3, rfl, h10⟩ := asD_inv h9; clear h9
  obtain ⟨a6, r6, rfl, h11⟩ := asCons_inv h10; clear h10
  obtain ⟨s4, rfl, h12⟩ := asD_inv h11; clear h11
  obtain ⟨a7, r7, rfl, h13⟩ := asCons_inv h12; clear h12
  obtain ⟨s5, rfl, h14⟩ := asD_inv h13; clear h13
  obtain ⟨rfl, h15⟩ := asNil_inv h14; clear h14
  obtain ⟨a8, r8, rfl, h16⟩ := asCons_inv h15; clear h15
  obtain ⟨s6, rfl, h17⟩ := asRw_inv h16; clear h16
  obtain ⟨a9, r9, rfl, h18⟩ := asCons_inv h17; clear h17
  obtain ⟨s7, rfl, h19⟩ := asRw_inv h18; clear h18
  obtain ⟨rfl, h20⟩ := asNil_inv h19; clear h19
  intro J hJ
  have hp : ∀ c' ∈ subsOf (E.info 7).keep (body Try.f7 26), SubOK E (inlF (PA (ACall E)) E 8) (E.info 7).keep 0 Try.f7.ntmps (lofL Ll7r26) c' := all_eq (by kernel_rfl : subsOf (E.info 7).keep (body Try.f7 26) = []) (all_nil)
  exact h20.of (fun s1 s2 s3 s4 s5 s6 s7 => J [(8000026, .undef), (3, I s1), (4, .vec 0), (9, .vec 1), (10, I s2), (11, I s3), (67, I s4), (68, I s5)] [.row .bool s6 false, .row (.int .i64) s7 false]) (fun s1 s2 s3 s4 s5 s6 s7 hb => loop_round2 (S := ofL Sl7r26) (L := lofL Ll7r26) hSl7r26 (inlOK _) hp hJ (by kernel_rfl) hb)

abbrev Sl7r23 : List (Nat × Pat × Sp) := []
theorem hSl7r23 : SpecOK E (ofL Sl7r23) := specOK_nil
abbrev Ll7r23 : List (Nat × List Nat × Pat × LSp) := [(8000026, [3, 4, 9, 10, 11, 67, 68], none, lsl7r26)]
def lsl7r23 : LSp := fun vs σ K => asCons vs fun a1 r1 => asD (.int .i64) a1 fun s1 => asCons r1 fun a2 r2 => asP (.vec 0) a2 <| asCons r2 fun a3 r3 => asP (.vec 1) a3 <| asCons r3 fun a4 r4 => asD (.int .i64) a4 fun s2 => asCons r4 fun a5 r5 => asD (.int .i64) a5 fun s3 => asNil r5 <| asCons σ fun a6 r6 => asRw .bool false a6 fun s4 => asCons r6 fun a7 r7 => asRw (.int .i64) false a7 fun s5 => asNil r7 <| l7r23 (fun z1 => K (.exit 8) [(9, .vec 0)] [.row (.int .i64) z1 false]) s1 s2 s3 s4 s5
theorem l7r23v : LoopV E (inlF (PA (ACall E)) E 8) (E.info 7).keep 0 Try.f7.ntmps 8000023 (body Try.f7 23) ([3, 4, 9, 67, 68], lsl7r23) := by
  intro vs σ K (h0 : lsl7r23 vs σ K)
  unfold lsl7r23 at h0
  obtain ⟨a1, r1, rfl, h1⟩ := asCons_inv h0; clear h0
  obtain ⟨s1, rfl, h2⟩ := asD_inv h1; clear h1
  obtain ⟨a2, r2, rfl, h3⟩ := asCons_inv h2; clear h2
  obtain ⟨rfl, h4⟩ := asP_inv h3; clear h3
  obtain ⟨a3, r3, rfl, h5⟩ := asCons_inv h4; clear h4
  obtain ⟨rfl, h6⟩ := asP_inv h5; clear h5
  obtain ⟨a4, r4, rfl, h7⟩ := asCons_inv h6; clear h6
  obtain ⟨s2, rfl, h8⟩ := asD_inv h7; clear h7
  obtain ⟨a5, r5, rfl, h9⟩ := asCons_inv h8; clear h8
  obtain ⟨s3, rfl, h10⟩ := asD_inv h9; clear h9
  obtain ⟨rfl, h11⟩ := asNil_inv h10; clear h10
  obtain ⟨a6, r6, rfl, h12⟩ := asCons_inv h11; clear h11
  obtain ⟨s4, rfl, h13⟩ := asRw_inv h12; clear h12
  obtain ⟨a7, r7, rfl, h14⟩ := asCons_inv h13; clear h13
  obtain ⟨s5, rfl, h15⟩ := asRw_inv h14; clear h14
  obtain ⟨rfl, h16⟩ := asNil_inv h15; clear h15
  intro J hJ
  have hp : ∀ c' ∈ subsOf (E.info 7).keep (body Try.f7 23), SubOK E (inlF (PA (ACall E)) E 8) (E.info 7).keep 0 Try.f7.ntmps (lofL Ll7r23) c' := all_eq (by kernel_rfl : subsOf (E.info 7).keep (body Try.f7 23) = [.loop (body Try.f7 26)]) (all_cons (loopOK_of (mk := 8000026) (sl := [3, 4, 9, 10, 11, 67, 68]) (ss := [([3, 4, 9, 10, 11, 67, 68], lsl7r26)]) (by kernel_rfl) (by kernel_rfl) (all_cons l7r26v (all_nil))) (all_nil))
  exact h16.of (fun s1 s2 s3 s4 s5 => J [(8000023, .undef), (3, I s1), (4, .vec 0), (9, .vec 1), (67, I s2), (68, I s3)] [.row .bool s4 false, .row (.int .i64) s5 false]) (fun s1 s2 s3 s4 s5 hb => loop_round2 (S := ofL Sl7r23) (L := lofL Ll7r23) hSl7r23 (inlOK _) hp hJ (by kernel_rfl) hb)

abbrev S7 : List (Nat × Pat × Sp) := []
theorem hS7 : SpecOK E (ofL S7) := specOK_nil
abbrev L7 : List (Nat × List Nat × Pat × LSp) := [(8000004, [0, 3, 4, 19, 20], none, lsl7r4), (8000009, [0, 3, 4, 6], none, lsl7r9), (8000023, [3, 4, 9, 67, 68], none, lsl7r23)]
def sp7 : Sp := fun args τ K => asCons args fun a1 r1 => asD (.sl wLF) a1 fun x1 => asNil r1 <| asNil τ <| c7 x1 (fun z1 => K (.vec 0) [.row (.int .i64) z1 false])
theorem h7 : ∀ args τ K, sp7 args τ K → ACall E 7 args τ K := by
  intro args τ K h0
  unfold sp7 at h0
  obtain ⟨a1, r1, rfl, h1⟩ := asCons_inv h0; clear h0
  obtain ⟨x1, rfl, h2⟩ := asD_inv h1; clear h1
  obtain ⟨rfl, h3⟩ := asNil_inv h2; clear h2
  obtain ⟨rfl, h4⟩ := asNil_inv h3; clear h3
  exact ACall.spec2 (fn := Try.f7) (c := codeOf Try.f7) (S := ofL S7) (L := lofL L7) hS7 (by kernel_rfl) (by kernel_rfl) (inlOK _) (all_eq (by kernel_rfl : subsOf (E.info 7).keep (codeOf Try.f7) = [.loop (body Try.f7 4), .loop (body Try.f7 9), .loop (body Try.f7 23)]) (all_cons (loopOK_of (mk := 8000004) (sl := [0, 3, 4, 19, 20]) (ss := [([0, 3, 4, 19, 20], lsl7r4)]) (by kernel_rfl) (by kernel_rfl) (all_cons l7r4v (all_nil))) (all_cons (loopOK_of (mk := 8000009) (sl := [0, 3, 4, 6]) (ss := [([0, 3, 4, 6], lsl7r9)]) (by kernel_rfl) (by kernel_rfl) (all_cons l7r9v (all_nil))) (all_cons (loopOK_of (mk := 8000023) (sl := [3, 4, 9, 67, 68]) (ss := [([3, 4, 9, 67, 68], lsl7r23)]) (by kernel_rfl) (by kernel_rfl) (all_cons l7r23v (all_nil))) (all_nil))))) (by kernel_rfl) h4.of

abbrev Sl8r7 : List (Nat × Pat × Sp) := []
theorem hSl8r7 : SpecOK E (ofL Sl8r7) := specOK_nil
abbrev Ll8r7 : List (Nat × List Nat × Pat × LSp) := []
def lsl8r7 : LSp := fun vs σ K => asCons vs fun a1 r1 => asD (.sl wLF) a1 fun s1 => asCons r1 fun a2 r2 => asP (.vec 0) a2 <| asCons r2 fun a3 r3 => asD (.int .i64) a3 fun s2 => asCons r3 fun a4 r4 => asD .bool a4 fun s3 => asCons r4 fun a5 r5 => asP (.ptr 1 0 []) a5 <| asCons r5 fun a6 r6 => asP (.vec 0) a6 <| asCons r6 fun a7 r7 => asD (.int .i64) a7 fun s4 => asCons r7 fun a8 r8 => asD (.int .i64) a8 fun s5 => asNil r8 <| asCons σ fun a9 r9 => asRw (.int .i64) false a9 fun s6 => asCons r9 fun a10 r10 => asOne (.pair (.sl (.int .i64)) (.pair (.int .i64) (.pair (.sl (.int .i64)) (.pair (.sl (.pair (.int .i64) (.pair (.int .i64) (.pair (.sl (.int .i64)) (.pair (.int .i64) .unit))))) (.pair (.sl (.pair (.int .i64) (.pair (.int .i64) (.pair (.int .i64) (.pair (.sl (.pair .str wCL)) .unit))))) .unit))))) a10 fun a11 => asAgL a11 fun l12 => asCons l12 fun a13 r13 => asP (.vec 2) a13 <| asCons r13 fun a14 r14 => asD (.int .i64) a14 fun s7 => asCons r14 fun a15 r15 => asP (.vec 3) a15 <| asCons r15 fun a16 r16 => asP (.vec 4) a16 <| asCons r16 fun a17 r17 => asP (.vec 5) a17 <| asNil r17 <| asCons r10 fun a18 r18 => asRw (.int .i64) false a18 fun s8 => asCons r18 fun a19 r19 => asRw (.int .i64) false a19 fun s9 => asCons r19 fun a20 r20 => asRw (.pair (.int .i64) (.pair (.int .i64) (.pair (.sl (.int .i64)) (.pair (.int .i64) .unit)))) false a20 fun s10 => asCons r20 fun a21 r21 => asRw (.pair (.int .i64) (.pair (.int .i64) (.pair (.int .i64) (.pair (.sl (.pair .str wCL)) .unit)))) false a21 fun s11 => asNil r21 <| l8r7 (fun z1 z2 z3 z4 z5 z6 z7 z8 => K .ret [(0, .undef), (1, .undef), (2, .undef), (3, .undef), (8, .ptr 1 0 []), (9, .vec 6), (10, I z1)] [.row (.int .i64) z2 false, .one (.pair (.sl (.int .i64)) (.pair (.int .i64) (.pair (.sl (.int .i64)) (.pair (.sl (.pair (.int .i64) (.pair (.int .i64) (.pair (.sl (.int .i64)) (.pair (.int .i64) .unit))))) (.pair (.sl (.pair (.int .i64) (.pair (.int .i64) (.pair (.int .i64) (.pair (.sl (.pair .str wCL)) .unit))))) .unit))))) (.agg [.vec 2, I z3, .vec 3, .vec 4, .vec 5]), .row (.int .i64) z4 false, .row (.int .i64) z5 false, .row (.pair (.int .i64) (.pair (.int .i64) (.pair (.sl (.int .i64)) (.pair (.int .i64) .unit)))) z6 false, .row (.pair (.int .i64) (.pair (.int .i64) (.pair (.int .i64) (.pair (.sl (.pair .str wCL)) .unit)))) z7 false, .row (.int .i64) z8 false]) (fun z1 z2 z3 z4 z5 z6 z7 z8 z9 => K (.exit 0) [(0, .d (.sl wLF) z1), (1, .vec 0), (2, I z2), (3, B z3), (8, .ptr 1 0 []), (9, .undef), (10, .undef)] [.row (.int .i64) z4 false, .one (.pair (.sl (.int .i64)) (.pair (.int .i64) (.pair (.sl (.int .i64)) (.pair (.sl (.pair (.int .i64) (.pair (.int .i64) (.pair (.sl (.int .i64)) (.pair (.int .i64) .unit))))) (.pair (.sl (.pair (.int .i64) (.pair (.int .i64) (.pair (.int .i64) (.pair (.sl (.pair .str wCL)) .unit))))) .unit))))) (.agg [.vec 2, I z5, .vec 3, .vec 4, .vec 5]), .row (.int .i64) z6 false, .row (.int .i64) z7 false, .row (.pair (.int .i64) (.pair (.int .i64) (.pair (.sl (.int .i64)) (.pair (.int .i64) .unit)))) z8 false, .row (.pair (.int .i64) (.pair (.int .i64) (.pair (.int .i64) (.pair (.sl (.pair .str wCL)) .unit)))) z9 false]) s1 s2 s3 s4 s5 s6 s7 s8 s9 s10 s11
theorem l8r7v : LoopV E (inlF (PA (ACall E)) E 8) (E.info 8).keep 1 Try.f8.ntmps 9000007 (body Try.f8 7) ([0, 1, 2, 3, 8, 31, 32, 33], lsl8r7) := by
  intro vs σ K (h0 : lsl8r7 vs σ K)
  unfold lsl8r7 at h0
  obtain ⟨a1, r1, rfl, h1⟩ := asCons_inv h0; clear h0
  obtain ⟨s1, rfl, h2⟩ := asD_inv h1; clear h1
  obtain ⟨a2, r2, rfl, h3⟩ := asCons_inv h2; clear h2
  obtain ⟨rfl, h4⟩ := asP_inv h3; clear h3
  obtain ⟨a3, r3, rfl, h5⟩ := asCons_inv h4; clear h4
  obtain ⟨s2, rfl, h6⟩ := asD_inv h5; clear h5
  obtain ⟨a4, r4, rfl, h7⟩ := asCons_inv h6; clear h6
  obtain ⟨s3, rfl, h8⟩ := asD_inv h7; clear h7
  obtain ⟨a5, r5, rfl, h9⟩ := asCons_inv h8; clear h8
  obtain ⟨rfl, h10⟩ := asP_inv h9; clear h9
  obtain ⟨a6, r6, rfl, h11⟩ := asCons_inv h10; clear h10
  obtain ⟨rfl, h12⟩ := asP_inv h11; clear h11
  obtain ⟨a7, r7, rfl, h13⟩ := asCons_inv h12; clear h12
  obtain ⟨s4, rfl, h14⟩ := asD_inv h13; clear h13
  obtain ⟨a8, r8, rfl, h15⟩ := asCons_inv h14; clear h14
  obtain ⟨s5, rfl, h16⟩ := asD_inv h15; clear h15
  obtain ⟨rfl, h17⟩ := asNil_inv h16; clear h16
  obtain ⟨a9, r9, rfl, h18⟩ := asCons_inv h17; clear h17
  obtain ⟨s6, rfl, h19⟩ := asRw_inv h18; clear h18
  obtain ⟨a10, r10, rfl, h20⟩ := asCons_inv h19; clear h19
  obtain ⟨a11, rfl, h21⟩ := asOne_inv h20; clear h20
  obtain ⟨l12, rfl, h22⟩ := asAgL_inv h21; clear h21
  obtain ⟨a13, r13, rfl, h23⟩ := asCons_inv h22; clear h22
  obtain ⟨rfl, h24⟩ := asP_inv h23; clear h23
  obtain ⟨a14, r14, rfl, h25⟩ := asCons_inv h24; clear h24
  obtain ⟨s7, rfl, h26⟩ := asD_inv h25; clear h25
  obtain ⟨a15, r15, rfl, h27⟩ := asCons_inv h26; clear h26
  obtain ⟨rfl, h28⟩ := asP_inv h27; clear h27
  obtain ⟨a16, r16, rfl, h29⟩ := asCons_inv h28; clear h28
  obtain ⟨rfl, h30⟩ := asP_inv h29; clear h29
  obtain ⟨a17, r17, rfl, h31⟩ := asCons_inv h30; clear h30
  obtain ⟨rfl, h32⟩ := asP_inv h31; clear h31
  obtain ⟨rfl, h33⟩ := asNil_inv h32; clear h32
  obtain ⟨a18, r18, rfl, h34⟩ := asCons_inv h33; clear h33
  obtain ⟨s8, rfl, h35⟩ := asRw_inv h34; clear h34
  obtain ⟨a19, r19, rfl, h36⟩ := asCons_inv h35; clear h35
  obtain ⟨s9, rfl, h37⟩ := asRw_inv h36; clear h36
  obtain ⟨a20, r20, rfl, h38⟩ := asCons_inv h37; clear h37
  obtain ⟨s10, rfl, h39⟩ := asRw_inv h38; clear h38
  obtain ⟨a21, r21, rfl, h40⟩ := asCons_inv h39; clear h39
  obtain ⟨s11, rfl, h41⟩ := asRw_inv h40; clear h40
  obtain ⟨rfl, h42⟩ := asNil_inv h41; clear h41
  intro J hJ
  have hp : ∀ c' ∈ subsOf (E.info 8).keep (body Try.f8 7), SubOK E (inlF (PA (ACall E)) E 8) (E.info 8).keep 1 Try.f8.ntmps (lofL Ll8r7) c' := all_eq (by kernel_rfl : subsOf (E.info 8).keep (body Try.f8 7) = []) (all_nil)
  exact h42.of (fun s1 s2 s3 s4 s5 s6 s7 s8 s9 s10 s11 => J [(9000007, .undef), (0, .d (.sl wLF) s1), (1, .vec 0), (2, I s2), (3, B s3), (8, .ptr 1 0 []), (31, .vec 0), (32, I s4), (33, I s5)] [.row (.int .i64) s6 false, .one (.pair (.sl (.int .i64)) (.pair (.int .i64) (.pair (.sl (.int .i64)) (.pair (.sl (.pair (.int .i64) (.pair (.int .i64) (.pair (.sl (.int .i64)) (.pair (.int .i64) .unit))))) (.pair (.sl (.pair (.int .i64) (.pair (.int .i64) (.pair (.int .i64) (.pair (.sl (.pair .str wCL)) .unit))))) .unit))))) (.agg [.vec 2, I s7, .vec 3, .vec 4, .vec 5]), .row (.int .i64) s8 false, .row (.int .i64) s9 false, .row (.pair (.int .i64) (.pair (.int .i64) (.pair (.sl (.int .i64)) (.pair (.int .i64) .unit)))) s10 false, .row (.pair (.int .i64) (.pair (.int .i64) (.pair (.int .i64) (.pair (.sl (.pair .str wCL)) .unit)))) s11 false]) (fun s1 s2 s3 s4 s5 s6 s7 s8 s9 s10 s11 hb => loop_round2 (S := ofL Sl8r7) (L := lofL Ll8r7) hSl8r7 (inlOK _) hp hJ (by kernel_rfl) hb)

abbrev Sl17r3 : List (Nat × Pat × Sp) := []
theorem hSl17r3 : SpecOK E (ofL Sl17r3) := specOK_nil
abbrev Ll17r3 : List (Nat × List Nat × Pat × LSp) := []
def lsl17r3 : LSp := fun vs σ K => asCons vs fun a1 r1 => asP (.ptr 0 0 []) a1 <| asCons r1 fun a2 r2 => asD (.int .i64) a2 fun s1 => asCons r2 fun a3 r3 => asD (.sl wIT) a3 fun s2 => asCons r3 fun a4 r4 => asD (.int .i64) a4 fun s3 => asCons r4 fun a5 r5 => asD (.int .i64) a5 fun s4 => asNil r5 <| asCons σ fun a6 r6 => asOne (.pair (.sl wIT) (.pair (.sl (.int .i64)) (.pair (.sl (.arr 2 (.int .i64))) .unit))) a6 fun a7 => asAgL a7 fun l8 => asCons l8 fun a9 r9 => asP (.vec 1) a9 <| asCons r9 fun a10 r10 => asP (.vec 2) a10 <| asCons r10 fun a11 r11 => asP (.vec 3) a11 <| asNil r11 <| asCons r6 fun a12 r12 => asRw wIT false a12 fun s5 => asCons r12 fun a13 r13 => asRw (.int .i64) false a13 fun s6 => asCons r13 fun a14 r14 => asRw (.arr 2 (.int .i64)) false a14 fun s7 => asNil r14 <| l17r3 (fun z1 z2 z3 => K (.exit 0) [] [.one (.pair (.sl wIT) (.pair (.sl (.int .i64)) (.pair (.sl (.arr 2 (.int .i64))) .unit))) (.agg [.vec 1, .vec 2, .vec 3]), .row wIT z1 false, .row (.int .i64) z2 false, .row (.arr 2 (.int .i64)) z3 false]) (fun z1 z2 z3 => K (.exit 0) [] [.one (.pair (.sl wIT) (.pair (.sl (.int .i64)) (.pair (.sl (.arr 2 (.int .i64))) .unit))) (.agg [.vec 4, .vec 2, .vec 3]), .dead, .row (.int .i64) z1 false, .row (.arr 2 (.int .i64)) z2 false, .row wIT z3 false]) s1 s2 s3 s4 s5 s6 s7
theorem l17r3v : LoopV E (inlF (PA (ACall E)) E 8) (E.info 17).keep 4 Try.f17.ntmps 18000003 (body Try.f17 3) ([0, 4, 13, 14, 15], lsl17r3) := by
  intro vs σ K (h0 : lsl17r3 vs σ K)
  unfold lsl17r3 at h0
  obtain ⟨a1, r1, rfl, h1⟩ := asCons_inv h0; clear h0
  obtain ⟨rfl, h2⟩ := asP_inv h1; clear h1
  obtain ⟨a2, r2, rfl, h3⟩ := asCons_inv h2; clear h2
  obtain ⟨s1, rfl, h4⟩ := asD_inv h3; clear h3
  obtain ⟨a3, r3, rfl, h5⟩ := asCons_inv h4; clear h4
  obtain ⟨s2, rfl, h6⟩ := asD_inv h5; clear h5
  obtain ⟨a4, r4, rfl, h7⟩ := asCons_inv h6; clear h6
  obtain ⟨s3, rfl, h8⟩ := asD_inv h7; clear h7
  obtain ⟨a5, r5, rfl, h9⟩ := asCons_inv h8; clear h8
  obtain ⟨s4, rfl, h10⟩ := asD_inv h9; clear h9
  obtain ⟨rfl, h11⟩ := asNil_inv h10; clear h10
  obtain ⟨a6, r6, rfl, h12⟩ := asCons_inv h11; clear h11
  obtain ⟨a7, rfl, h13⟩ := asOne_inv h12; clear h12
  obtain ⟨l8, rfl, h14⟩ := asAgL_inv h13; clear h13
  obtain ⟨a9, r9, rfl, h15⟩ := asCons_inv h14; clear h14
  obtain ⟨rfl, h16⟩ := asP_inv h15; clear h15
  obtain ⟨a10, r10, rfl, h17⟩ := asCons_inv h16; clear h16
  obtain ⟨rfl, h18⟩ := asP_inv h17; clear h17
  obtain ⟨a11, r11, rfl, h19⟩ := asCons_inv h18; clear h18
  obtain ⟨rfl, h20⟩ := asP_inv h19; clear h19
  obtain ⟨rfl, h21⟩ := asNil_inv h20; clear h20
  obtain ⟨a12, r12, rfl, h22⟩ := asCons_inv h21; clear h21
  obtain ⟨s5, rfl, h23⟩ := asRw_inv h22; clear h22
  obtain ⟨a13, r13, rfl, h24⟩ := asCons_inv h23; clear h23
  obtain ⟨s6, rfl, h25⟩ := asRw_inv h24; clear h24
  obtain ⟨a14, r14, rfl, h26⟩ := asCons_inv h25; clear h25
  obtain ⟨s7, rfl, h27⟩ := asRw_inv h26; clear h26
  obtain ⟨rfl, h28⟩ := asNil_inv h27; clear h27
  intro J hJ
  have hp : ∀ c' ∈ subsOf (E.info 17).keep (body Try.f17 3), SubOK E (inlF (PA (ACall E)) E 8) (E.info 17).keep 4 Try.f17.ntmps (lofL Ll17r3) c' := all_eq (by kernel_rfl : subsOf (E.info 17).keep (body Try.f17 3) = []) (all_nil)
  exact h28.of (fun s1 s2 s3 s4 s5 s6 s7 => J [(18000003, .undef), (0, .ptr 0 0 []), (4, I s1), (13, .d (.sl wIT) s2), (14, I s3), (15, I s4)] [.one (.pair (.sl wIT) (.pair (.sl (.int .i64)) (.pair (.sl (.arr 2 (.int .i64))) .unit))) (.agg [.vec 1, .vec 2, .vec 3]), .row wIT s5 false, .row (.int .i64) s6 false, .row (.arr 2 (.int .i64)) s7 false]) (fun s9 s10 s11 s12 s13 s14 s15 => J [(18000003, .undef), (0, .ptr 0 0 []), (4, I s9), (13, .d (.sl wIT) s10), (14, I s11), (15, I s12)] [.one (.pair (.sl wIT) (.pair (.sl (.int .i64)) (.pair (.sl (.arr 2 (.int .i64))) .unit))) (.agg [.vec 4, .vec 2, .vec 3]), .dead, .row (.int .i64) s13 false, .row (.arr 2 (.int .i64)) s14 false, .row wIT s15 false]) (fun s1 s2 s3 s4 s5 s6 s7 hb => loop_round2 (S := ofL Sl17r3) (L := lofL Ll17r3) hSl17r3 (inlOK _) hp hJ (by kernel_rfl) hb) (fun s9 s10 s11 s12 s13 s14 s15 hb => loop_round2 (S := ofL Sl17r3) (L := lofL Ll17r3) hSl17r3 (inlOK _) hp hJ (by kernel_rfl) hb)

abbrev S17 : List (Nat × Pat × Sp) := []
theorem hS17 : SpecOK E (ofL S17) := specOK_nil
abbrev L17 : List (Nat × List Nat × Pat × LSp) := [(18000003, [0, 4, 13, 14, 15], none, lsl17r3)]
def sp17 : Sp := fun args τ K => asCons args fun a1 r1 => asP (.ptr 0 0 []) a1 <| asCons r1 fun a2 r2 => asD wLF a2 fun x1 => asNil r2 <| asCons τ fun a3 r3 => asOne (.pair (.sl wIT) (.pair (.sl (.int .i64)) (.pair (.sl (.arr 2 (.int .i64))) .unit))) a3 fun a4 => asAgL a4 fun l5 => asCons l5 fun a6 r6 => asP (.vec 1) a6 <| asCons r6 fun a7 r7 => asP (.vec 2) a7 <| asCons r7 fun a8 r8 => asP (.vec 3) a8 <| asNil r8 <| asCons r3 fun a9 r9 => asRw wIT false a9 fun x2 => asCons r9 fun a10 r10 => asRw (.int .i64) false a10 fun x3 => asCons r10 fun a11 r11 => asRw (.arr 2 (.int .i64)) false a11 fun x4 => asNil r11 <| c17 x1 x2 x3 x4 (fun z1 z2 z3 => K (.tup []) [.one (.pair (.sl wIT) (.pair (.sl (.int .i64)) (.pair (.sl (.arr 2 (.int .i64))) .unit))) (.agg [.vec 1, .vec 2, .vec 3]), .row wIT z1 false, .row (.int .i64) z2 false, .row (.arr 2 (.int .i64)) z3 false]) (fun z1 z2 z3 => K (.tup []) [.one (.pair (.sl wIT) (.pair (.sl (.int .i64)) (.pair (.sl (.arr 2 (.int .i64))) .unit))) (.agg [.vec 4, .vec 2, .vec 3]), .dead, .row (.int .i64) z1 false, .row (.arr 2 (.int .i64)) z2 false, .row wIT z3 false])
theorem h17 : ∀ args τ K, sp17 args τ K → ACall E 17 args τ K := by
  intro args τ K h0
  unfold sp17 at h0
  obtain ⟨a1, r1, rfl, h1⟩ := asCons_inv h0; clear h0
  obtain ⟨rfl, h2⟩ := asP_inv h1; clear h1
  obtain ⟨a2, r2, rfl, h3⟩ := asCons_inv h2; clear h2
  obtain ⟨x1, rfl, h4⟩ := asD_inv h3; clear h3
  obtain ⟨rfl, h5⟩ := asNil_inv h4; clear h4
  obtain ⟨a3, r3, rfl, h6⟩ := asCons_inv h5; clear h5
  obtain ⟨a4, rfl, h7⟩ := asOne_inv h6; clear h6
  obtain ⟨l5, rfl, h8⟩ := asAgL_inv h7; clear h7
  obtain ⟨a6, r6, rfl, h9⟩ := asCons_inv h8; clear h8
  obtain ⟨rfl, h10⟩ := asP_inv h9; clear h9
  obtain ⟨a7, r7, rfl, h11⟩ := asCons_inv h10; clear h10
  obtain ⟨rfl, h12⟩ := asP_inv h11; clear h11
  obtain ⟨a8, r8, rfl, h13⟩ := asCons_inv h12; clear h12
  obtain ⟨rfl, h14⟩ := asP_inv h13; clear h13
  obtain ⟨rfl, h15⟩ := asNil_inv h14; clear h14
  obtain ⟨a9, r9, rfl, h16⟩ := asCons_inv h15; clear h15
  obtain ⟨x2, rfl, h17⟩ := asRw_inv h16; clear h16
  obtain ⟨a10, r10, rfl, h18⟩ := asCons_inv h17; clear h17
  obtain ⟨x3, rfl, h19⟩ := asRw_inv h18; clear h18
  obtain ⟨a11, r11, rfl, h20⟩ := asCons_inv h19; clear h19
  obtain ⟨x4, rfl, h21⟩ := asRw_inv h20; clear h20
  obtain ⟨rfl, h22⟩ := asNil_inv h21; clear h21
  exact ACall.spec2 (fn := Try.f17) (c := codeOf Try.f17) (S := ofL S17) (L := lofL L17) hS17 (by kernel_rfl) (by kernel_rfl) (inlOK _) (all_eq (by kernel_rfl : subsOf (E.info 17).keep (codeOf Try.f17) = [.loop (body Try.f17 3)]) (all_cons (loopOK_of (mk := 18000003) (sl := [0, 4, 13, 14, 15]) (ss := [([0, 4, 13, 14, 15], lsl17r3)]) (by kernel_rfl) (by kernel_rfl) (all_cons l17r3v (all_nil))) (all_nil))) (by kernel_rfl) h22.of

abbrev Sl8r16 : List (Nat × Pat × Sp) := [(17, none, sp17)]
theorem hSl8r16 : SpecOK E (ofL Sl8r16) := specOK_cons h17 (specOK_nil)
abbrev Ll8r16 : List (Nat × List Nat × Pat × LSp) := []
def lsl8r16 : LSp := fun vs σ K => asCons vs fun a1 r1 => asD (.sl wLF) a1 fun s1 => asCons r1 fun a2 r2 => asP (.vec 0) a2 <| asCons r2 fun a3 r3 => asD (.int .i64) a3 fun s2 => asCons r3 fun a4 r4 => asD .bool a4 fun s3 => asCons r4 fun a5 r5 => asP (.ptr 1 0 []) a5 <| asCons r5 fun a6 r6 => asP (.ptr 6 0 []) a6 <| asCons r6 fun a7 r7 => asD (.sl wLF) a7 fun s4 => asCons r7 fun a8 r8 => asD (.int .i64) a8 fun s5 => asCons r8 fun a9 r9 => asD (.int .i64) a9 fun s6 => asNil r9 <| asCons σ fun a10 r10 => asRw (.int .i64) false a10 fun s7 => asCons r10 fun a11 r11 => asOne (.pair (.sl (.int .i64)) (.pair (.int .i64) (.pair (.sl (.int .i64)) (.pair (.sl (.pair (.int .i64) (.pair (.int .i64) (.pair (.sl (.int .i64)) (.pair (.int .i64) .unit))))) (.pair (.sl (.pair (.int .i64) (.pair (.int .i64) (.pair (.int .i64) (.pair (.sl (.pair .str wCL)) .unit))))) .unit))))) a11 fun a12 => asAgL a12 fun l13 => asCons l13 fun a14 r14 => asP (.vec 2) a14 <| asCons r14 fun a15 r15 => asD (.int .i64) a15 fun s8 => asCons r15 fun a16 r16 => asP (.vec 3) a16 <| asCons r16 fun a17 r17 => asP (.vec 4) a17 <| asCons r17 fun a18 r18 => asP (.vec 5) a18 <| asNil r18 <| asCons r11 fun a19 r19 => asRw (.int .i64) false a19 fun s9 => asCons r19 fun a20 r20 => asRw (.int .i64) false a20 fun s10 => asCons r20 fun a21 r21 => asRw (.pair (.int .i64) (.pair (.int .i64) (.pair (.sl (.int .i64)) (.pair (.int .i64) .unit)))) false a21 fun s11 => asCons r21 fun a22 r22 => asRw (.pair (.int .i64) (.pair (.int .i64) (.pair (.int .i64) (.pair (.sl (.pair .str wCL)) .unit)))) false a22 fun s12 => asCons r22 fun a23 r23 => asOne (.pair (.sl wIT) (.pair (.sl (.int .i64)) (.pair (.sl (.arr 2 (.int .i64))) .unit))) a23 fun a24 => asAgL a24 fun l25 => asCons l25 fun a26 r26 => asP (.vec 7) a26 <| asCons r26 fun a27 r27 => asP (.vec 8) a27 <| asCons r27 fun a28 r28 => asP (.vec 9) a28 <| asNil r28 <| asCons r23 fun a29 r29 => asRw wIT false a29 fun s13 => asCons r29 fun a30 r30 => asRw (.int .i64) false a30 fun s14 => asCons r30 fun a31 r31 => asRw (.arr 2 (.int .i64)) false a31 fun s15 => asNil r31 <| l8r16 (fun z1 z2 z3 z4 z5 z6 z7 z8 z9 z10 z11 z12 => K (.exit 2) [(0, .d (.sl wLF) z1), (1, .vec 0), (2, I z2), (3, B z3), (8, .ptr 1 0 []), (14, .ptr 6 0 [])] [.row (.int .i64) z4 false, .one (.pair (.sl (.int .i64)) (.pair (.int .i64) (.pair (.sl (.int .i64)) (.pair (.sl (.pair (.int .i64) (.pair (.int .i64) (.pair (.sl (.int .i64)) (.pair (.int .i64) .unit))))) (.pair (.sl (.pair (.int .i64) (.pair (.int .i64) (.pair (.int .i64) (.pair (.sl (.pair .str wCL)) .unit))))) .unit))))) (.agg [.vec 2, I z5, .vec 3, .vec 4, .vec 5]), .row (.int .i64) z6 false, .row (.int .i64) z7 false, .row (.pair (.int .i64) (.pair (.int .i64) (.pair (.sl (.int .i64)) (.pair (.int .i64) .unit)))) z8 false, .row (.pair (.int .i64) (.pair (.int .i64) (.pair (.int .i64) (.pair (.sl (.pair .str wCL)) .unit)))) z9 false, .one (.pair (.sl wIT) (.pair (.sl (.int .i64)) (.pair (.sl (.arr 2 (.int .i64))) .unit))) (.agg [.vec 7, .vec 8, .vec 9]), .row wIT z10 false, .row (.int .i64) z11 false, .row (.arr 2 (.int .i64)) z12 false]) s1 s2 s3 s4 s5 s6 s7 s8 s9 s10 s11 s12 s13 s14 s15
theorem l8r16v : LoopV E (inlF (PA (ACall E)) E 8) (E.info 8).keep 1 Try.f8.ntmps 9000016 (body Try.f8 16) ([0, 1, 2, 3, 8, 14, 71, 72, 73], lsl8r16) := by
  intro vs σ K (h0 : lsl8r16 vs σ K)
  unfold lsl8r16 at h0
  obtain ⟨a1, r1, rfl, h1⟩ := asCons_inv h0; clear h0
  obtain ⟨s1, rfl, h2⟩ := asD_inv h1; clear h1
  obtain ⟨a2, r2, rfl, h3⟩ := asCons_inv h2; clear h2
  obtain ⟨rfl, h4⟩ := asP_inv h3; clear h3
  obtain ⟨a3, r3, rfl, h5⟩ := asCons_inv h4; clear h4
  obtain ⟨s2, rfl, h6⟩ := asD_inv h5; clear h5
  obtain ⟨a4, r4, rfl, h7⟩ := asCons_inv h6; clear h6
  obtain ⟨s3, rfl, h8⟩ := asD_inv h7; clear h7
  obtain ⟨a5, r5, rfl, h9⟩ := asCons_inv h8; clear h8
  obtain ⟨rfl, h10⟩ := asP_inv h9; clear h9
  obtain ⟨a6, r6, rfl, h11⟩ := asCons_inv h10; clear h10
  obtain ⟨rfl, h12⟩ := asP_inv h11; clear h11
  obtain ⟨a7, r7, rfl, h13⟩ := asCons_inv h12; clear h12
  obtain ⟨s4, rfl, h14⟩ := asD_inv h13; clear h13
  obtain ⟨a8, r8, rfl, h15⟩ := asCons_inv h14; clear h14
  obtain ⟨s5, rfl, h16⟩ := asD_inv h15; clear h15
  obtain ⟨a9, r9, rfl, h17⟩ := asCons_inv h16; clear h16
  obtain ⟨s6, rfl, h18⟩ := asD_inv h17; clear h17
  obtain ⟨rfl, h19⟩ := asNil_inv h18; clear h18
  obtain ⟨a10, r10, rfl, h20⟩ := asCons_inv h19; clear h19
  obtain ⟨s7, rfl, h21⟩ := asRw_inv h20; clear h20
  obtain ⟨a11, r11, rfl, h22⟩ := asCons_inv h21; clear h21
  obtain ⟨a12, rfl, h23⟩ := asOne_inv h22; clear h22
  obtain ⟨l13, rfl, h24⟩ := asAgL_inv h23; clear h23
  obtain ⟨a14, r14, rfl, h25⟩ := asCons_inv h24; clear h24
  obtain ⟨rfl, h26⟩ := asP_inv h25; clear h25
  obtain ⟨a15, r15, rfl, h27⟩ := asCons_inv h26; clear h26
  obtain ⟨s8, rfl, h28⟩ := asD_inv h27; clear h27
  obtain ⟨a16, r16, rfl, h29⟩ := asCons_inv h28; clear h28
  obtain ⟨rfl, h30⟩ := asP_inv h29; clear h29
  obtain ⟨a17, r17, rfl, h31⟩ := asCons_inv h30; clear h30
  obtain ⟨rfl, h32⟩ := asP_inv h31; clear h31
  obtain ⟨a18, r18, rfl, h33⟩ := asCons_inv h32; clear h32
  obtain ⟨rfl, h34⟩ := asP_inv h33; clear h33
  obtain ⟨rfl, h35⟩ := asNil_inv h34; clear h34
  obtain ⟨a19, r19, rfl, h36⟩ := asCons_inv h35; clear h35
  obtain ⟨s9, rfl, h37⟩ := asRw_inv h36; clear h36
  obtain ⟨a20, r20, rfl, h38⟩ := asCons_inv h37; clear h37
  obtain ⟨s10, rfl, h39⟩ := asRw_inv h38; clear h38
  obtain ⟨a21, r21, rfl, h40⟩ := asCons_inv h39; clear h39
  obtain ⟨s11, rfl, h41⟩ := asRw_inv h40; clear h40
  obtain ⟨a22, r22, rfl, h42⟩ := asCons_inv h41; clear h41
  obtain ⟨s12, rfl, h43⟩ := asRw_inv h42; clear h42
  obtain ⟨a23, r23, rfl, h44⟩ := asCons_inv h43; clear h43
  obtain ⟨a24, rfl, h45⟩ := asOne_inv h44; clear h44
  obtain ⟨l25, rfl, h46⟩ := asAgL_inv h45; clear h45
  obtain ⟨a26, r26, rfl, h47⟩ := asCons_inv h46; clear h46
  obtain ⟨rfl, h48⟩ := asP_inv h47; clear h47
  obtain ⟨a27, r27, rfl, h49⟩ := asCons_inv h48; clear h48
  obtain ⟨rfl, h50⟩ := asP_inv h49; clear h49
  obtain ⟨a28, r28, rfl, h51⟩ := asCons_inv h50; clear h50
  obtain ⟨rfl, h52⟩ := asP_inv h51; clear h51
  obtain ⟨rfl, h53⟩ := asNil_inv h52; clear h52
  obtain ⟨a29, r29, rfl, h54⟩ := asCons_inv h53; clear h53
  obtain ⟨s13, rfl, h55⟩ := asRw_inv h54; clear h54
  obtain ⟨a30, r30, rfl, h56⟩ := asCons_inv h55; clear h55
  obtain ⟨s14, rfl, h57⟩ := asRw_inv h56; clear h56
  obtain ⟨a31, r31, rfl, h58⟩ := asCons_inv h57; clear h57
  obtain ⟨s15, rfl, h59⟩ := asRw_inv h58; clear h58
  obtain ⟨rfl, h60⟩ := asNil_inv h59; clear h59
  intro J hJ
  have hp : ∀ c' ∈ subsOf (E.info 8).keep (body Try.f8 16), SubOK E (inlF (PA (ACall E)) E 8) (E.info 8).keep 1 Try.f8.ntmps (lofL Ll8r16) c' := all_eq (by kernel_rfl : subsOf (E.info 8).keep (body Try.f8 16) = []) (all_nil)
  exact h60.of (fun s1 s2 s3 s4 s5 s6 s7 s8 s9 s10 s11 s12 s13 s14 s15 => J [(9000016, .undef), (0, .d (.sl wLF) s1), (1, .vec 0), (2, I s2), (3, B s3), (8, .ptr 1 0 []), (14, .ptr 6 0 []), (71, .d (.sl wLF) s4), (72, I s5), (73, I s6)] [.row (.int .i64) s7 false, .one (.pair (.sl (.int .i64)) (.pair (.int .i64) (.pair (.sl (.int .i64)) (.pair (.sl (.pair (.int .i64) (.pair (.int .i64) (.pair (.sl (.int .i64)) (.pair (.int .i64) .unit))))) (.pair (.sl (.pair (.int .i64) (.pair (.int .i64) (.pair (.int .i64) (.pair (.sl (.pair .str wCL)) .unit))))) .unit))))) (.agg [.vec 2, I s8, .vec 3, .vec 4, .vec 5]), .row (.int .i64) s9 false, .row (.int .i64) s10 false, .row (.pair (.int .i64) (.pair (.int .i64) (.pair (.sl (.int .i64)) (.pair (.int .i64) .unit)))) s11 false, .row (.pair (.int .i64) (.pair (.int .i64) (.pair (.int .i64) (.pair (.sl (.pair .str wCL)) .unit)))) s12 false, .one (.pair (.sl wIT) (.pair (.sl (.int .i64)) (.pair (.sl (.arr 2 (.int .i64))) .unit))) (.agg [.vec 7, .vec 8, .vec 9]), .row wIT s13 false, .row (.int .i64) s14 false, .row (.arr 2 (.int .i64)) s15 false]) (fun s1 s2 s3 s4 s5 s6 s7 s8 s9 s10 s11 s12 s13 s14 s15 hb => loop_round2 (S := ofL Sl8r16) (L := lofL Ll8r16) hSl8r16 (inlOK _) hp hJ (by kernel_rfl) hb)

abbrev Sl18r2 : List (Nat × Pat × Sp) := []
theorem hSl18r2 : SpecOK E (ofL Sl18r2) := specOK_nil
abbrev Ll18r2 : List (Nat × List Nat × Pat × LSp) := []
def lsl18r2 : LSp := fun vs σ K => asCons vs fun a1 r1 => asP (.ptr 0 0 []) a1 <| asCons r1 fun a2 r2 => asD (.int .i64) a2 fun s1 => asCons r2 fun a3 r3 => asD (.sl (.int .i64)) a3 fun s2 => asCons r3 fun a4 r4 => asD (.sl wCL) a4 fun s3 => asCons r4 fun a5 r5 => asD (.int .i64) a5 fun s4 => asCons r5 fun a6 r6 => asD (.int .i64) a6 fun s5 => asNil r6 <| asCons σ fun a7 r7 => asOne (.pair (.sl wIT) (.pair (.sl (.int .i64)) (.pair (.sl (.arr 2 (.int .i64))) .unit))) a7 fun a8 => asAgL a8 fun l9 => asCons l9 fun a10 r10 => asP (.vec 1) a10 <| asCons r10 fun a11 r11 => asP (.vec 2) a11 <| asCons r11 fun a12 r12 => asP (.vec 3) a12 <| asNil r12 <| asCons r7 fun a13 r13 => asRw wIT false a13 fun s6 => asCons r13 fun a14 r14 => asRw (.int .i64) false a14 fun s7 => asCons r14 fun a15 r15 => asRw (.arr 2 (.int .i64)) false a15 fun s8 => asNil r15 <| l18r2 (fun z1 z2 z3 => K (.exit 0) [] [.one (.pair (.sl wIT) (.pair (.sl (.int .i64)) (.pair (.sl (.arr 2 (.int .i64))) .unit))) (.agg [.vec 1, .vec 2, .vec 3]), .row wIT z1 false, .row (.int .i64) z2 false, .row (.arr 2 (.int .i64)) z3 false]) (fun z1 z2 z3 => K (.exit 0) [] [.one (.pair (.sl wIT) (.pair (.sl (.int .i64)) (.pair (.sl (.arr 2 (.int .i64))) .unit))) (.agg [.vec 1, .vec 2, .vec 4]), .row wIT z1 false, .row (.int .i64) z2 false, .dead, .row (.arr 2 (.int .i64)) z3 false]) s1 s2 s3 s4 s5 s6 s7 s8
theorem l18r2v : LoopV E (inlF (PA (ACall E)) E 8) (E.info 18).keep 4 Try.f18.ntmps 19000002 (body Try.f18 2) ([0, 2, 3, 13, 14, 15], lsl18r2) := by
  intro vs σ K (h0 : lsl18r2 vs σ K)
  unfold lsl18r2 at h0
  obtain ⟨a1, r1, rfl, h1⟩ := asCons_inv h0; clear h0
  obtain ⟨rfl, h2⟩ := asP_inv h1; clear h1
  obtain ⟨a2, r2, rfl, h3⟩ := asCons_inv h2; clear h2
  obtain ⟨s1, rfl, h4⟩ := asD_inv h3; clear h3
  obtain ⟨a3, r3, rfl, h5⟩ := asCons_inv h4; clear h4
  obtain ⟨s2, rfl, h6⟩ := asD_inv h5; clear h5
  obtain ⟨a4, r4, rfl, h7⟩ := asCons_inv h6; clear h6
  obtain ⟨s3, rfl, h8⟩ := asD_inv h7; clear h7
  obtain ⟨a5, r5, rfl, h9⟩ := asCons_inv h8; clear h8
  obtain ⟨s4, rfl, h10⟩ := asD_inv h9; clear h9
  obtain ⟨a6, r6, rfl, h11⟩ := asCons_inv h10; clear h10
  obtain ⟨s5, rfl, h12⟩ := asD_inv h11; clear h11
  obtain ⟨rfl, h13⟩ := asNil_inv h12; clear h12
  obtain ⟨a7, r7, rfl, h14⟩ := asCons_inv h13; clear h13
  obtain ⟨a8, rfl, h15⟩ := asOne_inv h14; clear h14
  obtain ⟨l9, rfl, h16⟩ := asAgL_inv h15; clear h15
  obtain ⟨a10, r10, rfl, h17⟩ := asCons_inv h16; clear h16
  obtain ⟨rfl, h18⟩ := asP_inv h17; clear h17
  obtain ⟨a11, r11, rfl, h19⟩ := asCons_inv h18; clear h18
  obtain ⟨rfl, h20⟩ := asP_inv h19; clear h19
  obtain ⟨a12, r12, rfl, h21⟩ := asCons_inv h20; clear h20
  obtain ⟨rfl, h22⟩ := asP_inv h21; clear h21
  obtain ⟨rfl, h23⟩ := asNil_inv h22; clear h22
  obtain ⟨a13, r13, rfl, h24⟩ := asCons_inv h23; clear h23
  obtain ⟨s6, rfl, h25⟩ := asRw_inv h24; clear h24
  obtain ⟨a14, r14, rfl, h26⟩ := asCons_inv h25; clear h25
  obtain ⟨s7, rfl, h27⟩ := asRw_inv h26; clear h26
  obtain ⟨a15, r15, rfl, h28⟩ := asCons_inv h27; clear h27
  obtain ⟨s8, rfl, h29⟩ := asRw_inv h28; clear h28
  obtain ⟨rfl, h30⟩ := asNil_inv h29; clear h29
  intro J hJ
  have hp : ∀ c' ∈ subsOf (E.info 18).keep (body Try.f18 2), SubOK E (inlF (PA (ACall E)) E 8) (E.info 18).keep 4 Try.f18.ntmps (lofL Ll18r2) c' := all_eq (by kernel_rfl : subsOf (E.info 18).keep (body Try.f18 2) = []) (all_nil)
  exact h30.of (fun s1 s2 s3 s4 s5 s6 s7 s8 => J [(19000002, .undef), (0, .ptr 0 0 []), (2, I s1), (3, .d (.sl (.int .i64)) s2), (13, .d (.sl wCL) s3), (14, I s4), (15, I s5)] [.one (.pair (.sl wIT) (.pair (.sl (.int .i64)) (.pair (.sl (.arr 2 (.int .i64))) .unit))) (.agg [.vec 1, .vec 2, .vec 3]), .row wIT s6 false, .row (.int .i64) s7 false, .row (.arr 2 (.int .i64)) s8 false]) (fun s15 s16 s17 s18 s19 s20 s21 s22 => J [(19000002, .undef), (0, .ptr 0 0 []), (2, I s15), (3, .d (.sl (.int .i64)) s16), (13, .d (.sl wCL) s17), (14, I s18), (15, I s19)] [.one (.pair (.sl wIT) (.pair (.sl (.int .i64)) (.pair (.sl (.arr 2 (.int .i64))) .unit))) (.agg [.vec 1, .vec 2, .vec 4]), .row wIT s20 false, .row (.int .i64) s21 false, .dead, .row (.arr 2 (.int .i64)) s22 false]) (fun s1 s2 s3 s4 s5 s6 s7 s8 hb => loop_round2 (S := ofL Sl18r2) (L := lofL Ll18r2) hSl18r2 (inlOK _) hp hJ (by kernel_rfl) hb) (fun s15 s16 s17 s18 s19 s20 s21 s22 hb => loop_round2 (S := ofL Sl18r2) (L := lofL Ll18r2) hSl18r2 (inlOK _) hp hJ (by kernel_rfl) hb)

abbrev S18 : List (Nat × Pat × Sp) := []
theorem hS18 : SpecOK E (ofL S18) := specOK_nil
abbrev L18 : List (Nat × List Nat × Pat × LSp) := [(19000002, [0, 2, 3, 13, 14, 15], none, lsl18r2)]
def sp18 : Sp := fun args τ K => asCons args fun a1 r1 => asP (.ptr 0 0 []) a1 <| asCons r1 fun a2 r2 => asD wLF a2 fun x1 => asCons r2 fun a3 r3 => asD (.int .i64) a3 fun x2 => asCons r3 fun a4 r4 => asD (.sl (.int .i64)) a4 fun x3 => asNil r4 <| asCons τ fun a5 r5 => asOne (.pair (.sl wIT) (.pair (.sl (.int .i64)) (.pair (.sl (.arr 2 (.int .i64))) .unit))) a5 fun a6 => asAgL a6 fun l7 => asCons l7 fun a8 r8 => asP (.vec 1) a8 <| asCons r8 fun a9 r9 => asP (.vec 2) a9 <| asCons r9 fun a10 r10 => asP (.vec 3) a10 <| asNil r10 <| asCons r5 fun a11 r11 => asRw wIT false a11 fun x4 => asCons r11 fun a12 r12 => asRw (.int .i64) false a12 fun x5 => asCons r12 fun a13 r13 => asRw (.arr 2 (.int .i64)) false a13 fun x6 => asNil r13 <| c18 x1 x2 x3 x4 x5 x6 (fun z1 z2 z3 => K (.tup []) [.one (.pair (.sl wIT) (.pair (.sl (.int .i64)) (.pair (.sl (.arr 2 (.int .i64))) .unit))) (.agg [.vec 1, .vec 2, .vec 3]), .row wIT z1 false, .row (.int .i64) z2 false, .row (.arr 2 (.int .i64)) z3 false]) (fun z1 z2 z3 => K (.tup []) [.one (.pair (.sl wIT) (.pair (.sl (.int .i64)) (.pair (.sl (.arr 2 (.int .i64))) .unit))) (.agg [.vec 1, .vec 2, .vec 4]), .row wIT z1 false, .row (.int .i64) z2 false, .dead, .row (.arr 2 (.int .i64)) z3 false])
theorem h18 : ∀ args τ K, sp18 args τ K → ACall E 18 args τ K := by
  intro args τ K h0
  unfold sp18 at h0
  obtain ⟨a1, r1, rfl, h1⟩ := asCons_inv h0; clear h0
  obtain ⟨rfl, h2⟩ := asP_inv h1; clear h1
  obtain ⟨a2, r2, rfl, h3⟩ := asCons_inv h2; clear h2
  obtain ⟨x1, rfl, h4⟩ := asD_inv h3; clear h3
  obtain ⟨a3, r3, rfl, h5⟩ := asCons_inv h4; clear h4
  obtain ⟨x2, rfl, h6⟩ := asD_inv h5; clear h5
  obtain ⟨a4, r4, rfl, h7⟩ := asCons_inv h6; clear h6
  obtain ⟨x3, rfl, h8⟩ := asD_inv h7; clear h7
  obtain ⟨rfl, h9⟩ := asNil_inv h8; clear h8
  obtain ⟨a5, r5, rfl, h10⟩ := asCons_inv h9; clear h9
  obtain ⟨a6, rfl, h11⟩ := asOne_inv h10; clear h10
  obtain ⟨l7, rfl, h12⟩ := asAgL_inv h11; clear h11
  obtain ⟨a8, r8, rfl, h13⟩ := asCons_inv h12; clear h12
  obtain ⟨rfl, h14⟩ := asP_inv h13; clear h13
  obtain ⟨a9, r9, rfl, h15⟩ := asCons_inv h14; clear h14
  obtain ⟨rfl, h16⟩ := asP_inv h15; clear h15
  obtain ⟨a10, r10, rfl, h17⟩ := asCons_inv h16; clear h16
  obtain ⟨rfl, h18⟩ := asP_inv h17; clear h17
  obtain ⟨rfl, h19⟩ := asNil_inv h18; clear h18
  obtain ⟨a11, r11, rfl, h20⟩ := asCons_inv h19; clear h19
  obtain ⟨x4, rfl, h21⟩ := asRw_inv h20; clear h20
  obtain ⟨a12, r12, rfl, h22⟩ := asCons_inv h21; clear h21
  obtain ⟨x5, rfl, h23⟩ := asRw_inv h22; clear h22
  obtain ⟨a13, r13, rfl, h24⟩ := asCons_inv h23; clear h23
  obtain ⟨x6, rfl, h25⟩ := asRw_inv h24; clear h24
  obtain ⟨rfl, h26⟩ := asNil_inv h25; clear h25
  exact ACall.spec2 (fn := Try.f18) (c := codeOf Try.f18) (S := ofL S18) (L := lofL L18) hS18 (by kernel_rfl) (by kernel_rfl) (inlOK _) (all_eq (by kernel_rfl : subsOf (E.info 18).keep (codeOf Try.f18) = [.loop (body Try.f18 2)]) (all_cons (loopOK_of (mk := 19000002) (sl := [0, 2, 3, 13, 14, 15]) (ss := [([0, 2, 3, 13, 14, 15], lsl18r2)]) (by kernel_rfl) (by kernel_rfl) (all_cons l18r2v (all_nil))) (all_nil))) (by kernel_rfl) h26.of

abbrev Sl8r25 : List (Nat × Pat × Sp) := [(18, none, sp18)]
theorem hSl8r25 : SpecOK E (ofL Sl8r25) := specOK_cons h18 (specOK_nil)
abbrev Ll8r25 : List (Nat × List Nat × Pat × LSp) := []
def lsl8r25 : LSp := fun vs σ K => asCons vs fun a1 r1 => asD (.sl wLF) a1 fun s1 => asCons r1 fun a2 r2 => asP (.vec 0) a2 <| asCons r2 fun a3 r3 => asD .bool a3 fun s2 => asCons r3 fun a4 r4 => asP (.ptr 1 0 []) a4 <| asCons r4 fun a5 r5 => asP (.ptr 6 0 []) a5 <| asCons r5 fun a6 r6 => asD (.sl wLF) a6 fun s3 => asCons r6 fun a7 r7 => asD (.int .i64) a7 fun s4 => asCons r7 fun a8 r8 => asD (.int .i64) a8 fun s5 => asNil r8 <| asCons σ fun a9 r9 => asRw (.int .i64) false a9 fun s6 => asCons r9 fun a10 r10 => asOne (.pair (.sl (.int .i64)) (.pair (.int .i64) (.pair (.sl (.int .i64)) (.pair (.sl (.pair (.int .i64) (.pair (.int .i64) (.pair (.sl (.int .i64)) (.pair (.int .i64) .unit))))) (.pair (.sl (.pair (.int .i64) (.pair (.int .i64) (.pair (.int .i64) (.pair (.sl (.pair .str wCL)) .unit))))) .unit))))) a10 fun a11 => asAgL a11 fun l12 => asCons l12 fun a13 r13 => asP (.vec 2) a13 <| asCons r13 fun a14 r14 => asD (.int .i64) a14 fun s7 => asCons r14 fun a15 r15 => asP (.vec 3) a15 <| asCons r15 fun a16 r16 => asP (.vec 4) a16 <| asCons r16 fun a17 r17 => asP (.vec 5) a17 <| asNil r17 <| asCons r10 fun a18 r18 => asRw (.int .i64) false a18 fun s8 => asCons r18 fun a19 r19 => asRw (.int .i64) false a19 fun s9 => asCons r19 fun a20 r20 => asRw (.pair (.int .i64) (.pair (.int .i64) (.pair (.sl (.int .i64)) (.pair (.int .i64) .unit)))) false a20 fun s10 => asCons r20 fun a21 r21 => asRw (.pair (.int .i64) (.pair (.int .i64) (.pair (.int .i64) (.pair (.sl (.pair .str wCL)) .unit)))) false a21 fun s11 => asCons r21 fun a22 r22 => asOne (.pair (.sl wIT) (.pair (.sl (.int .i64)) (.pair (.sl (.arr 2 (.int .i64))) .unit))) a22 fun a23 => asAgL a23 fun l24 => asCons l24 fun a25 r25 => asP (.vec 7) a25 <| asCons r25 fun a26 r26 => asP (.vec 8) a26 <| asCons r26 fun a27 r27 => asP (.vec 9) a27 <| asNil r27 <| asCons r22 fun a28 r28 => asRw wIT false a28 fun s12 => asCons r28 fun a29 r29 => asRw (.int .i64) false a29 fun s13 => asCons r29 fun a30 r30 => asRw (.arr 2 (.int .i64)) false a30 fun s14 => asNil r30 <| l8r25 (fun z1 z2 z3 z4 z5 z6 z7 z8 z9 z10 z11 => K (.exit 4) [(0, .d (.sl wLF) z1), (1, .vec 0), (3, B z2), (8, .ptr 1 0 []), (14, .ptr 6 0 [])] [.row (.int .i64) z3 false, .one (.pair (.sl (.int .i64)) (.pair (.int .i64) (.pair (.sl (.int .i64)) (.pair (.sl (.pair (.int .i64) (.pair (.int .i64) (.pair (.sl (.int .i64)) (.pair (.int .i64) .unit))))) (.pair (.sl (.pair (.int .i64) (.pair (.int .i64) (.pair (.int .i64) (.pair (.sl (.pair .str wCL)) .unit))))) .unit))))) (.agg [.vec 2, I z4, .vec 3, .vec 4, .vec 5]), .row (.int .i64) z5 false, .row (.int .i64) z6 false, .row (.pair (.int .i64) (.pair (.int .i64) (.pair (.sl (.int .i64)) (.pair (.int .i64) .unit)))) z7 false, .row (.pair (.int .i64) (.pair (.int .i64) (.pair (.int .i64) (.pair (.sl (.pair .str wCL)) .unit)))) z8 false, .one (.pair (.sl wIT) (.pair (.sl (.int .i64)) (.pair (.sl (.arr 2 (.int .i64))) .unit))) (.agg [.vec 7, .vec 8, .vec 9]), .row wIT z9 false, .row (.int .i64) z10 false, .row (.arr 2 (.int .i64)) z11 false]) s1 s2 s3 s4 s5 s6 s7 s8 s9 s10 s11 s12 s13 s14
theorem l8r25v : LoopV E (inlF (PA (ACall E)) E 8) (E.info 8).keep 1 Try.f8.ntmps 9000025 (body Try.f8 25) ([0, 1, 3, 8, 14, 124, 125, 126], lsl8r25) := by
  intro vs σ K (h0 : lsl8r25 vs σ K)
  unfold lsl8r25 at h0
  obtain ⟨a1, r1, rfl, h1⟩ := asCons_inv h0; clear h0
  obtain ⟨s1, rfl, h2⟩ := asD_inv h1; clear h1
  obtain ⟨a2, r2, rfl, h3⟩ := asCons_inv h2; clear h2
  obtain ⟨rfl, h4⟩ := asP_inv h3; clear h3
  obtain ⟨a3, r3, rfl, h5⟩ := asCons_inv h4; clear h4
  obtain ⟨s2, rfl, h6⟩ := asD_inv h5; clear h5
  obtain ⟨a4, r4, rfl, h7⟩ := asCons_inv h6; clear h6
  obtain ⟨rfl, h8⟩ := asP_inv h7; clear h7
  obtain ⟨a5, r5, rfl, h9⟩ := asCons_inv h8; clear h8
  obtain ⟨rfl, h10⟩ := asP_inv h9; clear h9
  obtain ⟨a6, r6, rfl, h11⟩ := asCons_inv h10; clear h10
  obtain ⟨s3, rfl, h12⟩ := asD_inv h11; clear h11
  obtain ⟨a7, r7, rfl, h13⟩ := asCons_inv h12; clear h12
  obtain ⟨s4, rfl, h14⟩ := asD_inv h13; clear h13
  obtain ⟨a8, r8, rfl, h15⟩ := asCons_inv h14; clear h14
  obtain ⟨s5, rfl, h16⟩ := asD_inv h15; clear h15
  obtain ⟨rfl, h17⟩ := asNil_inv h16; clear h16
  obtain ⟨a9, r9, rfl, h18⟩ := asCons_inv h17; clear h17
  obtain ⟨s6, rfl, h19⟩ := asRw_inv h18; clear h18
  obtain ⟨a10, r10, rfl, h20⟩ := asCons_inv h19; clear h19
  obtain ⟨a11, rfl, h21⟩ := asOne_inv h20; clear h20
  obtain ⟨l12, rfl, h22⟩ := asAgL_inv h21; clear h21
  obtain ⟨a13, r13, rfl, h23⟩ := asCons_inv h22; clear h22
  obtain ⟨rfl, h24⟩ := asP_inv h23; clear h23
  obtain ⟨a14, r14, rfl, h25⟩ := asCons_inv h24; clear h24
  obtain ⟨s7, rfl, h26⟩ := asD_inv h25; clear h25
  obtain ⟨a15, r15, rfl, h27⟩ := asCons_inv h26; clear h26
  obtain ⟨rfl, h28⟩ := asP_inv h27; clear h27
  obtain ⟨a16, r16, rfl, h29⟩ := asCons_inv h28; clear h28
  obtain ⟨rfl, h30⟩ := asP_inv h29; clear h29
  obtain ⟨a17, r17, rfl, h31⟩ := asCons_inv h30; clear h30
  obtain ⟨rfl, h32⟩ := asP_inv h31; clear h31
  obtain ⟨rfl, h33⟩ := asNil_inv h32; clear h32
  obtain ⟨a18, r18, rfl, h34⟩ := asCons_inv h33; clear h33
  obtain ⟨s8, rfl, h35⟩ := asRw_inv h34; clear h34
  obtain ⟨a19, r19, rfl, h36⟩ := asCons_inv h35; clear h35
  obtain ⟨s9, rfl, h37⟩ := asRw_inv h36; clear h36
  obtain ⟨a20, r20, rfl, h38⟩ := asCons_inv h37; clear h37
  obtain ⟨s10, rfl, h39⟩ := asRw_inv h38; clear h38
  obtain ⟨a21, r21, rfl, h40⟩ := asCons_inv h39; clear h39
  obtain ⟨s11, rfl, h41⟩ := asRw_inv h40; clear h40
  obtain ⟨a22, r22, rfl, h42⟩ := asCons_inv h41; clear h41
  obtain ⟨a23, rfl, h43⟩ := asOne_inv h42; clear h42
  obtain ⟨l24, rfl, h44⟩ := asAgL_inv h43; clear h43
  obtain ⟨a25, r25, rfl, h45⟩ := asCons_inv h44; clear h44
  obtain ⟨rfl, h46⟩ := asP_inv h45; clear h45
  obtain ⟨a26, r26, rfl, h47⟩ := asCons_inv h46; clear h46
  obtain ⟨rfl, h48⟩ := asP_inv h47; clear h47
  obtain ⟨a27, r27, rfl, h49⟩ := asCons_inv h48; clear h48
  obtain ⟨rfl, h50⟩ := asP_inv h49; clear h49
  obtain ⟨rfl, h51⟩ := asNil_inv h50; clear h50
  obtain ⟨a28, r28, rfl, h52⟩ := asCons_inv h51; clear h51
  obtain ⟨s12, rfl, h53⟩ := asRw_inv h52; clear h52
  obtain ⟨a29, r29, rfl, h54⟩ := asCons_inv h53; clear h53
  obtain ⟨s13, rfl, h55⟩ := asRw_inv h54; clear h54
  obtain ⟨a30, r30, rfl, h56⟩ := asCons_inv h55; clear h55
  obtain ⟨s14, rfl, h57⟩ := asRw_inv h56; clear h56
  obtain ⟨rfl, h58⟩ := asNil_inv h57; clear h57
  intro J hJ
  have hp : ∀ c' ∈ subsOf (E.info 8).keep (body Try.f8 25), SubOK E (inlF (PA (ACall E)) E 8) (E.info 8).keep 1 Try.f8.ntmps (lofL Ll8r25) c' := all_eq (by kernel_rfl : subsOf (E.info 8).keep (body Try.f8 25) = []) (all_nil)
  exact h58.of (fun s1 s2 s3 s4 s5 s6 s7 s8 s9 s10 s11 s12 s13 s14 => J [(9000025, .undef), (0, .d (.sl wLF) s1), (1, .vec 0), (3, B s2), (8, .ptr 1 0 []), (14, .ptr 6 0 []), (124, .d (.sl wLF) s3), (125, I s4), (126, I s5)] [.row (.int .i64) s6 false, .one (.pair (.sl (.int .i64)) (.pair (.int .i64) (.pair (.sl (.int .i64)) (.pair (.sl (.pair (.int .i64) (.pair (.int .i64) (.pair (.sl (.int .i64)) (.pair (.int .i64) .unit))))) (.pair (.sl (.pair (.int .i64) (.pair (.int .i64) (.pair (.int .i64) (.pair (.sl (.pair .str wCL)) .unit))))) .unit))))) (.agg [.vec 2, I s7, .vec 3, .vec 4, .vec 5]), .row (.int .i64) s8 false, .row (.int .i64) s9 false, .row (.pair (.int .i64) (.pair (.int .i64) (.pair (.sl (.int .i64)) (.pair (.int .i64) .unit)))) s10 false, .row (.pair (.int .i64) (.pair (.int .i64) (.pair (.int .i64) (.pair (.sl (.pair .str wCL)) .unit)))) s11 false, .one (.pair (.sl wIT) (.pair (.sl (.int .i64)) (.pair (.sl (.arr 2 (.int .i64))) .unit))) (.agg [.vec 7, .vec 8, .vec 9]), .row wIT s12 false, .row (.int .i64) s13 false, .row (.arr 2 (.int .i64)) s14 false]) (fun s1 s2 s3 s4 s5 s6 s7 s8 s9 s10 s11 s12 s13 s14 hb => loop_round2 (S := ofL Sl8r25) (L := lofL Ll8r25) hSl8r25 (inlOK _) hp hJ (by kernel_rfl) hb)

abbrev S49 : List (Nat × Pat × Sp) := [(40, none, sp40)]
theorem hS49 : SpecOK E (ofL S49) := specOK_cons h40 (specOK_nil)
abbrev L49 : List (Nat × List Nat × Pat × LSp) := []
def sp49 : Sp := fun args τ K => asCons args fun a1 r1 => asD opT a1 fun x1 => asNil r1 <| asNil τ <| c49 x1 (fun z1 => K (I z1) [])
theorem h49 : ∀ args τ K, sp49 args τ K → ACall E 49 args τ K := by
  intro args τ K h0
  unfold sp49 at h0
  obtain ⟨a1, r1, rfl, h1⟩ := asCons_inv h0; clear h0
  obtain ⟨x1, rfl, h2⟩ := asD_inv h1; clear h1
  obtain ⟨rfl, h3⟩ := asNil_inv h2; clear h2
  obtain ⟨rfl, h4⟩ := asNil_inv h3; clear h3
  exact ACall.spec2 (fn := Try.f49) (c := codeOf Try.f49) (S := ofL S49) (L := lofL L49) hS49 (by kernel_rfl) (by kernel_rfl) (inlOK _) (all_eq (by kernel_rfl : subsOf (E.info 49).keep (codeOf Try.f49) = []) (all_nil)) (by kernel_rfl) h4.of

abbrev Sl42r6 : List (Nat × Pat × Sp) := [(49, none, sp49)]
theorem hSl42r6 : SpecOK E (ofL Sl42r6) := specOK_cons h49 (specOK_nil)
abbrev Ll42r6 : List (Nat × List Nat × Pat × LSp) := []
def lsl42r6 : LSp := fun vs σ K => asCons vs fun a1 r1 => asD (.sl wIT) a1 fun s1 => asCons r1 fun a2 r2 => asP (.vec 0) a2 <| asCons r2 fun a3 r3 => asD (.sl wIT) a3 fun s2 => asCons r3 fun a4 r4 => asD (.int .i64) a4 fun s3 => asCons r4 fun a5 r5 => asD (.int .i64) a5 fun s4 => asNil r5 <| asCons σ fun a6 r6 => asRw .bool false a6 fun s5 => asNil r6 <| l42r6 (fun z1 z2 => K (.exit 0) [(0, .d (.sl wIT) z1), (5, .vec 0)] [.row .bool z2 false]) s1 s2 s3 s4 s5
theorem l42r6v : LoopV E (inlF (PA (ACall E)) E 8) (E.info 42).keep 0 Try.f42.ntmps 43000006 (body Try.f42 6) ([0, 5, 20, 21, 22], lsl42r6) := by
  intro vs σ K (h0 : lsl42r6 vs σ K)
  unfold lsl42r6 at h0
  obtain ⟨a1, r1, rfl, h1⟩ := asCons_inv h0; clear h0
  obtain ⟨s1, rfl, h2⟩ := asD_inv h1; clear h1
  obtain ⟨a2, r2, rfl, h3⟩ := asCons_inv h2; clear h2
  obtain ⟨rfl, h4⟩ := asP_inv h3; clear h3
  obtain ⟨a3, r3, rfl, h5⟩ := asCons_inv h4; clear h4
  obtain ⟨s2, rfl, h6⟩ := asD_inv h5; clear h5
  obtain ⟨a4, r4, rfl, h7⟩ := asCons_inv h6; clear h6
  obtain ⟨s3, rfl, h8⟩ := asD_inv h7; clear h7
  obtain ⟨a5, r5, rfl, h9⟩ := asCons_inv h8; clear h8
  obtain ⟨s4, rfl, h10⟩ := asD_inv h9; clear h9
  obtain ⟨rfl, h11⟩ := asNil_inv h10; clear h10
  obtain ⟨a6, r6, rfl, h12⟩ := asCons_inv h11; clear h11
  obtain ⟨s5, rfl, h13⟩ := asRw_inv h12; clear h12
  obtain ⟨rfl, h14⟩ := asNil_inv h13; clear h13
  intro J hJ
  have hp : ∀ c' ∈ subsOf (E.info 42).keep (body Try.f42 6), SubOK E (inlF (PA (ACall E)) E 8) (E.info 42).keep 0 Try.f42.ntmps (lofL Ll42r6) c' := all_eq (by kernel_rfl : subsOf (E.info 42).keep (body Try.f42 6) = []) (all_nil)
  exact h14.of (fun s1 s2 s3 s4 s5 => J [(43000006, .undef), (0, .d (.sl wIT) s1), (5, .vec 0), (20, .d (.sl wIT) s2), (21, I s3), (22, I s4)] [.row .bool s5 false]) (fun s1 s2 s3 s4 s5 hb => loop_round2 (S := ofL Sl42r6) (L := lofL Ll42r6) hSl42r6 (inlOK _) hp hJ (by kernel_rfl) hb)

abbrev Sl43r3 : List (Nat × Pat × Sp) := []
theorem hSl43r3 : SpecOK E (ofL Sl43r3) := specOK_nil
abbrev Ll43r3 : List (Nat × List Nat × Pat × LSp) := []
def lsl43r3 : LSp := fun vs σ K => asCons vs fun a1 r1 => asD (.sl .bool) a1 fun s1 => asCons r1 fun a2 r2 => asP (.vec 0) a2 <| asCons r2 fun a3 r3 => asD (.int .i64) a3 fun s2 => asCons r3 fun a4 r4 => asD (.int .i64) a4 fun s3 => asNil r4 <| asCons σ fun a5 r5 => asRw (.int .i64) false a5 fun s4 => asNil r5 <| l43r3 (fun z1 => K (.exit 0) [(5, .vec 0)] [.row (.int .i64) z1 false]) s1 s2 s3 s4
theorem l43r3v : LoopV E (inlF (PA (ACall E)) E 8) (E.info 43).keep 0 Try.f43.ntmps 44000003 (body Try.f43 3) ([1, 5, 13, 14], lsl43r3) := by
  intro vs σ K (h0 : lsl43r3 vs σ K)
  unfold lsl43r3 at h0
  obtain ⟨a1, r1, rfl, h1⟩ := asCons_inv h0; clear h0
  obtain ⟨s1, rfl, h2⟩ := asD_inv h1; clear h1
  obtain ⟨a2, r2, rfl, h3⟩ := asCons_inv h2; clear h2
  obtain ⟨rfl, h4⟩ := asP_inv h3; clear h3
  obtain ⟨a3, r3, rfl, h5⟩ := asCons_inv h4; clear h4
  obtain ⟨s2, rfl, h6⟩ := asD_inv h5; clear h5
  obtain ⟨a4, r4, rfl, h7⟩ := asCons_inv h6; clear h6
  obtain ⟨s3, rfl, h8⟩ := asD_inv h7; clear h7
  obtain ⟨rfl, h9⟩ := asNil_inv h8; clear h8
  obtain ⟨a5, r5, rfl, h10⟩ := asCons_inv h9; clear h9
  obtain ⟨s4, rfl, h11⟩ := asRw_inv h10; clear h10
  obtain ⟨rfl, h12⟩ := asNil_inv h11; clear h11
  intro J hJ
  have hp : ∀ c' ∈ subsOf (E.info 43).keep (body Try.f43 3), SubOK E (inlF (PA (ACall E)) E 8) (E.info 43).keep 0 Try.f43.ntmps (lofL Ll43r3) c' := all_eq (by kernel_rfl : subsOf (E.info 43).keep (body Try.f43 3) = []) (all_nil)
  exact h12.of (fun s1 s2 s3 s4 => J [(44000003, .undef), (1, .d (.sl .bool) s1), (5, .vec 0), (13, I s2), (14, I s3)] [.row (.int .i64) s4 false]) (fun s1 s2 s3 s4 hb => loop_round2 (S := ofL Sl43r3) (L := lofL Ll43r3) hSl43r3 (inlOK _) hp hJ (by kernel_rfl) hb)

abbrev S43 : List (Nat × Pat × Sp) := []
theorem hS43 : SpecOK E (ofL S43) := specOK_nil
abbrev L43 : List (Nat × List Nat × Pat × LSp) := [(44000003, [1, 5, 13, 14], none, lsl43r3)]
def sp43 : Sp := fun args τ K => asCons args fun a1 r1 => asD (.sl wIT) a1 fun x1 => asCons r1 fun a2 r2 => asD (.sl .bool) a2 fun x2 => asNil r2 <| asNil τ <| c43 x1 x2 (fun z1 => K (.vec 0) [.row (.int .i64) z1 false])
theorem h43 : ∀ args τ K, sp43 args τ K → ACall E 43 args τ K := by
  intro args τ K h0
  unfold sp43 at h0
  obtain ⟨a1, r1, rfl, h1⟩ := asCons_inv h0; clear h0
  obtain ⟨x1, rfl, h2⟩ := asD_inv h1; clear h1
  obtain ⟨a2, r2, rfl, h3⟩ := asCons_inv h2; clear h2
  obtain ⟨x2, rfl, h4⟩ := asD_inv h3; clear h3
  obtain ⟨rfl, h5⟩ := asNil_inv h4; clear h4
  obtain ⟨rfl, h6⟩ := asNil_inv h5; clear h5
  exact ACall.spec2 (fn := Try.f43) (c := codeOf Try.f43) (S := ofL S43) (L := lofL L43) hS43 (by kernel_rfl) (by kernel_rfl) (inlOK _) (all_eq (by kernel_rfl : subsOf (E.info 43).keep (codeOf Try.f43) = [.loop (body Try.f43 3)]) (all_cons (loopOK_of (mk := 44000003) (sl := [1, 5, 13, 14]) (ss := [([1, 5, 13, 14], lsl43r3)]) (by kernel_rfl) (by kernel_rfl) (all_cons l43r3v (all_nil))) (all_nil))) (by kernel_rfl) h6.of

abbrev Sl42r15 : List (Nat × Pat × Sp) := [(49, none, sp49)]
theorem hSl42r15 : SpecOK E (ofL Sl42r15) := specOK_cons h49 (specOK_nil)
abbrev Ll42r15 : List (Nat × List Nat × Pat × LSp) := []
def lsl42r15 : LSp := fun vs σ K => asCons vs fun a1 r1 => asD (.sl wIT) a1 fun s1 => asCons r1 fun a2 r2 => asP (.vec 0) a2 <| asCons r2 fun a3 r3 => asD .bool a3 fun s2 => asCons r3 fun a4 r4 => asP (.vec 1) a4 <| asCons r4 fun a5 r5 => asD (.sl wIT) a5 fun s3 => asCons r5 fun a6 r6 => asD (.int .i64) a6 fun s4 => asCons r6 fun a7 r7 => asD (.int .i64) a7 fun s5 => asNil r7 <| asCons σ fun a8 r8 => asRw .bool false a8 fun s6 => asCons r8 fun a9 r9 => asRw (.int .i64) false a9 fun s7 => asNil r9 <| l42r15 (fun z1 z2 z3 => K (.exit 4) [(0, .d (.sl wIT) z1), (5, .vec 0), (8, B z2)] [.row .bool z3 false]) s1 s2 s3 s4 s5 s6 s7
theorem l42r15v : LoopV E (inlF (PA (ACall E)) E 8) (E.info 42).keep 0 Try.f42.ntmps 43000015 (body Try.f42 15) ([0, 5, 8, 9, 44, 45, 46], lsl42r15) := by
  intro vs σ K (h0 : lsl42r15 vs σ K)
  unfold lsl42r15 at h0
  obtain ⟨a1, r1, rfl, h1⟩ := asCons_inv h0; clear h0
  obtain ⟨s1, rfl, h2⟩ := asD_inv h1; clear h1
  obtain ⟨a2, r2, rfl, h3⟩ := asCons_inv h2; clear h2
  obtain ⟨rfl, h4⟩ := asP_inv h3; clear h3
  obtain ⟨a3, r3, rfl, h5⟩ := asCons_inv h4; clear h4
  obtain ⟨s2, rfl, h6⟩ := asD_inv h5; clear h5
  obtain ⟨a4, r4, rfl, h7⟩ := asCons_inv h6; clear h6
  obtain ⟨rfl, h8⟩ := asP_inv h7; clear h7
  obtain ⟨a5, r5, rfl, h9⟩ := asCons_inv h8; clear h8
  obtain ⟨s3, rfl, h10⟩ := asD_inv h9; clear h9
  obtain ⟨a6, r6, rfl, h11⟩ := asCons_inv h10; clear h10
  obtain ⟨s4, rfl, h12⟩ := asD_inv h11; clear h11
  obtain ⟨a7, r7, rfl, h13⟩ := asCons_inv h12; clear h12
  obtain ⟨s5, rfl, h14⟩ := asD_inv h13; clear h13
  obtain ⟨rfl, h15⟩ := asNil_inv h14; clear h14
  obtain ⟨a8, r8, rfl, h16⟩ := asCons_inv h15; clear h15
  obtain ⟨s6, rfl, h17⟩ := asRw_inv h16; clear h16
  obtain ⟨a9, r9, rfl, h18⟩ := asCons_inv h17; clear h17
  obtain ⟨s7, rfl, h19⟩ := asRw_inv h18; clear h18
  obtain ⟨rfl, h20⟩ := asNil_inv h19; clear h19
  intro J hJ
  have hp : ∀ c' ∈ subsOf (E.info 42).keep (body Try.f42 15), SubOK E (inlF (PA (ACall E)) E 8) (E.info 42).keep 0 Try.f42.ntmps (lofL Ll42r15) c' := all_eq (by kernel_rfl : subsOf (E.info 42).keep (body Try.f42 15) = []) (all_nil)
  exact h20.of (fun s1 s2 s3 s4 s5 s6 s7 => J [(43000015, .undef), (0, .d (.sl wIT) s1), (5, .vec 0), (8, B s2), (9, .vec 1), (44, .d (.sl wIT) s3), (45, I s4), (46, I s5)] [.row .bool s6 false, .row (.int .i64) s7 false]) (fun s1 s2 s3 s4 s5 s6 s7 hb => loop_round2 (S := ofL Sl42r15) (L := lofL Ll42r15) hSl42r15 (inlOK _) hp hJ (by kernel_rfl) hb)

abbrev Sl42r11 : List (Nat × Pat × Sp) := [(43, none, sp43)]
theorem hSl42r11 : SpecOK E (ofL Sl42r11) := specOK_cons h43 (specOK_nil)
abbrev Ll42r11 : List (Nat × List Nat × Pat × LSp) := [(43000015, [0, 5, 8, 9, 44, 45, 46], none, lsl42r15)]
def lsl42r11 : LSp := fun vs σ K => asCons vs fun a1 r1 => asD (.sl wIT) a1 fun s1 => asCons r1 fun a2 r2 => asP (.vec 0) a2 <| asCons r2 fun a3 r3 => asD .bool a3 fun s2 => asNil r3 <| asCons σ fun a4 r4 => asRw .bool false a4 fun s3 => asNil r4 <| l42r11 (fun z1 => K (.exit 2) [(5, .vec 0)] [.row .bool z1 false]) s1 s2 s3
theorem l42r11v : LoopV E (inlF (PA (ACall E)) E 8) (E.info 42).keep 0 Try.f42.ntmps 43000011 (body Try.f42 11) ([0, 5, 8], lsl42r11) := by
  intro vs σ K (h0 : lsl42r11 vs σ K)
  unfold lsl42r11 at h0
  obtain ⟨a1, r1, rfl, h1⟩ := asCons_inv h0; clear h0
  obtain ⟨s1, rfl, h2⟩ := asD_inv h1; clear h1
  obtain ⟨a2, r2, rfl, h3⟩ := asCons_inv h2; clear h2
  obtain ⟨rfl, h4⟩ := asP_inv h3; clear h3
  obtain ⟨a3, r3, rfl, h5⟩ := asCons_inv h4; clear h4
  obtain ⟨s2, rfl, h6⟩ := asD_inv h5; clear h5
  obtain ⟨rfl, h7⟩ := asNil_inv h6; clear h6
  obtain ⟨a4, r4, rfl, h8⟩ := asCons_inv h7; clear h7
  obtain ⟨s3, rfl, h9⟩ := asRw_inv h8; clear h8
  obtain ⟨rfl, h10⟩ := asNil_inv h9; clear h9
  intro J hJ
  have hp : ∀ c' ∈ subsOf (E.info 42).keep (body Try.f42 11), SubOK E (inlF (PA (ACall E)) E 8) (E.info 42).keep 0 Try.f42.ntmps (lofL Ll42r11) c' := all_eq (by kernel_rfl : subsOf (E.info 42).keep (body Try.f42 11) = [.loop (body Try.f42 15)]) (all_cons (loopOK_of (mk := 43000015) (sl := [0, 5, 8, 9, 44, 45, 46]) (ss := [([0, 5, 8, 9, 44, 45, 46], lsl42r15)]) (by kernel_rfl) (by kernel_rfl) (all_cons l42r15v (all_nil))) (all_nil))
  exact h10.of (fun s1 s2 s3 => J [(43000011, .undef), (0, .d (.sl wIT) s1), (5, .vec 0), (8, B s2)] [.row .bool s3 false]) (fun s1 s2 s3 hb => loop_round2 (S := ofL Sl42r11) (L := lofL Ll42r11) hSl42r11 (inlOK _) hp hJ (by kernel_rfl) hb)

abbrev S42 : List (Nat × Pat × Sp) := [(14, none, sp14)]
theorem hS42 : SpecOK E (ofL S42) := specOK_cons h14 (specOK_nil)
abbrev L42 : List (Nat × List Nat × Pat × LSp) := [(43000006, [0, 5, 20, 21, 22], none, lsl42r6), (43000011, [0, 5, 8], none, lsl42r11)]
def sp42 : Sp := fun args τ K => asCons args fun a1 r1 => asD (.sl wIT) a1 fun x1 => asNil r1 <| asNil τ <| c42 x1 (fun z1 z2 => K (.tup [.vec 0, I z1]) [.row .bool z2 false])
theorem h42 : ∀ args τ K, sp42 args τ K → ACall E 42 args τ K := by
  intro args τ K h0
  unfold sp42 at h0
  obtain ⟨a1, r1, rfl, h1⟩ := asCons_inv h0; clear h0
  obtain ⟨x1, rfl, h2⟩ := asD_inv h1; clear h1
  obtain ⟨rfl, h3⟩ := asNil_inv h2; clear h2
  obtain ⟨rfl, h4⟩ := asNil_inv h3; clear h3
  exact ACall.spec2 (fn := Try.f42) (c := codeOf Try.f42) (S := ofL S42) (L := lofL L42) hS42 (by kernel_rfl) (by kernel_rfl) (inlOK _) (all_eq (by kernel_rfl : subsOf (E.info 42).keep (codeOf Try.f42) = [.loop (body Try.f42 6), .loop (body Try.f42 11)]) (all_cons (loopOK_of (mk := 43000006) (sl := [0, 5, 20, 21, 22]) (ss := [([0, 5, 20, 21, 22], lsl42r6)]) (by kernel_rfl) (by kernel_rfl) (all_cons l42r6v (all_nil))) (all_cons (loopOK_of (mk := 43000011) (sl := [0, 5, 8]) (ss := [([0, 5, 8], lsl42r11)]) (by kernel_rfl) (by kernel_rfl) (all_cons l42r11v (all_nil))) (all_nil)))) (by kernel_rfl) h4.of

abbrev Sl28r5 : List (Nat × Pat × Sp) := []
theorem hSl28r5 : SpecOK E (ofL Sl28r5) := specOK_nil
abbrev Ll28r5 : List (Nat × List Nat × Pat × LSp) := []
def lsl28r5 : LSp := fun vs σ K => asCons vs fun a1 r1 => asD (.sl wIT) a1 fun s1 => asCons r1 fun a2 r2 => asD .bool a2 fun s2 => asCons r2 fun a3 r3 => asP (.vec 0) a3 <| asCons r3 fun a4 r4 => asD (.sl wIT) a4 fun s3 => asCons r4 fun a5 r5 => asD (.int .i64) a5 fun s4 => asCons r5 fun a6 r6 => asD (.int .i64) a6 fun s5 => asNil r6 <| asCons σ fun a7 r7 => asRw .bool false a7 fun s6 => asNil r7 <| l28r5 (fun z1 z2 => K (.exit 0) [(0, .d (.sl wIT) z1), (7, .vec 0)] [.row .bool z2 false]) s1 s2 s3 s4 s5 s6
theorem l28r5v : LoopV E (inlF (PA (ACall E)) E 8) (E.info 28).keep 0 Try.f28.ntmps 29000005 (body Try.f28 5) ([0, 1, 7, 27, 28, 29], lsl28r5) := by
  intro vs σ K (h0 : lsl28r5 vs σ K)
  unfold lsl28r5 at h0
  obtain ⟨a1, r1, rfl, h1⟩ := asCons_inv h0; clear h0
  obtain ⟨s1, rfl, h2⟩ := asD_inv h1; clear h1
  obtain ⟨a2, r2, rfl, h3⟩ := asCons_inv h2; clear h2
  obtain ⟨s2, rfl, h4⟩ := asD_inv h3; clear h3
  obtain ⟨a3, r3, rfl, h5⟩ := asCons_inv h4; clear h4
  obtain ⟨rfl, h6⟩ := asP_inv h5; clear h5
  obtain ⟨a4, r4, rfl, h7⟩ := asCons_inv h6; clear h6
  obtain ⟨s3, rfl, h8⟩ := asD_inv h7; clear h7
  obtain ⟨a5, r5, rfl, h9⟩ := asCons_inv h8; clear h8
  obtain ⟨s4, rfl, h10⟩ := asD_inv h9; clear h9
  obtain ⟨a6, r6, rfl, h11⟩ := asCons_inv h10; clear h10
  obtain ⟨s5, rfl, h12⟩ := asD_inv h11; clear h11
  obtain ⟨rfl, h13⟩ := asNil_inv h12; clear h12
  obtain ⟨a7, r7, rfl, h14⟩ := asCons_inv h13; clear h13
  obtain ⟨s6, rfl, h15⟩ := asRw_inv h14; clear h14
  obtain ⟨rfl, h16⟩ := asNil_inv h15; clear h15
  intro J hJ
  have hp : ∀ c' ∈ subsOf (E.info 28).keep (body Try.f28 5), SubOK E (inlF (PA (ACall E)) E 8) (E.info 28).keep 0 Try.f28.ntmps (lofL Ll28r5) c' := all_eq (by kernel_rfl : subsOf (E.info 28).keep (body Try.f28 5) = []) (all_nil)
  exact h16.of (fun s1 s2 s3 s4 s5 s6 => J [(29000005, .undef), (0, .d (.sl wIT) s1), (1, B s2), (7, .vec 0), (27, .d (.sl wIT) s3), (28, I s4), (29, I s5)] [.row .bool s6 false]) (fun s1 s2 s3 s4 s5 s6 hb => loop_round2 (S := ofL Sl28r5) (L := lofL Ll28r5) hSl28r5 (inlOK _) hp hJ (by kernel_rfl) hb)

abbrev S50 : List (Nat × Pat × Sp) := []
theorem hS50 : SpecOK E (ofL S50) := specOK_nil
abbrev L50 : List (Nat × List Nat × Pat × LSp) := []
def sp50 : Sp := fun args τ K => asCons args fun a1 r1 => asD opT a1 fun x1 => asNil r1 <| asNil τ <| c50 x1 (fun z1 => K (I z1) [])
theorem h50 : ∀ args τ K, sp50 args τ K → ACall E 50 args τ K := by
  intro args τ K h0
  unfold sp50 at h0
  obtain ⟨a1, r1, rfl, h1⟩ := asCons_inv h0; clear h0
  obtain ⟨x1, rfl, h2⟩ := asD_inv h1; clear h1
  obtain ⟨rfl, h3⟩ := asNil_inv h2; clear h2
  obtain ⟨rfl, h4⟩ := asNil_inv h3; clear h3
  exact ACall.spec2 (fn := Try.f50) (c := codeOf Try.f50) (S := ofL S50) (L := lofL L50) hS50 (by kernel_rfl) (by kernel_rfl) (inlOK _) (all_eq (by kernel_rfl : subsOf (E.info 50).keep (codeOf Try.f50) = []) (all_nil)) (by kernel_rfl) h4.of

abbrev S45 : List (Nat × Pat × Sp) := [(26, none, sp26), (50, none, sp50)]
theorem hS45 : SpecOK E (ofL S45) := specOK_cons h26 (specOK_cons h50 (specOK_nil))
abbrev L45 : List (Nat × List Nat × Pat × LSp) := []
def sp45 : Sp := fun args τ K => asCons args fun a1 r1 => asD opT a1 fun x1 => asNil r1 <| asNil τ <| c45 x1 (fun z1 z2 => K (.tup [.vec 0, I z1]) [.row (.int .i64) z2 false])
theorem h45 : ∀ args τ K, sp45 args τ K → ACall E 45 args τ K := by
  intro args τ K h0
  unfold sp45 at h0
  obtain ⟨a1, r1, rfl, h1⟩ := asCons_inv h0; clear h0
  obtain ⟨x1, rfl, h2⟩ := asD_inv h1; clear h1
  obtain ⟨rfl, h3⟩ := asNil_inv h2; clear h2
  obtain ⟨rfl, h4⟩ := asNil_inv h3; clear h3
  exact ACall.spec2 (fn := Try.f45) (c := codeOf Try.f45) (S := ofL S45) (L := lofL L45) hS45 (by kernel_rfl) (by kernel_rfl) (inlOK _) (all_eq (by kernel_rfl : subsOf (E.info 45).keep (codeOf Try.f45) = []) (all_nil)) (by kernel_rfl) h4.of

abbrev S44 : List (Nat × Pat × Sp) := [(26, none, sp26), (49, none, sp49), (45, none, sp45), (50, none, sp50)]
theorem hS44 : SpecOK E (ofL S44) := specOK_cons h26 (specOK_cons h49 (specOK_cons h45 (specOK_cons h50 (specOK_nil))))
abbrev L44 : List (Nat × List Nat × Pat × LSp) := []
def sp44 : Sp := fun args τ K => asCons args fun a1 r1 => asD opT a1 fun x1 => asNil r1 <| asNil τ <| c44 x1 (fun z1 z2 => K (.tup [.vec 0, I z1]) [.row (.int .i64) z2 false])
theorem h44 : ∀ args τ K, sp44 args τ K → ACall E 44 args τ K := by
  intro args τ K h0
  unfold sp44 at h0
  obtain ⟨a1, r1, rfl, h1⟩ := asCons_inv h0; clear h0
  obtain ⟨x1, rfl, h2⟩ := asD_inv h1; clear h1
  obtain ⟨rfl, h3⟩ := asNil_inv h2; clear h2
  obtain ⟨rfl, h4⟩ := asNil_inv h3; clear h3
  exact ACall.spec2 (fn := Try.f44) (c := codeOf Try.f44) (S := ofL S44) (L := lofL L44) hS44 (by kernel_rfl) (by kernel_rfl) (inlOK _) (all_eq (by kernel_rfl : subsOf (E.info 44).keep (codeOf Try.f44) = []) (all_nil)) (by kernel_rfl) h4.of

abbrev Sl28r14 : List (Nat × Pat × Sp) := [(45, none, sp45), (44, none, sp44)]
theorem hSl28r14 : SpecOK E (ofL Sl28r14) := specOK_cons h45 (specOK_cons h44 (specOK_nil))
abbrev Ll28r14 : List (Nat × List Nat × Pat × LSp) := []
def lsl28r14 : LSp := fun vs σ K => asCons vs fun a1 r1 => asD (.sl wIT) a1 fun s1 => asCons r1 fun a2 r2 => asP (.vec 0) a2 <| asCons r2 fun a3 r3 => asP (.vec 1) a3 <| asCons r3 fun a4 r4 => asP (.vec 2) a4 <| asCons r4 fun a5 r5 => asD (.sl wIT) a5 fun s2 => asCons r5 fun a6 r6 => asD (.int .i64) a6 fun s3 => asCons r6 fun a7 r7 => asD (.int .i64) a7 fun s4 => asNil r7 <| asCons σ fun a8 r8 => asRw .bool false a8 fun s5 => asCons r8 fun a9 r9 => asRw (.int .i64) false a9 fun s6 => asCons r9 fun a10 r10 => asRw (.int .i64) false a10 fun s7 => asNil r10 <| l28r14 (fun z1 z2 z3 => K .ret [(0, .undef), (4, .vec 0), (5, .vec 1), (6, I z1), (11, .undef), (12, .undef)] [.row (.int .i64) z2 false, .row (.int .i64) z3 false]) (fun z1 z2 z3 => K (.exit 2) [(0, .d (.sl wIT) z1), (4, .undef), (5, .undef), (6, .undef), (11, .vec 0), (12, .vec 1)] [.row (.int .i64) z2 false, .row (.int .i64) z3 false]) s1 s2 s3 s4 s5 s6 s7
theorem l28r14v : LoopV E (inlF (PA (ACall E)) E 8) (E.info 28).keep 0 Try.f28.ntmps 29000014 (body Try.f28 14) ([0, 7, 11, 12, 59, 60, 61], lsl28r14) := by
  intro vs σ K (h0 : lsl28r14 vs σ K)
  unfold lsl28r14 at h0
  obtain ⟨a1, r1, rfl, h1⟩ := asCons_inv h0; clear h0
  obtain ⟨s1, rfl, h2⟩ := asD_inv h1; clear h1
  obtain ⟨a2, r2, rfl, h3⟩ := asCons_inv h2; clear h2
  obtain ⟨rfl, h4⟩ := asP_inv h3; clear h3
  obtain ⟨a3, r3, rfl, h5⟩ := asCons_inv h4; clear h4
  obtain ⟨rfl, h6⟩ := asP_inv h5; clear h5
  obtain ⟨a4, r4, rfl, h7⟩ := asCons_inv h6; clear h6
  obtain ⟨rfl, h8⟩ := asP_inv h7; clear h7
  obtain ⟨a5, r5, rfl, h9⟩ := asCons_inv h8; clear h8
  obtain ⟨s2, rfl, h10⟩ := asD_inv h9; clear h9
  obtain ⟨a6, r6, rfl, h11⟩ := asCons_inv h10; clear h10
  obtain ⟨s3, rfl, h12⟩ := asD_inv h11; clear h11
  obtain ⟨a7, r7, rfl, h13⟩ := asCons_inv h12; clear h12
  obtain ⟨s4, rfl, h14⟩ := asD_inv h13; clear h13
  obtain ⟨rfl, h15⟩ := asNil_inv h14; clear h14
  obtain ⟨a8, r8, rfl, h16⟩ := asCons_inv h15; clear h15
  obtain ⟨s5, rfl, h17⟩ := asRw_inv h16; clear h16
  obtain ⟨a9, r9, rfl, h18⟩ := asCons_inv h17; clear h17
  obtain ⟨s6, rfl, h19⟩ := asRw_inv h18; clear h18
  obtain ⟨a10, r10, rfl, h20⟩ := asCons_inv h19; clear h19
  obtain ⟨s7, rfl, h21⟩ := asRw_inv h20; clear h20
  obtain ⟨rfl, h22⟩ := asNil_inv h21; clear h21
  intro J hJ
  have hp : ∀ c' ∈ subsOf (E.info 28).keep (body Try.f28 14), SubOK E (inlF (PA (ACall E)) E 8) (E.info 28).keep 0 Try.f28.ntmps (lofL Ll28r14) c' := all_eq (by kernel_rfl : subsOf (E.info 28).keep (body Try.f28 14) = []) (all_nil)
  exact h22.of (fun s1 s2 s3 s4 s5 s6 s7 => J [(29000014, .undef), (0, .d (.sl wIT) s1), (7, .vec 0), (11, .vec 1), (12, .vec 2), (59, .d (.sl wIT) s2), (60, I s3), (61, I s4)] [.row .bool s5 false, .row (.int .i64) s6 false, .row (.int .i64) s7 false]) (fun s1 s2 s3 s4 s5 s6 s7 hb => loop_round2 (S := ofL Sl28r14) (L := lofL Ll28r14) hSl28r14 (inlOK _) hp hJ (by kernel_rfl) hb)

abbrev S28 : List (Nat × Pat × Sp) := [(42, none, sp42), (43, none, sp43)]
theorem hS28 : SpecOK E (ofL S28) := specOK_cons h42 (specOK_cons h43 (specOK_nil))
abbrev L28 : List (Nat × List Nat × Pat × LSp) := [(29000005, [0, 1, 7, 27, 28, 29], none, lsl28r5), (29000014, [0, 7, 11, 12, 59, 60, 61], none, lsl28r14)]
def sp28 : Sp := fun args τ K => asCons args fun a1 r1 => asD (.sl wIT) a1 fun x1 => asCons r1 fun a2 r2 => asD .bool a2 fun x2 => asNil r2 <| asNil τ <| c28 x1 x2 (fun z1 z2 z3 => K (.tup [.vec 0, .vec 1, I z1]) [.row (.int .i64) z2 false, .row (.int .i64) z3 false]) (fun z1 z2 z3 z4 z5 z6 => K (.tup [.vec 0, .sl 1 z1 z2 z3 false, I z4]) [.row (.int .i64) z5 false, .row (.int .i64) z6 false])
theorem h28 : ∀ args τ K, sp28 args τ K → ACall E 28 args τ K := by
  intro args τ K h0
  unfold sp28 at h0
  obtain ⟨a1, r1, rfl, h1⟩ := asCons_inv h0; clear h0
  obtain ⟨x1, rfl, h2⟩ := asD_inv h1; clear h1
  obtain ⟨a2, r2, rfl, h3⟩ := asCons_inv h2; clear h2
  obtain ⟨x2, rfl, h4⟩ := asD_inv h3; clear h3
  obtain ⟨rfl, h5⟩ := asNil_inv h4; clear h4
  obtain ⟨rfl, h6⟩ := asNil_inv h5; clear h5
  exact ACall.spec2 (fn := Try.f28) (c := codeOf Try.f28) (S := ofL S28) (L := lofL L28) hS28 (by kernel_rfl) (by kernel_rfl) (inlOK _) (all_eq (by kernel_rfl : subsOf (E.info 28).keep (codeOf Try.f28) = [.loop (body Try.f28 5), .loop (body Try.f28 14)]) (all_cons (loopOK_of (mk := 29000005) (sl := [0, 1, 7, 27, 28, 29]) (ss := [([0, 1, 7, 27, 28, 29], lsl28r5)]) (by kernel_rfl) (by kernel_rfl) (all_cons l28r5v (all_nil))) (all_cons (loopOK_of (mk := 29000014) (sl := [0, 7, 11, 12, 59, 60, 61]) (ss := [([0, 7, 11, 12, 59, 60, 61], lsl28r14)]) (by kernel_rfl) (by kernel_rfl) (all_cons l28r14v (all_nil))) (all_nil)))) (by kernel_rfl) h6.of

abbrev Sl19r5 : List (Nat × Pat × Sp) := []
theorem hSl19r5 : SpecOK E (ofL Sl19r5) := specOK_nil
abbrev Ll19r5 : List (Nat × List Nat × Pat × LSp) := []
def lsl19r5 : LSp := fun vs σ K => asCons vs fun a1 r1 => asP (.ptr 0 0 []) a1 <| asCons r1 fun a2 r2 => asD (.sl wLF) a2 fun s1 => asCons r2 fun a3 r3 => asP (.vec 4) a3 <| asCons r3 fun a4 r4 => asP (.ptr 5 0 []) a4 <| asCons r4 fun a5 r5 => asP (.vec 10) a5 <| asCons r5 fun a6 r6 => asP (.vec 11) a6 <| asCons r6 fun a7 r7 => asP (.vec 3) a7 <| asCons r7 fun a8 r8 => asD (.int .i64) a8 fun s2 => asCons r8 fun a9 r9 => asD (.int .i64) a9 fun s3 => asNil r9 <| asCons σ fun a10 r10 => asOne (.pair (.sl wIT) (.pair (.sl (.int .i64)) (.pair (.sl (.arr 2 (.int .i64))) .unit))) a10 fun a11 => asAgL a11 fun l12 => asCons l12 fun a13 r13 => asP (.vec 1) a13 <| asCons r13 fun a14 r14 => asP (.vec 2) a14 <| asCons r14 fun a15 r15 => asP (.vec 3) a15 <| asNil r15 <| asCons r10 fun a16 r16 => asRw wIT false a16 fun s4 => asCons r16 fun a17 r17 => asRw (.int .i64) false a17 fun s5 => asCons r17 fun a18 r18 => asRw (.arr 2 (.int .i64)) false a18 fun s6 => asCons r18 fun a19 r19 => asRw (.int .i64) false a19 fun s7 => asCons r19 fun a20 r20 => asOne (.pair (.sl (.int .i64)) (.pair (.int .i64) (.pair (.sl (.int .i64)) (.pair (.sl (.pair (.int .i64) (.pair (.int .i64) (.pair (.sl (.int .i64)) (.pair (.int .i64) .unit))))) (.pair (.sl (.pair (.int .i64) (.pair (.int .i64) (.pair (.int .i64) (.pair (.sl (.pair .str wCL)) .unit))))) .unit))))) a20 fun a21 => asAgL a21 fun l22 => asCons l22 fun a23 r23 => asP (.vec 6) a23 <| asCons r23 fun a24 r24 => asD (.int .i64) a24 fun s8 => asCons r24 fun a25 r25 => asP (.vec 7) a25 <| asCons r25 fun a26 r26 => asP (.vec 8) a26 <| asCons r26 fun a27 r27 => asP (.vec 9) a27 <| asNil r27 <| asCons r20 fun a28 r28 => asRw (.int .i64) false a28 fun s9 => asCons r28 fun a29 r29 => asRw (.int .i64) false a29 fun s10 => asCons r29 fun a30 r30 => asRw (.pair (.int .i64) (.pair (.int .i64) (.pair (.sl (.int .i64)) (.pair (.int .i64) .unit)))) false a30 fun s11 => asCons r30 fun a31 r31 => asRw (.pair (.int .i64) (.pair (.int .i64) (.pair (.int .i64) (.pair (.sl (.pair .str wCL)) .unit)))) false a31 fun s12 => asCons r31 fun a32 r32 => asRw (.int .i64) false a32 fun s13 => asCons r32 fun a33 r33 => asRw (.int .i64) false a33 fun s14 => asNil r33 <| l19r5 (fun z1 z2 z3 z4 z5 z6 z7 z8 z9 z10 z11 z12 => K (.exit 0) [(0, .ptr 0 0 []), (1, .d (.sl wLF) z1), (2, .vec 4), (8, .ptr 5 0 []), (11, .vec 10), (12, .vec 11)] [.one (.pair (.sl wIT) (.pair (.sl (.int .i64)) (.pair (.sl (.arr 2 (.int .i64))) .unit))) (.agg [.vec 1, .vec 2, .vec 3]), .row wIT z2 false, .row (.int .i64) z3 false, .row (.arr 2 (.int .i64)) z4 false, .row (.int .i64) z5 false, .one (.pair (.sl (.int .i64)) (.pair (.int .i64) (.pair (.sl (.int .i64)) (.pair (.sl (.pair (.int .i64) (.pair (.int .i64) (.pair (.sl (.int .i64)) (.pair (.int .i64) .unit))))) (.pair (.sl (.pair (.int .i64) (.pair (.int .i64) (.pair (.int .i64) (.pair (.sl (.pair .str wCL)) .unit))))) .unit))))) (.agg [.vec 6, I z6, .vec 7, .vec 8, .vec 9]), .row (.int .i64) z7 false, .row (.int .i64) z8 false, .row (.pair (.int .i64) (.pair (.int .i64) (.pair (.sl (.int .i64)) (.pair (.int .i64) .unit)))) z9 false, .row (.pair (.int .i64) (.pair (.int .i64) (.pair (.int .i64) (.pair (.sl (.pair .str wCL)) .unit)))) z10 false, .row (.int .i64) z11 false, .row (.int .i64) z12 false]) s1 s2 s3 s4 s5 s6 s7 s8 s9 s10 s11 s12 s13 s14
theorem l19r5v : LoopV E (inlF (PA (ACall E)) E 8) (E.info 19).keep 5 Try.f19.ntmps 20000005 (body Try.f19 5) ([0, 1, 2, 8, 11, 12, 38, 39, 40], lsl19r5) := by
  intro vs σ K (h0 : lsl19r5 vs σ K)
  unfold lsl19r5 at h0
  obtain ⟨a1, r1, rfl, h1⟩ := asCons_inv h0; clear h0
  obtain ⟨rfl, h2⟩ := asP_inv h1; clear h1
  obtain ⟨a2, r2, rfl, h3⟩ := asCons_inv h2; clear h2
  obtain ⟨s1, rfl, h4⟩ := asD_inv h3; clear h3
  obtain ⟨a3, r3, rfl, h5⟩ := asCons_inv h4; clear h4
  obtain ⟨rfl, h6⟩ := asP_inv h5; clear h5
  obtain ⟨a4, r4, rfl, h7⟩ := asCons_inv h6; clear h6
  obtain ⟨rfl, h8⟩ := asP_inv h7; clear h7
  obtain ⟨a5, r5, rfl, h9⟩ := asCons_inv h8; clear h8
  obtain ⟨rfl, h10⟩ := asP_inv h9; clear h9
  obtain ⟨a6, r6, rfl, h11⟩ := asCons_inv h10; clear h10
  obtain ⟨rfl, h12⟩ := asP_inv h11; clear h11
  obtain ⟨a7, r7, rfl, h13⟩ := asCons_inv h12; clear h12
  obtain ⟨rfl, h14⟩ := asP_inv h13; clear h13
  obtain ⟨a8, r8, rfl, h15⟩ := asCons_inv h14; clear h14
  obtain ⟨s2, rfl, h16⟩ := asD_inv h15; clear h15
  obtain ⟨a9, r9, rfl, h17⟩ := asCons_inv h16; clear h16
  obtain ⟨s3, rfl, h18⟩ := asD_inv h17; clear h17
  obtain ⟨rfl, h19⟩ := asNil_inv h18; clear h18
  obtain ⟨a10, r10, rfl, h20⟩ := asCons_inv h19; clear h19
  obtain ⟨a11, rfl, h21⟩ := asOne_inv h20; clear h20
  obtain ⟨l12, rfl, h22⟩ := asAgL_inv h21; clear h21
  obtain ⟨a13, r13, rfl, h23⟩ := asCons_inv h22; clear h22
  obtain ⟨rfl, h24⟩ := asP_inv h23; clear h23
  obtain ⟨a14, r14, rfl, h25⟩ := asCons_inv h24; clear h24
  obtain ⟨rfl, h26⟩ := asP_inv h25; clear h25
  obtain ⟨a15, r15, rfl, h27⟩ := asCons_inv h26; clear h26
  obtain ⟨rfl, h28⟩ := asP_inv h27; clear h27
  obtain ⟨rfl, h29⟩ := asNil_inv h28; clear h28
  obtain ⟨a16, r16, rfl, h30⟩ := asCons_inv h29; clear h29
  obtain ⟨s4, rfl, h31⟩ := asRw_inv h30; clear h30
  obtain ⟨a17, r17, rfl, h32⟩ := asCons_inv h31; clear h31
  obtain ⟨s5, rfl, h33⟩ := asRw_inv h32; clear h32
  obtain ⟨a18, r18, rfl, h34⟩ := asCons_inv h33; clear h33
  obtain ⟨s6, rfl, h35⟩ := asRw_inv h34; clear h34
  obtain ⟨a19, r19, rfl, h36⟩ := asCons_inv h35; clear h35
  obtain ⟨s7, rfl, h37⟩ := asRw_inv h36; clear h36
  obtain ⟨a20, r20, rfl, h38⟩ := asCons_inv h37; clear h37
  obtain ⟨a21, rfl, h39⟩ := asOne_inv h38; clear h38
  obtain ⟨l22, rfl, h40⟩ := asAgL_inv h39; clear h39
  obtain ⟨a23, r23, rfl, h41⟩ := asCons_inv h40; clear h40
  obtain ⟨rfl, h42⟩ := asP_inv h41; clear h41
  obtain ⟨a24, r24, rfl, h43⟩ := asCons_inv h42; clear h42
  obtain ⟨s8, rfl, h44⟩ := asD_inv h43; clear h43
  obtain ⟨a25, r25, rfl, h45⟩ := asCons_inv h44; clear h44
  obtain ⟨rfl, h46⟩ := asP_inv h45; clear h45
  obtain ⟨a26, r26, rfl, h47⟩ := asCons_inv h46; clear h46
  obtain ⟨rfl, h48⟩ := asP_inv h47; clear h47
  obtain ⟨a27, r27, rfl, h49⟩ := asCons_inv h48; clear h48
  obtain ⟨rfl, h50⟩ := asP_inv h49; clear h49
  obtain ⟨rfl, h51⟩ := asNil_inv h50; clear h50
  obtain ⟨a28, r28, rfl, h52⟩ := asCons_inv h51; clear h51
  obtain ⟨s9, rfl, h53⟩ := asRw_inv h52; clear h52
  obtain ⟨a29, r29, rfl, h54⟩ := asCons_inv h53; clear h53
  obtain ⟨s10, rfl, h55⟩ := asRw_inv h54; clear h54
  obtain ⟨a30, r30, rfl, h56⟩ := asCons_inv h55; clear h55
  obtain ⟨s11, rfl, h57⟩ := asRw_inv h56; clear h56
  obtain ⟨a31, r31, rfl, h58⟩ := asCons_inv h57; clear h57
  obtain ⟨s12, rfl, h59⟩ := asRw_inv h58; clear h58
  obtain ⟨a32, r32, rfl, h60⟩ := asCons_inv h59; clear h59
  obtain ⟨s13, rfl, h61⟩ := asRw_inv h60; clear h60
  obtain ⟨a33, r33, rfl, h62⟩ := asCons_inv h61; clear h61
  obtain ⟨s14, rfl, h63⟩ := asRw_inv h62; clear h62
  obtain ⟨rfl, h64⟩ := asNil_inv h63; clear h63
  intro J hJ
  have hp : ∀ c' ∈ subsOf (E.info 19).keep (body Try.f19 5), SubOK E (inlF (PA (ACall E)) E 8) (E.info 19).keep 5 Try.f19.ntmps (lofL Ll19r5) c' := all_eq (by kernel_rfl : subsOf (E.info 19).keep (body Try.f19 5) = []) (all_nil)
  exact h64.of (fun s1 s2 s3 s4 s5 s6 s7 s8 s9 s10 s11 s12 s13 s14 => J [(20000005, .undef), (0, .ptr 0 0 []), (1, .d (.sl wLF) s1), (2, .vec 4), (8, .ptr 5 0 []), (11, .vec 10), (12, .vec 11), (38, .vec 3), (39, I s2), (40, I s3)] [.one (.pair (.sl wIT) (.pair (.sl (.int .i64)) (.pair (.sl (.arr 2 (.int .i64))) .unit))) (.agg [.vec 1, .vec 2, .vec 3]), .row wIT s4 false, .row (.int .i64) s5 false, .row (.arr 2 (.int .i64)) s6 false, .row (.int .i64) s7 false, .one (.pair (.sl (.int .i64)) (.pair (.int .i64) (.pair (.sl (.int .i64)) (.pair (.sl (.pair (.int .i64) (.pair (.int .i64) (.pair (.sl (.int .i64)) (.pair (.int .i64) .unit))))) (.pair (.sl (.pair (.int .i64) (.pair (.int .i64) (.pair (.int .i64) (.pair (.sl (.pair .str wCL)) .unit))))) .unit))))) (.agg [.vec 6, I s8, .vec 7, .vec 8, .vec 9]), .row (.int .i64) s9 false, .row (.int .i64) s10 false, .row (.pair (.int .i64) (.pair (.int .i64) (.pair (.sl (.int .i64)) (.pair (.int .i64) .unit)))) s11 false, .row (.pair (.int .i64) (.pair (.int .i64) (.pair (.int .i64) (.pair (.sl (.pair .str wCL)) .unit)))) s12 false, .row (.int .i64) s13 false, .row (.int .i64) s14 false]) (fun s1 s2 s3 s4 s5 s6 s7 s8 s9 s10 s11 s12 s13 s14 hb => loop_round2 (S := ofL Sl19r5) (L := lofL Ll19r5) hSl19r5 (inlOK _) hp hJ (by kernel_rfl) hb)

end Go.Proofs.Ytmafnkmdnajicaa
