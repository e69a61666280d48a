/- The functions compute that (printed by a program). -/
import Derived.Test.YtfdoaacapkopmaaAEnvC
import Derived.Test.YtfdoaacapkopmaaAD6
namespace Go.Proofs.Ytfdoaacapkopmaa
open Go.Abs
set_option maxRecDepth 100000
set_option maxHeartbeats 4000000
set_option linter.unusedVariables false
abbrev S107 : List (Nat × Sp) := []
theorem hS107 : SpecOK E (ofL S107) := specOK_nil
abbrev L107 : List (Nat × List Nat × LSp) := []
def sp107 : Sp := fun args τ K => asCons args fun a1 r1 => asD (.int .i64) a1 fun x1 => asNil r1 <| asNil τ <| c107 x1 (fun z1 => K (B z1) [])
theorem h107 : ∀ args τ K, sp107 args τ K → ACall E 107 args τ K := by
  intro args τ K h0
  unfold sp107 at h0
  obtain ⟨a1, r1, rfl, h1⟩ := asCons_inv h0
  obtain ⟨x1, rfl, h2⟩ := asD_inv h1
  obtain ⟨rfl, h3⟩ := asNil_inv h2
  obtain ⟨rfl, h4⟩ := asNil_inv h3
  exact ACall.spec (fn := Try.f107) (c := codeOf Try.f107) (S := ofL S107) (L := lofL L107) hS107 (by kernel_rfl) (by kernel_rfl) (inlOK _) (all_eq (by kernel_rfl : loopsOf (codeOf Try.f107) = []) (all_nil)) (to _ (by kernel_rfl) h4.of)
abbrev S81 : List (Nat × Sp) := []
theorem hS81 : SpecOK E (ofL S81) := specOK_nil
abbrev L81 : List (Nat × List Nat × LSp) := []
def sp81 : Sp := fun args τ K => asCons args fun a1 r1 => asD opT a1 fun x1 => asNil r1 <| asNil τ <| c81 x1 (fun z1 => K (I z1) [])
theorem h81 : ∀ args τ K, sp81 args τ K → ACall E 81 args τ K := by
  intro args τ K h0
  unfold sp81 at h0
  obtain ⟨a1, r1, rfl, h1⟩ := asCons_inv h0
  obtain ⟨x1, rfl, h2⟩ := asD_inv h1
  obtain ⟨rfl, h3⟩ := asNil_inv h2
  obtain ⟨rfl, h4⟩ := asNil_inv h3
  exact ACall.spec (fn := Try.f81) (c := codeOf Try.f81) (S := ofL S81) (L := lofL L81) hS81 (by kernel_rfl) (by kernel_rfl) (inlOK _) (all_eq (by kernel_rfl : loopsOf (codeOf Try.f81) = []) (all_nil)) (to _ (by kernel_rfl) h4.of)
abbrev Sl140r1 : List (Nat × Sp) := []
theorem hSl140r1 : SpecOK E (ofL Sl140r1) := specOK_nil
abbrev Ll140r1 : List (Nat × List Nat × LSp) := []
def ls140r1 : LSp := fun vs σ K => asCons vs fun a1 r1 => asP (.ptr 0 0 []) a1 <| asCons r1 fun a2 r2 => asD (.sl (.int .i64)) a2 fun s1 => asCons r2 fun a3 r3 => asD (.int .i64) a3 fun s2 => asCons r3 fun a4 r4 => asD (.int .i64) a4 fun s3 => asNil r4 <| asCons σ fun a5 r5 => asOne (.sl (.int .i64)) a5 fun a6 => asP (.vec 1) a6 <| asCons r5 fun a7 r7 => asRw (.int .i64) false a7 fun s4 => asNil r7 <| l140r1 (fun z1 => K (.exit 0) [] [.one (.sl (.int .i64)) (.vec 1), .row (.int .i64) z1 false]) s1 s2 s3 s4

abbrev S140 : List (Nat × Sp) := []
theorem hS140 : SpecOK E (ofL S140) := specOK_nil
abbrev L140 : List (Nat × List Nat × LSp) := [(141000001, [1, 5, 6, 7], ls140r1)]
theorem l140r1ok : LoopOK E (inlF (PA (ACall E)) E 8) (E.info 140).keep 1 Try.f140.ntmps (lofL L140) (body Try.f140 1) := by
  refine loopOK_of (mk := 141000001) (sl := [1, 5, 6, 7]) (s := ls140r1) (by kernel_rfl) (by kernel_rfl) ?_
  intro vs σ K h0 _
  unfold ls140r1 at h0
  obtain ⟨a1, r1, rfl, h1⟩ := asCons_inv h0
  obtain ⟨rfl, h2⟩ := asP_inv h1
  obtain ⟨a2, r2, rfl, h3⟩ := asCons_inv h2
  obtain ⟨s1, rfl, h4⟩ := asD_inv h3
  obtain ⟨a3, r3, rfl, h5⟩ := asCons_inv h4
  obtain ⟨s2, rfl, h6⟩ := asD_inv h5
  obtain ⟨a4, r4, rfl, h7⟩ := asCons_inv h6
  obtain ⟨s3, rfl, h8⟩ := asD_inv h7
  obtain ⟨rfl, h9⟩ := asNil_inv h8
  obtain ⟨a5, r5, rfl, h10⟩ := asCons_inv h9
  obtain ⟨a6, rfl, h11⟩ := asOne_inv h10
  obtain ⟨rfl, h12⟩ := asP_inv h11
  obtain ⟨a7, r7, rfl, h13⟩ := asCons_inv h12
  obtain ⟨s4, rfl, h14⟩ := asRw_inv h13
  obtain ⟨rfl, h15⟩ := asNil_inv h14
  intro J hJ
  exact h15.of (fun s1 s2 s3 s4 => J [(141000001, .undef), (1, .ptr 0 0 []), (5, .d (.sl (.int .i64)) s1), (6, I s2), (7, I s3)] [.one (.sl (.int .i64)) (.vec 1), .row (.int .i64) s4 false]) (fun s1 s2 s3 s4 hb => loop_round (S := ofL Sl140r1) (L := lofL Ll140r1) hSl140r1 (inlOK _) (all_eq (by kernel_rfl : loopsOf (body Try.f140 1) = []) (all_nil)) hJ (to _ (by kernel_rfl) hb))
def sp140 : Sp := fun args τ K => asCons args fun a1 r1 => asD (.sl (.int .i64)) a1 fun x1 => asCons r1 fun a2 r2 => asP (.ptr 0 0 []) a2 <| asNil r2 <| asCons τ fun a3 r3 => asOne (.sl (.int .i64)) a3 fun a4 => asP (.nils (.int .i64)) a4 <| asNil r3 <| c140 x1 (fun z1 => K (.tup []) [.one (.sl (.int .i64)) (.vec 1), .row (.int .i64) z1 false])
theorem h140 : ∀ args τ K, sp140 args τ K → ACall E 140 args τ K := by
  intro args τ K h0
  unfold sp140 at h0
  obtain ⟨a1, r1, rfl, h1⟩ := asCons_inv h0
  obtain ⟨x1, rfl, h2⟩ := asD_inv h1
  obtain ⟨a2, r2, rfl, h3⟩ := asCons_inv h2
  obtain ⟨rfl, h4⟩ := asP_inv h3
  obtain ⟨rfl, h5⟩ := asNil_inv h4
  obtain ⟨a3, r3, rfl, h6⟩ := asCons_inv h5
  obtain ⟨a4, rfl, h7⟩ := asOne_inv h6
  obtain ⟨rfl, h8⟩ := asP_inv h7
  obtain ⟨rfl, h9⟩ := asNil_inv h8
  exact ACall.spec (fn := Try.f140) (c := codeOf Try.f140) (S := ofL S140) (L := lofL L140) hS140 (by kernel_rfl) (by kernel_rfl) (inlOK _) (all_eq (by kernel_rfl : loopsOf (codeOf Try.f140) = [body Try.f140 1]) (all_cons l140r1ok (all_nil))) (to _ (by kernel_rfl) h9.of)
abbrev S83 : List (Nat × Sp) := [(140, sp140)]
theorem hS83 : SpecOK E (ofL S83) := specOK_cons h140 (specOK_nil)
abbrev L83 : List (Nat × List Nat × LSp) := []
def sp83 : Sp := fun args τ K => asCons args fun a1 r1 => asD opT a1 fun x1 => asNil r1 <| asNil τ <| c83 x1 (fun z1 => K (.vec 0) [.row (.int .i64) z1 false])
theorem h83 : ∀ args τ K, sp83 args τ K → ACall E 83 args τ K := by
  intro args τ K h0
  unfold sp83 at h0
  obtain ⟨a1, r1, rfl, h1⟩ := asCons_inv h0
  obtain ⟨x1, rfl, h2⟩ := asD_inv h1
  obtain ⟨rfl, h3⟩ := asNil_inv h2
  obtain ⟨rfl, h4⟩ := asNil_inv h3
  exact ACall.spec (fn := Try.f83) (c := codeOf Try.f83) (S := ofL S83) (L := lofL L83) hS83 (by kernel_rfl) (by kernel_rfl) (inlOK _) (all_eq (by kernel_rfl : loopsOf (codeOf Try.f83) = []) (all_nil)) (to _ (by kernel_rfl) h4.of)
abbrev Sl36r7 : List (Nat × Sp) := []
theorem hSl36r7 : SpecOK E (ofL Sl36r7) := specOK_nil
abbrev Ll36r7 : List (Nat × List Nat × LSp) := []
def ls36r7 : LSp := fun vs σ K => asCons vs fun a1 r1 => asP (.ptr 0 0 []) a1 <| asCons r1 fun a2 r2 => asP (.ptr 1 0 []) a2 <| asCons r2 fun a3 r3 => asD (.int .i64) a3 fun s1 => asCons r3 fun a4 r4 => asD (.int .i64) a4 fun s2 => asCons r4 fun a5 r5 => asP (.vec 2) a5 <| asCons r5 fun a6 r6 => asD (.int .i64) a6 fun s3 => asCons r6 fun a7 r7 => asD (.int .i64) a7 fun s4 => asNil r7 <| asCons σ fun a8 r8 => asOne opT a8 fun a9 => asD opT a9 fun s5 => asCons r8 fun a10 r10 => asOne opT a10 fun a11 => asD opT a11 fun s6 => asCons r10 fun a12 r12 => asRw (.int .i64) false a12 fun s7 => asNil r12 <| l36r7 (fun z1 => K .ret [(2, .undef), (3, .undef), (4, B z1), (6, .undef)] []) (fun z1 z2 z3 => K (.exit 0) [(2, .ptr 0 0 []), (3, .ptr 1 0 []), (4, .undef), (6, I z1)] [.one opT (.d opT z2), .one opT (.d opT z3)]) s1 s2 s3 s4 s5 s6 s7

abbrev Sl36r13 : List (Nat × Sp) := []
theorem hSl36r13 : SpecOK E (ofL Sl36r13) := specOK_nil
abbrev Ll36r13 : List (Nat × List Nat × LSp) := []
def ls36r13 : LSp := fun vs σ K => asCons vs fun a1 r1 => asP (.ptr 0 0 []) a1 <| asCons r1 fun a2 r2 => asP (.ptr 1 0 []) a2 <| asCons r2 fun a3 r3 => asD (.int .i64) a3 fun s1 => asCons r3 fun a4 r4 => asP (.vec 2) a4 <| asCons r4 fun a5 r5 => asD (.int .i64) a5 fun s2 => asCons r5 fun a6 r6 => asD (.int .i64) a6 fun s3 => asNil r6 <| asCons σ fun a7 r7 => asOne opT a7 fun a8 => asD opT a8 fun s4 => asCons r7 fun a9 r9 => asOne opT a9 fun a10 => asD opT a10 fun s5 => asCons r9 fun a11 r11 => asRw (.int .i64) false a11 fun s6 => asNil r11 <| l36r13 (fun z1 => K .ret [(2, .undef), (3, .undef), (4, B z1)] []) (fun z1 z2 => K (.exit 2) [(2, .ptr 0 0 []), (3, .ptr 1 0 []), (4, .undef)] [.one opT (.d opT z1), .one opT (.d opT z2)]) s1 s2 s3 s4 s5 s6

abbrev S108 : List (Nat × Sp) := []
theorem hS108 : SpecOK E (ofL S108) := specOK_nil
abbrev L108 : List (Nat × List Nat × LSp) := []
def sp108 : Sp := fun args τ K => asCons args fun a1 r1 => asD (.int .i64) a1 fun x1 => asNil r1 <| asNil τ <| c108 x1 (fun z1 => K (B z1) [])
theorem h108 : ∀ args τ K, sp108 args τ K → ACall E 108 args τ K := by
  intro args τ K h0
  unfold sp108 at h0
  obtain ⟨a1, r1, rfl, h1⟩ := asCons_inv h0
  obtain ⟨x1, rfl, h2⟩ := asD_inv h1
  obtain ⟨rfl, h3⟩ := asNil_inv h2
  obtain ⟨rfl, h4⟩ := asNil_inv h3
  exact ACall.spec (fn := Try.f108) (c := codeOf Try.f108) (S := ofL S108) (L := lofL L108) hS108 (by kernel_rfl) (by kernel_rfl) (inlOK _) (all_eq (by kernel_rfl : loopsOf (codeOf Try.f108) = []) (all_nil)) (to _ (by kernel_rfl) h4.of)
abbrev S36 : List (Nat × Sp) := [(107, sp107), (81, sp81), (83, sp83), (108, sp108)]
theorem hS36 : SpecOK E (ofL S36) := specOK_cons h107 (specOK_cons h81 (specOK_cons h83 (specOK_cons h108 (specOK_nil))))
abbrev L36 : List (Nat × List Nat × LSp) := [(37000007, [2, 3, 5, 6, 31, 32, 33], ls36r7), (37000013, [2, 3, 6, 42, 43, 44], ls36r13)]
theorem l36r7ok : LoopOK E (inlF (PA (ACall E)) E 8) (E.info 36).keep 0 Try.f36.ntmps (lofL L36) (body Try.f36 7) := by
  refine loopOK_of (mk := 37000007) (sl := [2, 3, 5, 6, 31, 32, 33]) (s := ls36r7) (by kernel_rfl) (by kernel_rfl) ?_
  intro vs σ K h0 _
  unfold ls36r7 at h0
  obtain ⟨a1, r1, rfl, h1⟩ := asCons_inv h0
  obtain ⟨rfl, h2⟩ := asP_inv h1
  obtain ⟨a2, r2, rfl, h3⟩ := asCons_inv h2
  obtain ⟨rfl, h4⟩ := asP_inv h3
  obtain ⟨a3, r3, rfl, h5⟩ := asCons_inv h4
  obtain ⟨s1, rfl, h6⟩ := asD_inv h5
  obtain ⟨a4, r4, rfl, h7⟩ := asCons_inv h6
  obtain ⟨s2, rfl, h8⟩ := asD_inv h7
  obtain ⟨a5, r5, rfl, h9⟩ := asCons_inv h8
  obtain ⟨rfl, h10⟩ := asP_inv h9
  obtain ⟨a6, r6, rfl, h11⟩ := asCons_inv h10
  obtain ⟨s3, rfl, h12⟩ := asD_inv h11
  obtain ⟨a7, r7, rfl, h13⟩ := asCons_inv h12
  obtain ⟨s4, rfl, h14⟩ := asD_inv h13
  obtain ⟨rfl, h15⟩ := asNil_inv h14
  obtain ⟨a8, r8, rfl, h16⟩ := asCons_inv h15
  obtain ⟨a9, rfl, h17⟩ := asOne_inv h16
  obtain ⟨s5, rfl, h18⟩ := asD_inv h17
  obtain ⟨a10, r10, rfl, h19⟩ := asCons_inv h18
  obtain ⟨a11, rfl, h20⟩ := asOne_inv h19
  obtain ⟨s6, rfl, h21⟩ := asD_inv h20
  obtain ⟨a12, r12, rfl, h22⟩ := asCons_inv h21
  obtain ⟨s7, rfl, h23⟩ := asRw_inv h22
  obtain ⟨rfl, h24⟩ := asNil_inv h23
  intro J hJ
  exact h24.of (fun s1 s2 s3 s4 s5 s6 s7 => J [(37000007, .undef), (2, .ptr 0 0 []), (3, .ptr 1 0 []), (5, I s1), (6, I s2), (31, .vec 2), (32, I s3), (33, I s4)] [.one opT (.d opT s5), .one opT (.d opT s6), .row (.int .i64) s7 false]) (fun s1 s2 s3 s4 s5 s6 s7 hb => loop_round (S := ofL Sl36r7) (L := lofL Ll36r7) hSl36r7 (inlOK _) (all_eq (by kernel_rfl : loopsOf (body Try.f36 7) = []) (all_nil)) hJ (to _ (by kernel_rfl) hb))
theorem l36r13ok : LoopOK E (inlF (PA (ACall E)) E 8) (E.info 36).keep 0 Try.f36.ntmps (lofL L36) (body Try.f36 13) := by
  refine loopOK_of (mk := 37000013) (sl := [2, 3, 6, 42, 43, 44]) (s := ls36r13) (by kernel_rfl) (by kernel_rfl) ?_
  intro vs σ K h0 _
  unfold ls36r13 at h0
  obtain ⟨a1, r1, rfl, h1⟩ := asCons_inv h0
  obtain ⟨rfl, h2⟩ := asP_inv h1
  obtain ⟨a2, r2, rfl, h3⟩ := asCons_inv h2
  obtain ⟨rfl, h4⟩ := asP_inv h3
  obtain ⟨a3, r3, rfl, h5⟩ := asCons_inv h4
  obtain ⟨s1, rfl, h6⟩ := asD_inv h5
  obtain ⟨a4, r4, rfl, h7⟩ := asCons_inv h6
  obtain ⟨rfl, h8⟩ := asP_inv h7
  obtain ⟨a5, r5, rfl, h9⟩ := asCons_inv h8
  obtain ⟨s2, rfl, h10⟩ := asD_inv h9
  obtain ⟨a6, r6, rfl, h11⟩ := asCons_inv h10
  obtain ⟨s3, rfl, h12⟩ := asD_inv h11
  obtain ⟨rfl, h13⟩ := asNil_inv h12
  obtain ⟨a7, r7, rfl, h14⟩ := asCons_inv h13
  obtain ⟨a8, rfl, h15⟩ := asOne_inv h14
  obtain ⟨s4, rfl, h16⟩ := asD_inv h15
  obtain ⟨a9, r9, rfl, h17⟩ := asCons_inv h16
  obtain ⟨a10, rfl, h18⟩ := asOne_inv h17
  obtain ⟨s5, rfl, h19⟩ := asD_inv h18
  obtain ⟨a11, r11, rfl, h20⟩ := asCons_inv h19
  obtain ⟨s6, rfl, h21⟩ := asRw_inv h20
  obtain ⟨rfl, h22⟩ := asNil_inv h21
  intro J hJ
  exact h22.of (fun s1 s2 s3 s4 s5 s6 => J [(37000013, .undef), (2, .ptr 0 0 []), (3, .ptr 1 0 []), (6, I s1), (42, .vec 2), (43, I s2), (44, I s3)] [.one opT (.d opT s4), .one opT (.d opT s5), .row (.int .i64) s6 false]) (fun s1 s2 s3 s4 s5 s6 hb => loop_round (S := ofL Sl36r13) (L := lofL Ll36r13) hSl36r13 (inlOK _) (all_eq (by kernel_rfl : loopsOf (body Try.f36 13) = []) (all_nil)) hJ (to _ (by kernel_rfl) hb))
def sp36 : Sp := fun args τ K => asCons args fun a1 r1 => asD opT a1 fun x1 => asCons r1 fun a2 r2 => asD opT a2 fun x2 => asNil r2 <| asNil τ <| c36 x1 x2 (fun z1 => K (B z1) [])
theorem h36 : ∀ args τ K, sp36 args τ K → ACall E 36 args τ K := by
  intro args τ K h0
  unfold sp36 at h0
  obtain ⟨a1, r1, rfl, h1⟩ := asCons_inv h0
  obtain ⟨x1, rfl, h2⟩ := asD_inv h1
  obtain ⟨a2, r2, rfl, h3⟩ := asCons_inv h2
  obtain ⟨x2, rfl, h4⟩ := asD_inv h3
  obtain ⟨rfl, h5⟩ := asNil_inv h4
  obtain ⟨rfl, h6⟩ := asNil_inv h5
  exact ACall.spec (fn := Try.f36) (c := codeOf Try.f36) (S := ofL S36) (L := lofL L36) hS36 (by kernel_rfl) (by kernel_rfl) (inlOK _) (all_eq (by kernel_rfl : loopsOf (codeOf Try.f36) = [body Try.f36 7, body Try.f36 13]) (all_cons l36r7ok (all_cons l36r13ok (all_nil)))) (to _ (by kernel_rfl) h6.of)
abbrev S103 : List (Nat × Sp) := []
theorem hS103 : SpecOK E (ofL S103) := specOK_nil
abbrev L103 : List (Nat × List Nat × LSp) := []
def sp103 : Sp := fun args τ K => asCons args fun a1 r1 => asD (.int .i64) a1 fun x1 => asCons r1 fun a2 r2 => asD (.int .i64) a2 fun x2 => asCons r2 fun a3 r3 => asD (.int .i64) a3 fun x3 => asNil r3 <| asNil τ <| c103 x1 x2 x3 (fun z1 => K (B z1) [])
theorem h103 : ∀ args τ K, sp103 args τ K → ACall E 103 args τ K := by
  intro args τ K h0
  unfold sp103 at h0
  obtain ⟨a1, r1, rfl, h1⟩ := asCons_inv h0
  obtain ⟨x1, rfl, h2⟩ := asD_inv h1
  obtain ⟨a2, r2, rfl, h3⟩ := asCons_inv h2
  obtain ⟨x2, rfl, h4⟩ := asD_inv h3
  obtain ⟨a3, r3, rfl, h5⟩ := asCons_inv h4
  obtain ⟨x3, rfl, h6⟩ := asD_inv h5
  obtain ⟨rfl, h7⟩ := asNil_inv h6
  obtain ⟨rfl, h8⟩ := asNil_inv h7
  exact ACall.spec (fn := Try.f103) (c := codeOf Try.f103) (S := ofL S103) (L := lofL L103) hS103 (by kernel_rfl) (by kernel_rfl) (inlOK _) (all_eq (by kernel_rfl : loopsOf (codeOf Try.f103) = []) (all_nil)) (to _ (by kernel_rfl) h8.of)
abbrev S104 : List (Nat × Sp) := []
theorem hS104 : SpecOK E (ofL S104) := specOK_nil
abbrev L104 : List (Nat × List Nat × LSp) := []
def sp104 : Sp := fun args τ K => asCons args fun a1 r1 => asD (.int .i64) a1 fun x1 => asNil r1 <| asNil τ <| c104 x1 (fun z1 => K (.d (.pair .bool (.pair .bool (.pair .bool (.pair .bool .unit)))) z1) [])
theorem h104 : ∀ args τ K, sp104 args τ K → ACall E 104 args τ K := by
  intro args τ K h0
  unfold sp104 at h0
  obtain ⟨a1, r1, rfl, h1⟩ := asCons_inv h0
  obtain ⟨x1, rfl, h2⟩ := asD_inv h1
  obtain ⟨rfl, h3⟩ := asNil_inv h2
  obtain ⟨rfl, h4⟩ := asNil_inv h3
  exact ACall.spec (fn := Try.f104) (c := codeOf Try.f104) (S := ofL S104) (L := lofL L104) hS104 (by kernel_rfl) (by kernel_rfl) (inlOK _) (all_eq (by kernel_rfl : loopsOf (codeOf Try.f104) = []) (all_nil)) (to _ (by kernel_rfl) h4.of)
abbrev S25 : List (Nat × Sp) := [(103, sp103), (104, sp104)]
theorem hS25 : SpecOK E (ofL S25) := specOK_cons h103 (specOK_cons h104 (specOK_nil))
abbrev L25 : List (Nat × List Nat × LSp) := []
def sp25 : Sp := fun args τ K => asCons args fun a1 r1 => asD opT a1 fun x1 => asNil r1 <| asNil τ <| c25 x1 (fun z1 => K (I z1) [])
theorem h25 : ∀ args τ K, sp25 args τ K → ACall E 25 args τ K := by
  intro args τ K h0
  unfold sp25 at h0
  obtain ⟨a1, r1, rfl, h1⟩ := asCons_inv h0
  obtain ⟨x1, rfl, h2⟩ := asD_inv h1
  obtain ⟨rfl, h3⟩ := asNil_inv h2
  obtain ⟨rfl, h4⟩ := asNil_inv h3
  exact ACall.spec (fn := Try.f25) (c := codeOf Try.f25) (S := ofL S25) (L := lofL L25) hS25 (by kernel_rfl) (by kernel_rfl) (inlOK _) (all_eq (by kernel_rfl : loopsOf (codeOf Try.f25) = []) (all_nil)) (to _ (by kernel_rfl) h4.of)
abbrev Sl37r2 : List (Nat × Sp) := []
theorem hSl37r2 : SpecOK E (ofL Sl37r2) := specOK_nil
abbrev Ll37r2 : List (Nat × List Nat × LSp) := []
def ls37r2 : LSp := fun vs σ K => asCons vs fun a1 r1 => asP (.ptr 0 0 []) a1 <| asCons r1 fun a2 r2 => asP (.ptr 1 0 []) a2 <| asCons r2 fun a3 r3 => asP (.vec 2) a3 <| asCons r3 fun a4 r4 => asD (.int .i64) a4 fun s1 => asCons r4 fun a5 r5 => asD (.int .i64) a5 fun s2 => asNil r5 <| asCons σ fun a6 r6 => asOne opT a6 fun a7 => asD opT a7 fun s3 => asCons r6 fun a8 r8 => asOne opT a8 fun a9 => asD opT a9 fun s4 => asCons r8 fun a10 r10 => asRw opT true a10 fun s5 => asNil r10 <| l37r2 (fun z1 => K .ret [(2, .undef), (3, .undef), (4, B z1)] []) (fun z1 z2 => K (.exit 0) [(2, .ptr 0 0 []), (3, .ptr 1 0 []), (4, .undef)] [.one opT (.d opT z1), .one opT (.d opT z2)]) s1 s2 s3 s4 s5

abbrev S139 : List (Nat × Sp) := []
theorem hS139 : SpecOK E (ofL S139) := specOK_nil
abbrev L139 : List (Nat × List Nat × LSp) := []
def sp139 : Sp := fun args τ K => asCons args fun a1 r1 => asD (.int .i64) a1 fun x1 => asCons r1 fun a2 r2 => asD (.int .i64) a2 fun x2 => asCons r2 fun a3 r3 => asD (.int .i64) a3 fun x3 => asNil r3 <| asNil τ <| c139 x1 x2 x3 (fun z1 => K (B z1) [])
theorem h139 : ∀ args τ K, sp139 args τ K → ACall E 139 args τ K := by
  intro args τ K h0
  unfold sp139 at h0
  obtain ⟨a1, r1, rfl, h1⟩ := asCons_inv h0
  obtain ⟨x1, rfl, h2⟩ := asD_inv h1
  obtain ⟨a2, r2, rfl, h3⟩ := asCons_inv h2
  obtain ⟨x2, rfl, h4⟩ := asD_inv h3
  obtain ⟨a3, r3, rfl, h5⟩ := asCons_inv h4
  obtain ⟨x3, rfl, h6⟩ := asD_inv h5
  obtain ⟨rfl, h7⟩ := asNil_inv h6
  obtain ⟨rfl, h8⟩ := asNil_inv h7
  exact ACall.spec (fn := Try.f139) (c := codeOf Try.f139) (S := ofL S139) (L := lofL L139) hS139 (by kernel_rfl) (by kernel_rfl) (inlOK _) (all_eq (by kernel_rfl : loopsOf (codeOf Try.f139) = []) (all_nil)) (to _ (by kernel_rfl) h8.of)
abbrev S101 : List (Nat × Sp) := []
theorem hS101 : SpecOK E (ofL S101) := specOK_nil
abbrev L101 : List (Nat × List Nat × LSp) := []
def sp101 : Sp := fun args τ K => asNil args <| asNil τ <| c101  (fun z1 => K (.vec 0) [.row .str z1 true])
theorem h101 : ∀ args τ K, sp101 args τ K → ACall E 101 args τ K := by
  intro args τ K h0
  unfold sp101 at h0
  obtain ⟨rfl, h1⟩ := asNil_inv h0
  obtain ⟨rfl, h2⟩ := asNil_inv h1
  exact ACall.spec (fn := Try.f101) (c := codeOf Try.f101) (S := ofL S101) (L := lofL L101) hS101 (by kernel_rfl) (by kernel_rfl) (inlOK _) (all_eq (by kernel_rfl : loopsOf (codeOf Try.f101) = []) (all_nil)) (to _ (by kernel_rfl) h2.of)
abbrev Sl102r2 : List (Nat × Sp) := []
theorem hSl102r2 : SpecOK E (ofL Sl102r2) := specOK_nil
abbrev Ll102r2 : List (Nat × List Nat × LSp) := []
def ls102r2 : LSp := fun vs σ K => asCons vs fun a1 r1 => asD .str a1 fun s1 => asCons r1 fun a2 r2 => asD (.int .u8) a2 fun s2 => asCons r2 fun a3 r3 => asD (.int .i64) a3 fun s3 => asCons r3 fun a4 r4 => asD (.int .i64) a4 fun s4 => asNil r4 <| asNil σ <| l102r2 (fun z1 => K .ret [(4, B z1)] []) (K (.exit 0) [(4, .undef)] []) s1 s2 s3 s4

abbrev S102 : List (Nat × Sp) := []
theorem hS102 : SpecOK E (ofL S102) := specOK_nil
abbrev L102 : List (Nat × List Nat × LSp) := [(103000002, [0, 1, 7, 8], ls102r2)]
theorem l102r2ok : LoopOK E (inlF (PA (ACall E)) E 8) (E.info 102).keep 0 Try.f102.ntmps (lofL L102) (body Try.f102 2) := by
  refine loopOK_of (mk := 103000002) (sl := [0, 1, 7, 8]) (s := ls102r2) (by kernel_rfl) (by kernel_rfl) ?_
  intro vs σ K h0 _
  unfold ls102r2 at h0
  obtain ⟨a1, r1, rfl, h1⟩ := asCons_inv h0
  obtain ⟨s1, rfl, h2⟩ := asD_inv h1
  obtain ⟨a2, r2, rfl, h3⟩ := asCons_inv h2
  obtain ⟨s2, rfl, h4⟩ := asD_inv h3
  obtain ⟨a3, r3, rfl, h5⟩ := asCons_inv h4
  obtain ⟨s3, rfl, h6⟩ := asD_inv h5
  obtain ⟨a4, r4, rfl, h7⟩ := asCons_inv h6
  obtain ⟨s4, rfl, h8⟩ := asD_inv h7
  obtain ⟨rfl, h9⟩ := asNil_inv h8
  obtain ⟨rfl, h10⟩ := asNil_inv h9
  intro J hJ
  exact h10.of (fun s1 s2 s3 s4 => J [(103000002, .undef), (0, .d .str s1), (1, .d (.int .u8) s2), (7, I s3), (8, I s4)] []) (fun s1 s2 s3 s4 hb => loop_round (S := ofL Sl102r2) (L := lofL Ll102r2) hSl102r2 (inlOK _) (all_eq (by kernel_rfl : loopsOf (body Try.f102 2) = []) (all_nil)) hJ (to _ (by kernel_rfl) hb))
def sp102 : Sp := fun args τ K => asCons args fun a1 r1 => asD .str a1 fun x1 => asCons r1 fun a2 r2 => asD (.int .u8) a2 fun x2 => asNil r2 <| asNil τ <| c102 x1 x2 (fun z1 => K (B z1) [])
theorem h102 : ∀ args τ K, sp102 args τ K → ACall E 102 args τ K := by
  intro args τ K h0
  unfold sp102 at h0
  obtain ⟨a1, r1, rfl, h1⟩ := asCons_inv h0
  obtain ⟨x1, rfl, h2⟩ := asD_inv h1
  obtain ⟨a2, r2, rfl, h3⟩ := asCons_inv h2
  obtain ⟨x2, rfl, h4⟩ := asD_inv h3
  obtain ⟨rfl, h5⟩ := asNil_inv h4
  obtain ⟨rfl, h6⟩ := asNil_inv h5
  exact ACall.spec (fn := Try.f102) (c := codeOf Try.f102) (S := ofL S102) (L := lofL L102) hS102 (by kernel_rfl) (by kernel_rfl) (inlOK _) (all_eq (by kernel_rfl : loopsOf (codeOf Try.f102) = [body Try.f102 2]) (all_cons l102r2ok (all_nil))) (to _ (by kernel_rfl) h6.of)
abbrev S82 : List (Nat × Sp) := [(139, sp139), (101, sp101), (102, sp102)]
theorem hS82 : SpecOK E (ofL S82) := specOK_cons h139 (specOK_cons h101 (specOK_cons h102 (specOK_nil)))
abbrev L82 : List (Nat × List Nat × LSp) := []
def sp82 : Sp := fun args τ K => asCons args fun a1 r1 => asD opT a1 fun x1 => asNil r1 <| asNil τ <| c82 x1 (fun z1 => K (I z1) [])
theorem h82 : ∀ args τ K, sp82 args τ K → ACall E 82 args τ K := by
  intro args τ K h0
  unfold sp82 at h0
  obtain ⟨a1, r1, rfl, h1⟩ := asCons_inv h0
  obtain ⟨x1, rfl, h2⟩ := asD_inv h1
  obtain ⟨rfl, h3⟩ := asNil_inv h2
  obtain ⟨rfl, h4⟩ := asNil_inv h3
  exact ACall.spec (fn := Try.f82) (c := codeOf Try.f82) (S := ofL S82) (L := lofL L82) hS82 (by kernel_rfl) (by kernel_rfl) (inlOK _) (all_eq (by kernel_rfl : loopsOf (codeOf Try.f82) = []) (all_nil)) (to _ (by kernel_rfl) h4.of)
abbrev Sl84r6 : List (Nat × Sp) := []
theorem hSl84r6 : SpecOK E (ofL Sl84r6) := specOK_nil
abbrev Ll84r6 : List (Nat × List Nat × LSp) := []
def ls84r6 : LSp := fun vs σ K => asCons vs fun a1 r1 => asP (.ptr 0 0 []) a1 <| asCons r1 fun a2 r2 => asP (.vec 1) a2 <| asCons r2 fun a3 r3 => asD (.sl (.int .u8)) a3 fun s1 => asCons r3 fun a4 r4 => asD (.int .i64) a4 fun s2 => asCons r4 fun a5 r5 => asD (.int .i64) a5 fun s3 => asNil r5 <| asCons σ fun a6 r6 => asOne opT a6 fun a7 => asD opT a7 fun s4 => asCons r6 fun a8 r8 => asRw (.int .i64) false a8 fun s5 => asNil r8 <| l84r6 (fun z1 => K (.exit 0) [(4, .vec 0)] [.row (.int .i64) z1 false]) s1 s2 s3 s4 s5

abbrev S84 : List (Nat × Sp) := []
theorem hS84 : SpecOK E (ofL S84) := specOK_nil
abbrev L84 : List (Nat × List Nat × LSp) := [(85000006, [1, 4, 24, 25, 26], ls84r6)]
theorem l84r6ok : LoopOK E (inlF (PA (ACall E)) E 8) (E.info 84).keep 0 Try.f84.ntmps (lofL L84) (body Try.f84 6) := by
  refine loopOK_of (mk := 85000006) (sl := [1, 4, 24, 25, 26]) (s := ls84r6) (by kernel_rfl) (by kernel_rfl) ?_
  intro vs σ K h0 _
  unfold ls84r6 at h0
  obtain ⟨a1, r1, rfl, h1⟩ := asCons_inv h0
  obtain ⟨rfl, h2⟩ := asP_inv h1
  obtain ⟨a2, r2, rfl, h3⟩ := asCons_inv h2
  obtain ⟨rfl, h4⟩ := asP_inv h3
  obtain ⟨a3, r3, rfl, h5⟩ := asCons_inv h4
  obtain ⟨s1, rfl, h6⟩ := asD_inv h5
  obtain ⟨a4, r4, rfl, h7⟩ := asCons_inv h6
  obtain ⟨s2, rfl, h8⟩ := asD_inv h7
  obtain ⟨a5, r5, rfl, h9⟩ := asCons_inv h8
  obtain ⟨s3, rfl, h10⟩ := asD_inv h9
  obtain ⟨rfl, h11⟩ := asNil_inv h10
  obtain ⟨a6, r6, rfl, h12⟩ := asCons_inv h11
  obtain ⟨a7, rfl, h13⟩ := asOne_inv h12
  obtain ⟨s4, rfl, h14⟩ := asD_inv h13
  obtain ⟨a8, r8, rfl, h15⟩ := asCons_inv h14
  obtain ⟨s5, rfl, h16⟩ := asRw_inv h15
  obtain ⟨rfl, h17⟩ := asNil_inv h16
  intro J hJ
  exact h17.of (fun s1 s2 s3 s4 s5 => J [(85000006, .undef), (1, .ptr 0 0 []), (4, .vec 1), (24, .d (.sl (.int .u8)) s1), (25, I s2), (26, I s3)] [.one opT (.d opT s4), .row (.int .i64) s5 false]) (fun s1 s2 s3 s4 s5 hb => loop_round (S := ofL Sl84r6) (L := lofL Ll84r6) hSl84r6 (inlOK _) (all_eq (by kernel_rfl : loopsOf (body Try.f84 6) = []) (all_nil)) hJ (to _ (by kernel_rfl) hb))
def sp84 : Sp := fun args τ K => asCons args fun a1 r1 => asD opT a1 fun x1 => asNil r1 <| asNil τ <| c84 x1 (fun z1 => K (.vec 0) [.row (.int .i64) z1 false])
theorem h84 : ∀ args τ K, sp84 args τ K → ACall E 84 args τ K := by
  intro args τ K h0
  unfold sp84 at h0
  obtain ⟨a1, r1, rfl, h1⟩ := asCons_inv h0
  obtain ⟨x1, rfl, h2⟩ := asD_inv h1
  obtain ⟨rfl, h3⟩ := asNil_inv h2
  obtain ⟨rfl, h4⟩ := asNil_inv h3
  exact ACall.spec (fn := Try.f84) (c := codeOf Try.f84) (S := ofL S84) (L := lofL L84) hS84 (by kernel_rfl) (by kernel_rfl) (inlOK _) (all_eq (by kernel_rfl : loopsOf (codeOf Try.f84) = [body Try.f84 6]) (all_cons l84r6ok (all_nil))) (to _ (by kernel_rfl) h4.of)
abbrev Sl109r3 : List (Nat × Sp) := []
theorem hSl109r3 : SpecOK E (ofL Sl109r3) := specOK_nil
abbrev Ll109r3 : List (Nat × List Nat × LSp) := []
def ls109r3 : LSp := fun vs σ K => asCons vs fun a1 r1 => asD (.int .i64) a1 fun s1 => asCons r1 fun a2 r2 => asP (.vec 0) a2 <| asCons r2 fun a3 r3 => asD (.int .i64) a3 fun s2 => asCons r3 fun a4 r4 => asD (.int .i64) a4 fun s3 => asNil r4 <| asCons σ fun a5 r5 => asRw (.int .i64) false a5 fun s4 => asNil r5 <| l109r3 (fun z1 => K .ret [(4, B z1)] []) (K (.exit 0) [(4, .undef)] []) s1 s2 s3 s4

abbrev S109 : List (Nat × Sp) := [(82, sp82), (84, sp84)]
theorem hS109 : SpecOK E (ofL S109) := specOK_cons h82 (specOK_cons h84 (specOK_nil))
abbrev L109 : List (Nat × List Nat × LSp) := [(110000003, [5, 15, 16, 17], ls109r3)]
theorem l109r3ok : LoopOK E (inlF (PA (ACall E)) E 8) (E.info 109).keep 0 Try.f109.ntmps (lofL L109) (body Try.f109 3) := by
  refine loopOK_of (mk := 110000003) (sl := [5, 15, 16, 17]) (s := ls109r3) (by kernel_rfl) (by kernel_rfl) ?_
  intro vs σ K h0 _
  unfold ls109r3 at h0
  obtain ⟨a1, r1, rfl, h1⟩ := asCons_inv h0
  obtain ⟨s1, rfl, h2⟩ := asD_inv h1
  obtain ⟨a2, r2, rfl, h3⟩ := asCons_inv h2
  obtain ⟨rfl, h4⟩ := asP_inv h3
  obtain ⟨a3, r3, rfl, h5⟩ := asCons_inv h4
  obtain ⟨s2, rfl, h6⟩ := asD_inv h5
  obtain ⟨a4, r4, rfl, h7⟩ := asCons_inv h6
  obtain ⟨s3, rfl, h8⟩ := asD_inv h7
  obtain ⟨rfl, h9⟩ := asNil_inv h8
  obtain ⟨a5, r5, rfl, h10⟩ := asCons_inv h9
  obtain ⟨s4, rfl, h11⟩ := asRw_inv h10
  obtain ⟨rfl, h12⟩ := asNil_inv h11
  intro J hJ
  exact h12.of (fun s1 s2 s3 s4 => J [(110000003, .undef), (5, I s1), (15, .vec 0), (16, I s2), (17, I s3)] [.row (.int .i64) s4 false]) (fun s1 s2 s3 s4 hb => loop_round (S := ofL Sl109r3) (L := lofL Ll109r3) hSl109r3 (inlOK _) (all_eq (by kernel_rfl : loopsOf (body Try.f109 3) = []) (all_nil)) hJ (to _ (by kernel_rfl) hb))
def sp109 : Sp := fun args τ K => asCons args fun a1 r1 => asD opT a1 fun x1 => asCons r1 fun a2 r2 => asD opT a2 fun x2 => asNil r2 <| asNil τ <| c109 x1 x2 (fun z1 => K (B z1) [])
theorem h109 : ∀ args τ K, sp109 args τ K → ACall E 109 args τ K := by
  intro args τ K h0
  unfold sp109 at h0
  obtain ⟨a1, r1, rfl, h1⟩ := asCons_inv h0
  obtain ⟨x1, rfl, h2⟩ := asD_inv h1
  obtain ⟨a2, r2, rfl, h3⟩ := asCons_inv h2
  obtain ⟨x2, rfl, h4⟩ := asD_inv h3
  obtain ⟨rfl, h5⟩ := asNil_inv h4
  obtain ⟨rfl, h6⟩ := asNil_inv h5
  exact ACall.spec (fn := Try.f109) (c := codeOf Try.f109) (S := ofL S109) (L := lofL L109) hS109 (by kernel_rfl) (by kernel_rfl) (inlOK _) (all_eq (by kernel_rfl : loopsOf (codeOf Try.f109) = [body Try.f109 3]) (all_cons l109r3ok (all_nil))) (to _ (by kernel_rfl) h6.of)
abbrev S37 : List (Nat × Sp) := [(109, sp109)]
theorem hS37 : SpecOK E (ofL S37) := specOK_cons h109 (specOK_nil)
abbrev L37 : List (Nat × List Nat × LSp) := [(38000002, [2, 3, 10, 11, 12], ls37r2)]
theorem l37r2ok : LoopOK E (inlF (PA (ACall E)) E 8) (E.info 37).keep 0 Try.f37.ntmps (lofL L37) (body Try.f37 2) := by
  refine loopOK_of (mk := 38000002) (sl := [2, 3, 10, 11, 12]) (s := ls37r2) (by kernel_rfl) (by kernel_rfl) ?_
  intro vs σ K h0 _
  unfold ls37r2 at h0
  obtain ⟨a1, r1, rfl, h1⟩ := asCons_inv h0
  obtain ⟨rfl, h2⟩ := asP_inv h1
  obtain ⟨a2, r2, rfl, h3⟩ := asCons_inv h2
  obtain ⟨rfl, h4⟩ := asP_inv h3
  obtain ⟨a3, r3, rfl, h5⟩ := asCons_inv h4
  obtain ⟨rfl, h6⟩ := asP_inv h5
  obtain ⟨a4, r4, rfl, h7⟩ := asCons_inv h6
  obtain ⟨s1, rfl, h8⟩ := asD_inv h7
  obtain ⟨a5, r5, rfl, h9⟩ := asCons_inv h8
  obtain ⟨s2, rfl, h10⟩ := asD_inv h9
  obtain ⟨rfl, h11⟩ := asNil_inv h10
  obtain ⟨a6, r6, rfl, h12⟩ := asCons_inv h11
  obtain ⟨a7, rfl, h13⟩ := asOne_inv h12
  obtain ⟨s3, rfl, h14⟩ := asD_inv h13
  obtain ⟨a8, r8, rfl, h15⟩ := asCons_inv h14
  obtain ⟨a9, rfl, h16⟩ := asOne_inv h15
  obtain ⟨s4, rfl, h17⟩ := asD_inv h16
  obtain ⟨a10, r10, rfl, h18⟩ := asCons_inv h17
  obtain ⟨s5, rfl, h19⟩ := asRw_inv h18
  obtain ⟨rfl, h20⟩ := asNil_inv h19
  intro J hJ
  exact h20.of (fun s1 s2 s3 s4 s5 => J [(38000002, .undef), (2, .ptr 0 0 []), (3, .ptr 1 0 []), (10, .vec 2), (11, I s1), (12, I s2)] [.one opT (.d opT s3), .one opT (.d opT s4), .row opT s5 true]) (fun s1 s2 s3 s4 s5 hb => loop_round (S := ofL Sl37r2) (L := lofL Ll37r2) hSl37r2 (inlOK _) (all_eq (by kernel_rfl : loopsOf (body Try.f37 2) = []) (all_nil)) hJ (to _ (by kernel_rfl) hb))
def sp37 : Sp := fun args τ K => asCons args fun a1 r1 => asD opT a1 fun x1 => asCons r1 fun a2 r2 => asD opT a2 fun x2 => asNil r2 <| asNil τ <| c37 x1 x2 (fun z1 => K (B z1) [])
theorem h37 : ∀ args τ K, sp37 args τ K → ACall E 37 args τ K := by
  intro args τ K h0
  unfold sp37 at h0
  obtain ⟨a1, r1, rfl, h1⟩ := asCons_inv h0
  obtain ⟨x1, rfl, h2⟩ := asD_inv h1
  obtain ⟨a2, r2, rfl, h3⟩ := asCons_inv h2
  obtain ⟨x2, rfl, h4⟩ := asD_inv h3
  obtain ⟨rfl, h5⟩ := asNil_inv h4
  obtain ⟨rfl, h6⟩ := asNil_inv h5
  exact ACall.spec (fn := Try.f37) (c := codeOf Try.f37) (S := ofL S37) (L := lofL L37) hS37 (by kernel_rfl) (by kernel_rfl) (inlOK _) (all_eq (by kernel_rfl : loopsOf (codeOf Try.f37) = [body Try.f37 2]) (all_cons l37r2ok (all_nil))) (to _ (by kernel_rfl) h6.of)
abbrev S6 : List (Nat × Sp) := [(36, sp36), (25, sp25), (37, sp37)]
theorem hS6 : SpecOK E (ofL S6) := specOK_cons h36 (specOK_cons h25 (specOK_cons h37 (specOK_nil)))
abbrev L6 : List (Nat × List Nat × LSp) := []
def sp6 : Sp := fun args τ K => asCons args fun a1 r1 => asD opT a1 fun x1 => asCons r1 fun a2 r2 => asD opT a2 fun x2 => asNil r2 <| asNil τ <| c6 x1 x2 (fun z1 => K (B z1) [])
theorem h6 : ∀ args τ K, sp6 args τ K → ACall E 6 args τ K := by
  intro args τ K h0
  unfold sp6 at h0
  obtain ⟨a1, r1, rfl, h1⟩ := asCons_inv h0
  obtain ⟨x1, rfl, h2⟩ := asD_inv h1
  obtain ⟨a2, r2, rfl, h3⟩ := asCons_inv h2
  obtain ⟨x2, rfl, h4⟩ := asD_inv h3
  obtain ⟨rfl, h5⟩ := asNil_inv h4
  obtain ⟨rfl, h6⟩ := asNil_inv h5
  exact ACall.spec (fn := Try.f6) (c := codeOf Try.f6) (S := ofL S6) (L := lofL L6) hS6 (by kernel_rfl) (by kernel_rfl) (inlOK _) (all_eq (by kernel_rfl : loopsOf (codeOf Try.f6) = []) (all_nil)) (to _ (by kernel_rfl) h6.of)
end Go.Proofs.Ytfdoaacapkopmaa
