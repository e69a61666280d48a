/- The functions compute that (printed by a program). -/
import Derived.Test.YtfdoaacapkopmaaAEnvC
import Derived.Test.YtfdoaacapkopmaaAD5
namespace Go.Proofs.Ytfdoaacapkopmaa
open Go.Abs
set_option maxRecDepth 100000
set_option maxHeartbeats 4000000
set_option linter.unusedVariables false
abbrev S103 : List (Nat × Sp) := []
theorem hS103 : SpecOK E (ofL S103) := specOK_nil
abbrev L103 : List (Nat × List Nat × LSp) := []
def sp103 : Sp := fun args τ K => asCons args fun a1 r1 => asD (.int .i64) a1 fun x1 => asCons r1 fun a2 r2 => asD (.int .i64) a2 fun x2 => asCons r2 fun a3 r3 => asD (.int .i64) a3 fun x3 => asNil r3 <| asNil τ <| c103 x1 x2 x3 (fun z1 => K (B z1) [])
theorem h103 : ∀ args τ K, sp103 args τ K → ACall E 103 args τ K := by
  intro args τ K h0
  unfold sp103 at h0
  obtain ⟨a1, r1, rfl, h1⟩ := asCons_inv h0
  obtain ⟨x1, rfl, h2⟩ := asD_inv h1
  obtain ⟨a2, r2, rfl, h3⟩ := asCons_inv h2
  obtain ⟨x2, rfl, h4⟩ := asD_inv h3
  obtain ⟨a3, r3, rfl, h5⟩ := asCons_inv h4
  obtain ⟨x3, rfl, h6⟩ := asD_inv h5
  obtain ⟨rfl, h7⟩ := asNil_inv h6
  obtain ⟨rfl, h8⟩ := asNil_inv h7
  exact ACall.spec (fn := Try.f103) (c := codeOf Try.f103) (S := ofL S103) (L := lofL L103) hS103 (by kernel_rfl) (by kernel_rfl) (inlOK _) (all_eq (by kernel_rfl : loopsOf (codeOf Try.f103) = []) (all_nil)) (to _ (by kernel_rfl) h8.of)
abbrev S104 : List (Nat × Sp) := []
theorem hS104 : SpecOK E (ofL S104) := specOK_nil
abbrev L104 : List (Nat × List Nat × LSp) := []
def sp104 : Sp := fun args τ K => asCons args fun a1 r1 => asD (.int .i64) a1 fun x1 => asNil r1 <| asNil τ <| c104 x1 (fun z1 => K (.d (.pair .bool (.pair .bool (.pair .bool (.pair .bool .unit)))) z1) [])
theorem h104 : ∀ args τ K, sp104 args τ K → ACall E 104 args τ K := by
  intro args τ K h0
  unfold sp104 at h0
  obtain ⟨a1, r1, rfl, h1⟩ := asCons_inv h0
  obtain ⟨x1, rfl, h2⟩ := asD_inv h1
  obtain ⟨rfl, h3⟩ := asNil_inv h2
  obtain ⟨rfl, h4⟩ := asNil_inv h3
  exact ACall.spec (fn := Try.f104) (c := codeOf Try.f104) (S := ofL S104) (L := lofL L104) hS104 (by kernel_rfl) (by kernel_rfl) (inlOK _) (all_eq (by kernel_rfl : loopsOf (codeOf Try.f104) = []) (all_nil)) (to _ (by kernel_rfl) h4.of)
abbrev S25 : List (Nat × Sp) := [(103, sp103), (104, sp104)]
theorem hS25 : SpecOK E (ofL S25) := specOK_cons h103 (specOK_cons h104 (specOK_nil))
abbrev L25 : List (Nat × List Nat × LSp) := []
def sp25 : Sp := fun args τ K => asCons args fun a1 r1 => asD opT a1 fun x1 => asNil r1 <| asNil τ <| c25 x1 (fun z1 => K (I z1) [])
theorem h25 : ∀ args τ K, sp25 args τ K → ACall E 25 args τ K := by
  intro args τ K h0
  unfold sp25 at h0
  obtain ⟨a1, r1, rfl, h1⟩ := asCons_inv h0
  obtain ⟨x1, rfl, h2⟩ := asD_inv h1
  obtain ⟨rfl, h3⟩ := asNil_inv h2
  obtain ⟨rfl, h4⟩ := asNil_inv h3
  exact ACall.spec (fn := Try.f25) (c := codeOf Try.f25) (S := ofL S25) (L := lofL L25) hS25 (by kernel_rfl) (by kernel_rfl) (inlOK _) (all_eq (by kernel_rfl : loopsOf (codeOf Try.f25) = []) (all_nil)) (to _ (by kernel_rfl) h4.of)
abbrev S28 : List (Nat × Sp) := [(103, sp103)]
theorem hS28 : SpecOK E (ofL S28) := specOK_cons h103 (specOK_nil)
abbrev L28 : List (Nat × List Nat × LSp) := []
def sp28 : Sp := fun args τ K => asCons args fun a1 r1 => asD opT a1 fun x1 => asNil r1 <| asNil τ <| c28 x1 (fun z1 => K (I z1) [])
theorem h28 : ∀ args τ K, sp28 args τ K → ACall E 28 args τ K := by
  intro args τ K h0
  unfold sp28 at h0
  obtain ⟨a1, r1, rfl, h1⟩ := asCons_inv h0
  obtain ⟨x1, rfl, h2⟩ := asD_inv h1
  obtain ⟨rfl, h3⟩ := asNil_inv h2
  obtain ⟨rfl, h4⟩ := asNil_inv h3
  exact ACall.spec (fn := Try.f28) (c := codeOf Try.f28) (S := ofL S28) (L := lofL L28) hS28 (by kernel_rfl) (by kernel_rfl) (inlOK _) (all_eq (by kernel_rfl : loopsOf (codeOf Try.f28) = []) (all_nil)) (to _ (by kernel_rfl) h4.of)
abbrev S105 : List (Nat × Sp) := []
theorem hS105 : SpecOK E (ofL S105) := specOK_nil
abbrev L105 : List (Nat × List Nat × LSp) := []
def sp105 : Sp := fun args τ K => asCons args fun a1 r1 => asD opT a1 fun x1 => asNil r1 <| asNil τ <| c105 x1 (fun z1 => K (I z1) [])
theorem h105 : ∀ args τ K, sp105 args τ K → ACall E 105 args τ K := by
  intro args τ K h0
  unfold sp105 at h0
  obtain ⟨a1, r1, rfl, h1⟩ := asCons_inv h0
  obtain ⟨x1, rfl, h2⟩ := asD_inv h1
  obtain ⟨rfl, h3⟩ := asNil_inv h2
  obtain ⟨rfl, h4⟩ := asNil_inv h3
  exact ACall.spec (fn := Try.f105) (c := codeOf Try.f105) (S := ofL S105) (L := lofL L105) hS105 (by kernel_rfl) (by kernel_rfl) (inlOK _) (all_eq (by kernel_rfl : loopsOf (codeOf Try.f105) = []) (all_nil)) (to _ (by kernel_rfl) h4.of)
abbrev S31 : List (Nat × Sp) := [(25, sp25), (105, sp105)]
theorem hS31 : SpecOK E (ofL S31) := specOK_cons h25 (specOK_cons h105 (specOK_nil))
abbrev L31 : List (Nat × List Nat × LSp) := []
def sp31 : Sp := fun args τ K => asCons args fun a1 r1 => asD opT a1 fun x1 => asNil r1 <| asNil τ <| c31 x1 (fun z1 z2 => K (.tup [.vec 0, I z1]) [.row (.int .i64) z2 false])
theorem h31 : ∀ args τ K, sp31 args τ K → ACall E 31 args τ K := by
  intro args τ K h0
  unfold sp31 at h0
  obtain ⟨a1, r1, rfl, h1⟩ := asCons_inv h0
  obtain ⟨x1, rfl, h2⟩ := asD_inv h1
  obtain ⟨rfl, h3⟩ := asNil_inv h2
  obtain ⟨rfl, h4⟩ := asNil_inv h3
  exact ACall.spec (fn := Try.f31) (c := codeOf Try.f31) (S := ofL S31) (L := lofL L31) hS31 (by kernel_rfl) (by kernel_rfl) (inlOK _) (all_eq (by kernel_rfl : loopsOf (codeOf Try.f31) = []) (all_nil)) (to _ (by kernel_rfl) h4.of)
abbrev S30 : List (Nat × Sp) := [(25, sp25), (28, sp28), (31, sp31), (105, sp105)]
theorem hS30 : SpecOK E (ofL S30) := specOK_cons h25 (specOK_cons h28 (specOK_cons h31 (specOK_cons h105 (specOK_nil))))
abbrev L30 : List (Nat × List Nat × LSp) := []
def sp30 : Sp := fun args τ K => asCons args fun a1 r1 => asD opT a1 fun x1 => asNil r1 <| asNil τ <| c30 x1 (fun z1 z2 => K (.tup [.vec 0, I z1]) [.row (.int .i64) z2 false])
theorem h30 : ∀ args τ K, sp30 args τ K → ACall E 30 args τ K := by
  intro args τ K h0
  unfold sp30 at h0
  obtain ⟨a1, r1, rfl, h1⟩ := asCons_inv h0
  obtain ⟨x1, rfl, h2⟩ := asD_inv h1
  obtain ⟨rfl, h3⟩ := asNil_inv h2
  obtain ⟨rfl, h4⟩ := asNil_inv h3
  exact ACall.spec (fn := Try.f30) (c := codeOf Try.f30) (S := ofL S30) (L := lofL L30) hS30 (by kernel_rfl) (by kernel_rfl) (inlOK _) (all_eq (by kernel_rfl : loopsOf (codeOf Try.f30) = []) (all_nil)) (to _ (by kernel_rfl) h4.of)
abbrev S23 : List (Nat × Sp) := [(30, sp30)]
theorem hS23 : SpecOK E (ofL S23) := specOK_cons h30 (specOK_nil)
abbrev L23 : List (Nat × List Nat × LSp) := []
def sp23 : Sp := fun args τ K => asNil args <| asNil τ <| c23  (fun z1 => K (B z1) [])
theorem h23 : ∀ args τ K, sp23 args τ K → ACall E 23 args τ K := by
  intro args τ K h0
  unfold sp23 at h0
  obtain ⟨rfl, h1⟩ := asNil_inv h0
  obtain ⟨rfl, h2⟩ := asNil_inv h1
  exact ACall.spec (fn := Try.f23) (c := codeOf Try.f23) (S := ofL S23) (L := lofL L23) hS23 (by kernel_rfl) (by kernel_rfl) (inlOK _) (all_eq (by kernel_rfl : loopsOf (codeOf Try.f23) = []) (all_nil)) (to _ (by kernel_rfl) h2.of)
abbrev Sl24r4 : List (Nat × Sp) := []
theorem hSl24r4 : SpecOK E (ofL Sl24r4) := specOK_nil
abbrev Ll24r4 : List (Nat × List Nat × LSp) := []
def ls24r4 : LSp := fun vs σ K => asCons vs fun a1 r1 => asP (.ptr 0 0 []) a1 <| asCons r1 fun a2 r2 => asP (.vec 1) a2 <| asCons r2 fun a3 r3 => asD (.int .i64) a3 fun s1 => asCons r3 fun a4 r4 => asD (.int .i64) a4 fun s2 => asNil r4 <| asCons σ fun a5 r5 => asOne opT a5 fun a6 => asD opT a6 fun s3 => asCons r5 fun a7 r7 => asRw (.int .i64) false a7 fun s4 => asNil r7 <| l24r4 (fun z1 => K .ret [(1, .undef), (2, I z1)] []) (fun z1 => K (.exit 0) [(1, .ptr 0 0 []), (2, .undef)] [.one opT (.d opT z1)]) s1 s2 s3 s4

abbrev S101 : List (Nat × Sp) := []
theorem hS101 : SpecOK E (ofL S101) := specOK_nil
abbrev L101 : List (Nat × List Nat × LSp) := []
def sp101 : Sp := fun args τ K => asNil args <| asNil τ <| c101  (fun z1 => K (.vec 0) [.row .str z1 false])
theorem h101 : ∀ args τ K, sp101 args τ K → ACall E 101 args τ K := by
  intro args τ K h0
  unfold sp101 at h0
  obtain ⟨rfl, h1⟩ := asNil_inv h0
  obtain ⟨rfl, h2⟩ := asNil_inv h1
  exact ACall.spec (fn := Try.f101) (c := codeOf Try.f101) (S := ofL S101) (L := lofL L101) hS101 (by kernel_rfl) (by kernel_rfl) (inlOK _) (all_eq (by kernel_rfl : loopsOf (codeOf Try.f101) = []) (all_nil)) (to _ (by kernel_rfl) h2.of)
abbrev Sl102r2 : List (Nat × Sp) := []
theorem hSl102r2 : SpecOK E (ofL Sl102r2) := specOK_nil
abbrev Ll102r2 : List (Nat × List Nat × LSp) := []
def ls102r2 : LSp := fun vs σ K => asCons vs fun a1 r1 => asD .str a1 fun s1 => asCons r1 fun a2 r2 => asD (.int .u8) a2 fun s2 => asCons r2 fun a3 r3 => asD (.int .i64) a3 fun s3 => asCons r3 fun a4 r4 => asD (.int .i64) a4 fun s4 => asNil r4 <| asNil σ <| l102r2 (fun z1 => K .ret [(4, B z1)] []) (K (.exit 0) [(4, .undef)] []) s1 s2 s3 s4

abbrev S102 : List (Nat × Sp) := []
theorem hS102 : SpecOK E (ofL S102) := specOK_nil
abbrev L102 : List (Nat × List Nat × LSp) := [(103000002, [0, 1, 7, 8], ls102r2)]
theorem l102r2ok : LoopOK E (inlF (PA (ACall E)) E 8) (E.info 102).keep 0 Try.f102.ntmps (lofL L102) (body Try.f102 2) := by
  refine loopOK_of (mk := 103000002) (sl := [0, 1, 7, 8]) (s := ls102r2) (by kernel_rfl) (by kernel_rfl) ?_
  intro vs σ K h0 _
  unfold ls102r2 at h0
  obtain ⟨a1, r1, rfl, h1⟩ := asCons_inv h0
  obtain ⟨s1, rfl, h2⟩ := asD_inv h1
  obtain ⟨a2, r2, rfl, h3⟩ := asCons_inv h2
  obtain ⟨s2, rfl, h4⟩ := asD_inv h3
  obtain ⟨a3, r3, rfl, h5⟩ := asCons_inv h4
  obtain ⟨s3, rfl, h6⟩ := asD_inv h5
  obtain ⟨a4, r4, rfl, h7⟩ := asCons_inv h6
  obtain ⟨s4, rfl, h8⟩ := asD_inv h7
  obtain ⟨rfl, h9⟩ := asNil_inv h8
  obtain ⟨rfl, h10⟩ := asNil_inv h9
  intro J hJ
  exact h10.of (fun s1 s2 s3 s4 => J [(103000002, .undef), (0, .d .str s1), (1, .d (.int .u8) s2), (7, I s3), (8, I s4)] []) (fun s1 s2 s3 s4 hb => loop_round (S := ofL Sl102r2) (L := lofL Ll102r2) hSl102r2 (inlOK _) (all_eq (by kernel_rfl : loopsOf (body Try.f102 2) = []) (all_nil)) hJ (to _ (by kernel_rfl) hb))
def sp102 : Sp := fun args τ K => asCons args fun a1 r1 => asD .str a1 fun x1 => asCons r1 fun a2 r2 => asD (.int .u8) a2 fun x2 => asNil r2 <| asNil τ <| c102 x1 x2 (fun z1 => K (B z1) [])
theorem h102 : ∀ args τ K, sp102 args τ K → ACall E 102 args τ K := by
  intro args τ K h0
  unfold sp102 at h0
  obtain ⟨a1, r1, rfl, h1⟩ := asCons_inv h0
  obtain ⟨x1, rfl, h2⟩ := asD_inv h1
  obtain ⟨a2, r2, rfl, h3⟩ := asCons_inv h2
  obtain ⟨x2, rfl, h4⟩ := asD_inv h3
  obtain ⟨rfl, h5⟩ := asNil_inv h4
  obtain ⟨rfl, h6⟩ := asNil_inv h5
  exact ACall.spec (fn := Try.f102) (c := codeOf Try.f102) (S := ofL S102) (L := lofL L102) hS102 (by kernel_rfl) (by kernel_rfl) (inlOK _) (all_eq (by kernel_rfl : loopsOf (codeOf Try.f102) = [body Try.f102 2]) (all_cons l102r2ok (all_nil))) (to _ (by kernel_rfl) h6.of)
abbrev Sl24r13 : List (Nat × Sp) := [(102, sp102)]
theorem hSl24r13 : SpecOK E (ofL Sl24r13) := specOK_cons h102 (specOK_nil)
abbrev Ll24r13 : List (Nat × List Nat × LSp) := []
def ls24r13 : LSp := fun vs σ K => asCons vs fun a1 r1 => asP (.ptr 0 0 []) a1 <| asCons r1 fun a2 r2 => asD .str a2 fun s1 => asCons r2 fun a3 r3 => asP (.vec 1) a3 <| asCons r3 fun a4 r4 => asD (.int .i64) a4 fun s2 => asCons r4 fun a5 r5 => asD (.int .i64) a5 fun s3 => asNil r5 <| asCons σ fun a6 r6 => asOne opT a6 fun a7 => asD opT a7 fun s4 => asCons r6 fun a8 r8 => asRw (.int .i64) false a8 fun s5 => asNil r8 <| l24r13 (fun z1 => K .ret [(1, .undef), (2, I z1)] []) (fun z1 => K (.exit 2) [(1, .ptr 0 0 []), (2, .undef)] [.one opT (.d opT z1)]) s1 s2 s3 s4 s5

abbrev S24 : List (Nat × Sp) := [(101, sp101)]
theorem hS24 : SpecOK E (ofL S24) := specOK_cons h101 (specOK_nil)
abbrev L24 : List (Nat × List Nat × LSp) := [(25000004, [1, 24, 25, 26], ls24r4), (25000013, [1, 5, 58, 59, 60], ls24r13)]
theorem l24r4ok : LoopOK E (inlF (PA (ACall E)) E 8) (E.info 24).keep 0 Try.f24.ntmps (lofL L24) (body Try.f24 4) := by
  refine loopOK_of (mk := 25000004) (sl := [1, 24, 25, 26]) (s := ls24r4) (by kernel_rfl) (by kernel_rfl) ?_
  intro vs σ K h0 _
  unfold ls24r4 at h0
  obtain ⟨a1, r1, rfl, h1⟩ := asCons_inv h0
  obtain ⟨rfl, h2⟩ := asP_inv h1
  obtain ⟨a2, r2, rfl, h3⟩ := asCons_inv h2
  obtain ⟨rfl, h4⟩ := asP_inv h3
  obtain ⟨a3, r3, rfl, h5⟩ := asCons_inv h4
  obtain ⟨s1, rfl, h6⟩ := asD_inv h5
  obtain ⟨a4, r4, rfl, h7⟩ := asCons_inv h6
  obtain ⟨s2, rfl, h8⟩ := asD_inv h7
  obtain ⟨rfl, h9⟩ := asNil_inv h8
  obtain ⟨a5, r5, rfl, h10⟩ := asCons_inv h9
  obtain ⟨a6, rfl, h11⟩ := asOne_inv h10
  obtain ⟨s3, rfl, h12⟩ := asD_inv h11
  obtain ⟨a7, r7, rfl, h13⟩ := asCons_inv h12
  obtain ⟨s4, rfl, h14⟩ := asRw_inv h13
  obtain ⟨rfl, h15⟩ := asNil_inv h14
  intro J hJ
  exact h15.of (fun s1 s2 s3 s4 => J [(25000004, .undef), (1, .ptr 0 0 []), (24, .vec 1), (25, I s1), (26, I s2)] [.one opT (.d opT s3), .row (.int .i64) s4 false]) (fun s1 s2 s3 s4 hb => loop_round (S := ofL Sl24r4) (L := lofL Ll24r4) hSl24r4 (inlOK _) (all_eq (by kernel_rfl : loopsOf (body Try.f24 4) = []) (all_nil)) hJ (to _ (by kernel_rfl) hb))
theorem l24r13ok : LoopOK E (inlF (PA (ACall E)) E 8) (E.info 24).keep 0 Try.f24.ntmps (lofL L24) (body Try.f24 13) := by
  refine loopOK_of (mk := 25000013) (sl := [1, 5, 58, 59, 60]) (s := ls24r13) (by kernel_rfl) (by kernel_rfl) ?_
  intro vs σ K h0 _
  unfold ls24r13 at h0
  obtain ⟨a1, r1, rfl, h1⟩ := asCons_inv h0
  obtain ⟨rfl, h2⟩ := asP_inv h1
  obtain ⟨a2, r2, rfl, h3⟩ := asCons_inv h2
  obtain ⟨s1, rfl, h4⟩ := asD_inv h3
  obtain ⟨a3, r3, rfl, h5⟩ := asCons_inv h4
  obtain ⟨rfl, h6⟩ := asP_inv h5
  obtain ⟨a4, r4, rfl, h7⟩ := asCons_inv h6
  obtain ⟨s2, rfl, h8⟩ := asD_inv h7
  obtain ⟨a5, r5, rfl, h9⟩ := asCons_inv h8
  obtain ⟨s3, rfl, h10⟩ := asD_inv h9
  obtain ⟨rfl, h11⟩ := asNil_inv h10
  obtain ⟨a6, r6, rfl, h12⟩ := asCons_inv h11
  obtain ⟨a7, rfl, h13⟩ := asOne_inv h12
  obtain ⟨s4, rfl, h14⟩ := asD_inv h13
  obtain ⟨a8, r8, rfl, h15⟩ := asCons_inv h14
  obtain ⟨s5, rfl, h16⟩ := asRw_inv h15
  obtain ⟨rfl, h17⟩ := asNil_inv h16
  intro J hJ
  exact h17.of (fun s1 s2 s3 s4 s5 => J [(25000013, .undef), (1, .ptr 0 0 []), (5, .d .str s1), (58, .vec 1), (59, I s2), (60, I s3)] [.one opT (.d opT s4), .row (.int .i64) s5 false]) (fun s1 s2 s3 s4 s5 hb => loop_round (S := ofL Sl24r13) (L := lofL Ll24r13) hSl24r13 (inlOK _) (all_eq (by kernel_rfl : loopsOf (body Try.f24 13) = []) (all_nil)) hJ (to _ (by kernel_rfl) hb))
def sp24 : Sp := fun args τ K => asCons args fun a1 r1 => asD opT a1 fun x1 => asNil r1 <| asNil τ <| c24 x1 (fun z1 => K (I z1) [])
theorem h24 : ∀ args τ K, sp24 args τ K → ACall E 24 args τ K := by
  intro args τ K h0
  unfold sp24 at h0
  obtain ⟨a1, r1, rfl, h1⟩ := asCons_inv h0
  obtain ⟨x1, rfl, h2⟩ := asD_inv h1
  obtain ⟨rfl, h3⟩ := asNil_inv h2
  obtain ⟨rfl, h4⟩ := asNil_inv h3
  exact ACall.spec (fn := Try.f24) (c := codeOf Try.f24) (S := ofL S24) (L := lofL L24) hS24 (by kernel_rfl) (by kernel_rfl) (inlOK _) (all_eq (by kernel_rfl : loopsOf (codeOf Try.f24) = [body Try.f24 4, body Try.f24 13]) (all_cons l24r4ok (all_cons l24r13ok (all_nil)))) (to _ (by kernel_rfl) h4.of)
abbrev S26 : List (Nat × Sp) := []
theorem hS26 : SpecOK E (ofL S26) := specOK_nil
abbrev L26 : List (Nat × List Nat × LSp) := []
def sp26 : Sp := fun args τ K => asCons args fun a1 r1 => asD (.int .i64) a1 fun x1 => asNil r1 <| asNil τ <| c26 x1 (fun z1 => K (B z1) [])
theorem h26 : ∀ args τ K, sp26 args τ K → ACall E 26 args τ K := by
  intro args τ K h0
  unfold sp26 at h0
  obtain ⟨a1, r1, rfl, h1⟩ := asCons_inv h0
  obtain ⟨x1, rfl, h2⟩ := asD_inv h1
  obtain ⟨rfl, h3⟩ := asNil_inv h2
  obtain ⟨rfl, h4⟩ := asNil_inv h3
  exact ACall.spec (fn := Try.f26) (c := codeOf Try.f26) (S := ofL S26) (L := lofL L26) hS26 (by kernel_rfl) (by kernel_rfl) (inlOK _) (all_eq (by kernel_rfl : loopsOf (codeOf Try.f26) = []) (all_nil)) (to _ (by kernel_rfl) h4.of)
abbrev S27 : List (Nat × Sp) := []
theorem hS27 : SpecOK E (ofL S27) := specOK_nil
abbrev L27 : List (Nat × List Nat × LSp) := []
def sp27 : Sp := fun args τ K => asCons args fun a1 r1 => asD (.int .i64) a1 fun x1 => asNil r1 <| asNil τ <| c27 x1 (fun z1 => K (B z1) [])
theorem h27 : ∀ args τ K, sp27 args τ K → ACall E 27 args τ K := by
  intro args τ K h0
  unfold sp27 at h0
  obtain ⟨a1, r1, rfl, h1⟩ := asCons_inv h0
  obtain ⟨x1, rfl, h2⟩ := asD_inv h1
  obtain ⟨rfl, h3⟩ := asNil_inv h2
  obtain ⟨rfl, h4⟩ := asNil_inv h3
  exact ACall.spec (fn := Try.f27) (c := codeOf Try.f27) (S := ofL S27) (L := lofL L27) hS27 (by kernel_rfl) (by kernel_rfl) (inlOK _) (all_eq (by kernel_rfl : loopsOf (codeOf Try.f27) = []) (all_nil)) (to _ (by kernel_rfl) h4.of)
abbrev S29 : List (Nat × Sp) := []
theorem hS29 : SpecOK E (ofL S29) := specOK_nil
abbrev L29 : List (Nat × List Nat × LSp) := []
def sp29 : Sp := fun args τ K => asCons args fun a1 r1 => asD (.int .i64) a1 fun x1 => asNil r1 <| asNil τ <| c29 x1 (fun z1 => K (B z1) [])
theorem h29 : ∀ args τ K, sp29 args τ K → ACall E 29 args τ K := by
  intro args τ K h0
  unfold sp29 at h0
  obtain ⟨a1, r1, rfl, h1⟩ := asCons_inv h0
  obtain ⟨x1, rfl, h2⟩ := asD_inv h1
  obtain ⟨rfl, h3⟩ := asNil_inv h2
  obtain ⟨rfl, h4⟩ := asNil_inv h3
  exact ACall.spec (fn := Try.f29) (c := codeOf Try.f29) (S := ofL S29) (L := lofL L29) hS29 (by kernel_rfl) (by kernel_rfl) (inlOK _) (all_eq (by kernel_rfl : loopsOf (codeOf Try.f29) = []) (all_nil)) (to _ (by kernel_rfl) h4.of)
abbrev S106 : List (Nat × Sp) := []
theorem hS106 : SpecOK E (ofL S106) := specOK_nil
abbrev L106 : List (Nat × List Nat × LSp) := []
def sp106 : Sp := fun args τ K => asCons args fun a1 r1 => asD (.int .i64) a1 fun x1 => asCons r1 fun a2 r2 => asD (.int .i64) a2 fun x2 => asNil r2 <| asNil τ <| c106 x1 x2 (fun z1 => K (I z1) [])
theorem h106 : ∀ args τ K, sp106 args τ K → ACall E 106 args τ K := by
  intro args τ K h0
  unfold sp106 at h0
  obtain ⟨a1, r1, rfl, h1⟩ := asCons_inv h0
  obtain ⟨x1, rfl, h2⟩ := asD_inv h1
  obtain ⟨a2, r2, rfl, h3⟩ := asCons_inv h2
  obtain ⟨x2, rfl, h4⟩ := asD_inv h3
  obtain ⟨rfl, h5⟩ := asNil_inv h4
  obtain ⟨rfl, h6⟩ := asNil_inv h5
  exact ACall.spec (fn := Try.f106) (c := codeOf Try.f106) (S := ofL S106) (L := lofL L106) hS106 (by kernel_rfl) (by kernel_rfl) (inlOK _) (all_eq (by kernel_rfl : loopsOf (codeOf Try.f106) = []) (all_nil)) (to _ (by kernel_rfl) h6.of)
abbrev S33 : List (Nat × Sp) := [(106, sp106)]
theorem hS33 : SpecOK E (ofL S33) := specOK_cons h106 (specOK_nil)
abbrev L33 : List (Nat × List Nat × LSp) := []
def sp33 : Sp := fun args τ K => asCons args fun a1 r1 => asD opT a1 fun x1 => asCons r1 fun a2 r2 => asD .bool a2 fun x2 => asNil r2 <| asNil τ <| c33 x1 x2 (fun z1 => K (.vec 0) [.row (.int .i64) z1 false])
theorem h33 : ∀ args τ K, sp33 args τ K → ACall E 33 args τ K := by
  intro args τ K h0
  unfold sp33 at h0
  obtain ⟨a1, r1, rfl, h1⟩ := asCons_inv h0
  obtain ⟨x1, rfl, h2⟩ := asD_inv h1
  obtain ⟨a2, r2, rfl, h3⟩ := asCons_inv h2
  obtain ⟨x2, rfl, h4⟩ := asD_inv h3
  obtain ⟨rfl, h5⟩ := asNil_inv h4
  obtain ⟨rfl, h6⟩ := asNil_inv h5
  exact ACall.spec (fn := Try.f33) (c := codeOf Try.f33) (S := ofL S33) (L := lofL L33) hS33 (by kernel_rfl) (by kernel_rfl) (inlOK _) (all_eq (by kernel_rfl : loopsOf (codeOf Try.f33) = []) (all_nil)) (to _ (by kernel_rfl) h6.of)
abbrev Sl32r4 : List (Nat × Sp) := []
theorem hSl32r4 : SpecOK E (ofL Sl32r4) := specOK_nil
abbrev Ll32r4 : List (Nat × List Nat × LSp) := []
def ls32r4 : LSp := fun vs σ K => asCons vs fun a1 r1 => asD (.sl (.int .i64)) a1 fun s1 => asCons r1 fun a2 r2 => asD (.sl (.int .i64)) a2 fun s2 => asCons r2 fun a3 r3 => asD (.int .i64) a3 fun s3 => asCons r3 fun a4 r4 => asD (.int .i64) a4 fun s4 => asNil r4 <| asNil σ <| l32r4 (fun z1 => K .ret [(4, B z1)] []) (K (.exit 0) [(4, .undef)] []) s1 s2 s3 s4

abbrev S32 : List (Nat × Sp) := []
theorem hS32 : SpecOK E (ofL S32) := specOK_nil
abbrev L32 : List (Nat × List Nat × LSp) := [(33000004, [0, 1, 12, 13], ls32r4)]
theorem l32r4ok : LoopOK E (inlF (PA (ACall E)) E 8) (E.info 32).keep 0 Try.f32.ntmps (lofL L32) (body Try.f32 4) := by
  refine loopOK_of (mk := 33000004) (sl := [0, 1, 12, 13]) (s := ls32r4) (by kernel_rfl) (by kernel_rfl) ?_
  intro vs σ K h0 _
  unfold ls32r4 at h0
  obtain ⟨a1, r1, rfl, h1⟩ := asCons_inv h0
  obtain ⟨s1, rfl, h2⟩ := asD_inv h1
  obtain ⟨a2, r2, rfl, h3⟩ := asCons_inv h2
  obtain ⟨s2, rfl, h4⟩ := asD_inv h3
  obtain ⟨a3, r3, rfl, h5⟩ := asCons_inv h4
  obtain ⟨s3, rfl, h6⟩ := asD_inv h5
  obtain ⟨a4, r4, rfl, h7⟩ := asCons_inv h6
  obtain ⟨s4, rfl, h8⟩ := asD_inv h7
  obtain ⟨rfl, h9⟩ := asNil_inv h8
  obtain ⟨rfl, h10⟩ := asNil_inv h9
  intro J hJ
  exact h10.of (fun s1 s2 s3 s4 => J [(33000004, .undef), (0, .d (.sl (.int .i64)) s1), (1, .d (.sl (.int .i64)) s2), (12, I s3), (13, I s4)] []) (fun s1 s2 s3 s4 hb => loop_round (S := ofL Sl32r4) (L := lofL Ll32r4) hSl32r4 (inlOK _) (all_eq (by kernel_rfl : loopsOf (body Try.f32 4) = []) (all_nil)) hJ (to _ (by kernel_rfl) hb))
def sp32 : Sp := fun args τ K => asCons args fun a1 r1 => asD (.sl (.int .i64)) a1 fun x1 => asCons r1 fun a2 r2 => asD (.sl (.int .i64)) a2 fun x2 => asNil r2 <| asNil τ <| c32 x1 x2 (fun z1 => K (B z1) [])
theorem h32 : ∀ args τ K, sp32 args τ K → ACall E 32 args τ K := by
  intro args τ K h0
  unfold sp32 at h0
  obtain ⟨a1, r1, rfl, h1⟩ := asCons_inv h0
  obtain ⟨x1, rfl, h2⟩ := asD_inv h1
  obtain ⟨a2, r2, rfl, h3⟩ := asCons_inv h2
  obtain ⟨x2, rfl, h4⟩ := asD_inv h3
  obtain ⟨rfl, h5⟩ := asNil_inv h4
  obtain ⟨rfl, h6⟩ := asNil_inv h5
  exact ACall.spec (fn := Try.f32) (c := codeOf Try.f32) (S := ofL S32) (L := lofL L32) hS32 (by kernel_rfl) (by kernel_rfl) (inlOK _) (all_eq (by kernel_rfl : loopsOf (codeOf Try.f32) = [body Try.f32 4]) (all_cons l32r4ok (all_nil))) (to _ (by kernel_rfl) h6.of)
abbrev S34 : List (Nat × Sp) := [(103, sp103), (25, sp25)]
theorem hS34 : SpecOK E (ofL S34) := specOK_cons h103 (specOK_cons h25 (specOK_nil))
abbrev L34 : List (Nat × List Nat × LSp) := []
def sp34 : Sp := fun args τ K => asCons args fun a1 r1 => asD (.sl (.int .i64)) a1 fun x1 => asNil r1 <| asNil τ <| c34 x1 (fun z1 z2 z3 => K (.tup [.d opT z1, I z2, I z3]) [])
theorem h34 : ∀ args τ K, sp34 args τ K → ACall E 34 args τ K := by
  intro args τ K h0
  unfold sp34 at h0
  obtain ⟨a1, r1, rfl, h1⟩ := asCons_inv h0
  obtain ⟨x1, rfl, h2⟩ := asD_inv h1
  obtain ⟨rfl, h3⟩ := asNil_inv h2
  obtain ⟨rfl, h4⟩ := asNil_inv h3
  exact ACall.spec (fn := Try.f34) (c := codeOf Try.f34) (S := ofL S34) (L := lofL L34) hS34 (by kernel_rfl) (by kernel_rfl) (inlOK _) (all_eq (by kernel_rfl : loopsOf (codeOf Try.f34) = []) (all_nil)) (to _ (by kernel_rfl) h4.of)
abbrev S35 : List (Nat × Sp) := [(24, sp24)]
theorem hS35 : SpecOK E (ofL S35) := specOK_cons h24 (specOK_nil)
abbrev L35 : List (Nat × List Nat × LSp) := []
def sp35 : Sp := fun args τ K => asCons args fun a1 r1 => asD (.sl (.int .i64)) a1 fun x1 => asNil r1 <| asNil τ <| c35 x1 (fun z1 z2 z3 => K (.tup [.d opT z1, I z2, I z3]) [])
theorem h35 : ∀ args τ K, sp35 args τ K → ACall E 35 args τ K := by
  intro args τ K h0
  unfold sp35 at h0
  obtain ⟨a1, r1, rfl, h1⟩ := asCons_inv h0
  obtain ⟨x1, rfl, h2⟩ := asD_inv h1
  obtain ⟨rfl, h3⟩ := asNil_inv h2
  obtain ⟨rfl, h4⟩ := asNil_inv h3
  exact ACall.spec (fn := Try.f35) (c := codeOf Try.f35) (S := ofL S35) (L := lofL L35) hS35 (by kernel_rfl) (by kernel_rfl) (inlOK _) (all_eq (by kernel_rfl : loopsOf (codeOf Try.f35) = []) (all_nil)) (to _ (by kernel_rfl) h4.of)
abbrev S5 : List (Nat × Sp) := [(23, sp23), (24, sp24), (25, sp25), (26, sp26), (27, sp27), (28, sp28), (29, sp29), (30, sp30), (31, sp31), (33, sp33), (32, sp32), (34, sp34), (35, sp35)]
theorem hS5 : SpecOK E (ofL S5) := specOK_cons h23 (specOK_cons h24 (specOK_cons h25 (specOK_cons h26 (specOK_cons h27 (specOK_cons h28 (specOK_cons h29 (specOK_cons h30 (specOK_cons h31 (specOK_cons h33 (specOK_cons h32 (specOK_cons h34 (specOK_cons h35 (specOK_nil)))))))))))))
abbrev L5 : List (Nat × List Nat × LSp) := []
def sp5 : Sp := fun args τ K => asCons args fun a1 r1 => asD opT a1 fun x1 => asCons r1 fun a2 r2 => asD (.sl (.int .i64)) a2 fun x2 => asNil r2 <| asNil τ <| c5 x1 x2 (fun z1 => K (B z1) [])
theorem h5 : ∀ args τ K, sp5 args τ K → ACall E 5 args τ K := by
  intro args τ K h0
  unfold sp5 at h0
  obtain ⟨a1, r1, rfl, h1⟩ := asCons_inv h0
  obtain ⟨x1, rfl, h2⟩ := asD_inv h1
  obtain ⟨a2, r2, rfl, h3⟩ := asCons_inv h2
  obtain ⟨x2, rfl, h4⟩ := asD_inv h3
  obtain ⟨rfl, h5⟩ := asNil_inv h4
  obtain ⟨rfl, h6⟩ := asNil_inv h5
  exact ACall.spec (fn := Try.f5) (c := codeOf Try.f5) (S := ofL S5) (L := lofL L5) hS5 (by kernel_rfl) (by kernel_rfl) (inlOK _) (all_eq (by kernel_rfl : loopsOf (codeOf Try.f5) = []) (all_nil)) (to _ (by kernel_rfl) h6.of)
end Go.Proofs.Ytfdoaacapkopmaa
