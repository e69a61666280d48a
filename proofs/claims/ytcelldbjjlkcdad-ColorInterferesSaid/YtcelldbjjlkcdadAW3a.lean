/- The functions compute that (printed by a program). -/
import Derived.Test.YtcelldbjjlkcdadAD3
import Derived.Test.YtcelldbjjlkcdadAEnvC
import Derived.KernelRfl
namespace Go.Proofs.Ytcelldbjjlkcdad
open Go.Abs
set_option maxRecDepth 100000
set_option maxHeartbeats 4000000
set_option linter.unusedVariables false
abbrev wI : Ty := .int .i64
abbrev w0 : Ty := .pair (.sl (.pair wI (.pair wI (.pair wI (.pair wI (.pair wI (.pair (.sl wI) .unit))))))) (.pair (.pair wI (.pair wI (.pair wI (.pair wI (.pair wI (.pair (.sl wI) .unit)))))) .unit)
abbrev w1 : Ty := .pair wI (.pair (.sl wI) (.pair wI (.pair (.sl w0) .unit)))
abbrev w2 : Ty := .pair (.sl (.sl .bool)) (.pair (.sl .bool) (.pair (.sl .bool) (.pair (.sl (.arr 2 wI)) .unit)))
abbrev w3 : Ty := .pair wI (.pair wI (.pair wI (.pair wI (.pair wI (.pair (.sl wI) .unit)))))
abbrev w4 : Ty := .pair (.sl wI) (.pair (.sl wI) (.pair wI .unit))
theorem cD {t : Ty} {l : List AV} {F : t.T → List AV → Prop} (h : asCons l fun a r => asD t a fun s => F s r) : ∃ s r, l = .d t s :: r ∧ F s r := by
  obtain ⟨a, r, rfl, h1⟩ := asCons_inv h
  obtain ⟨s, rfl, h2⟩ := asD_inv h1
  exact ⟨s, r, rfl, h2⟩
theorem cP {p : AV} {l : List AV} {F : List AV → Prop} (h : asCons l fun a r => asP p a <| F r) : ∃ r, l = p :: r ∧ F r := by
  obtain ⟨a, r, rfl, h1⟩ := asCons_inv h
  obtain ⟨rfl, h2⟩ := asP_inv h1
  exact ⟨r, rfl, h2⟩
theorem cR {t : Ty} {ex : Bool} {l : List Ob} {F : List t.T → List Ob → Prop} (h : asCons l fun a r => asRw t ex a fun s => F s r) : ∃ s r, l = .row t s ex :: r ∧ F s r := by
  obtain ⟨a, r, rfl, h1⟩ := asCons_inv h
  obtain ⟨s, rfl, h2⟩ := asRw_inv h1
  exact ⟨s, r, rfl, h2⟩
theorem oD {u t : Ty} {l : List Ob} {F : t.T → List Ob → Prop} (h : asCons l fun a r => asOne u a fun v => asD t v fun s => F s r) : ∃ s r, l = .one u (.d t s) :: r ∧ F s r := by
  obtain ⟨a, r, rfl, h1⟩ := asCons_inv h
  obtain ⟨v, rfl, h2⟩ := asOne_inv h1
  obtain ⟨s, rfl, h3⟩ := asD_inv h2
  exact ⟨s, r, rfl, h3⟩
theorem oP {u : Ty} {p : AV} {l : List Ob} {F : List Ob → Prop} (h : asCons l fun a r => asOne u a fun v => asP p v <| F r) : ∃ r, l = .one u p :: r ∧ F r := by
  obtain ⟨a, r, rfl, h1⟩ := asCons_inv h
  obtain ⟨v, rfl, h2⟩ := asOne_inv h1
  obtain ⟨rfl, h3⟩ := asP_inv h2
  exact ⟨r, rfl, h3⟩
theorem cN {α : Type} {l : List α} {F} (h : asNil l F) : l = [] ∧ F := asNil_inv h
abbrev wF := inlF (PA (ACall E)) E 8
abbrev wL := List (Nat × List Nat × Pat × LSp)
abbrev wS := List (Nat × Pat × Sp)
abbrev S10 : wS := []
theorem hS10 : SpecOK E (ofL S10) := specOK_nil
abbrev L10 : wL := []
def sp10 : Sp := fun args τ K => asNil args <| asNil τ <| c10  (fun z1 z2 z3 z4 => K (.agg [I z1, .vec 0, I z2, .vec 1]) [.row wI z3 false, .row w0 z4 false])
theorem h10 : ∀ args τ K, sp10 args τ K → ACall E 10 args τ K := by
  intro args τ K h0
  unfold sp10 at h0
  obtain ⟨rfl, h1⟩ := cN h0
  obtain ⟨rfl, h2⟩ := cN h1
  exact ACall.spec2 (fn := Try.f10) (c := codeOf Try.f10) (S := ofL S10) (L := lofL L10) hS10 (by kernel_rfl) (by kernel_rfl) (inlOK _) (all_eq (by kernel_rfl : subsOf (E.info 10).keep (codeOf Try.f10) = []) (all_nil)) (by kernel_rfl) h2.of
abbrev S22 : wS := []
theorem hS22 : SpecOK E (ofL S22) := specOK_nil
abbrev L22 : wL := []
def sp22 : Sp := fun args τ K => asCons args fun a1 r1 => asD wI a1 fun x1 => asCons r1 fun a2 r2 => asD wI a2 fun x2 => asCons r2 fun a3 r3 => asD wI a3 fun x3 => asNil r3 <| asNil τ <| c22 x1 x2 x3 (fun z1 => K (B z1) [])
theorem h22 : ∀ args τ K, sp22 args τ K → ACall E 22 args τ K := by
  intro args τ K h0
  unfold sp22 at h0
  obtain ⟨x1, r1, rfl, h2⟩ := cD h0
  obtain ⟨x2, r2, rfl, h4⟩ := cD h2
  obtain ⟨x3, r3, rfl, h6⟩ := cD h4
  obtain ⟨rfl, h7⟩ := cN h6
  obtain ⟨rfl, h8⟩ := cN h7
  exact ACall.spec2 (fn := Try.f22) (c := codeOf Try.f22) (S := ofL S22) (L := lofL L22) hS22 (by kernel_rfl) (by kernel_rfl) (inlOK _) (all_eq (by kernel_rfl : subsOf (E.info 22).keep (codeOf Try.f22) = []) (all_nil)) (by kernel_rfl) h8.of
abbrev Sl41r2 : wS := []
theorem hSl41r2 : SpecOK E (ofL Sl41r2) := specOK_nil
abbrev Ll41r2 : wL := []
def lsl41r2 : LSp := fun vs σ K => asCons vs fun a1 r1 => asD (.sl wI) a1 fun s1 => asCons r1 fun a2 r2 => asD wI a2 fun s2 => asCons r2 fun a3 r3 => asD wI a3 fun s3 => asCons r3 fun a4 r4 => asD wI a4 fun s4 => asNil r4 <| asNil σ <| l41r2 (fun z1 => K .ret [(4, I z1)] []) (K (.exit 0) [(4, .undef)] []) s1 s2 s3 s4
theorem l41r2v : LoopV E wF (E.info 41).keep 0 Try.f41.ntmps 42000002 (body Try.f41 2) ([0, 1, 7, 8], lsl41r2) := by
  intro vs σ K (h0 : lsl41r2 vs σ K)
  unfold lsl41r2 at h0
  obtain ⟨s1, r1, rfl, h2⟩ := cD h0
  obtain ⟨s2, r2, rfl, h4⟩ := cD h2
  obtain ⟨s3, r3, rfl, h6⟩ := cD h4
  obtain ⟨s4, r4, rfl, h8⟩ := cD h6
  obtain ⟨rfl, h9⟩ := cN h8
  obtain ⟨rfl, h10⟩ := cN h9
  intro J hJ
  have hp : ∀ c' ∈ subsOf (E.info 41).keep (body Try.f41 2), SubOK E wF (E.info 41).keep 0 Try.f41.ntmps (lofL Ll41r2) c' := all_eq (by kernel_rfl : subsOf (E.info 41).keep (body Try.f41 2) = []) (all_nil)
  exact h10.of (fun s1 s2 s3 s4 => J [(42000002, .undef), (0, .d (.sl wI) s1), (1, I s2), (7, I s3), (8, I s4)] []) (fun s1 s2 s3 s4 hb => loop_round2 (S := ofL Sl41r2) (L := lofL Ll41r2) hSl41r2 (inlOK _) hp hJ (by kernel_rfl) hb)
abbrev S41 : wS := []
theorem hS41 : SpecOK E (ofL S41) := specOK_nil
abbrev L41 : wL := [(42000002, [0, 1, 7, 8], none, lsl41r2)]
def sp41 : Sp := fun args τ K => asCons args fun a1 r1 => asD (.sl wI) a1 fun x1 => asCons r1 fun a2 r2 => asD wI a2 fun x2 => asNil r2 <| asNil τ <| c41 x1 x2 (fun z1 => K (I z1) [])
theorem h41 : ∀ args τ K, sp41 args τ K → ACall E 41 args τ K := by
  intro args τ K h0
  unfold sp41 at h0
  obtain ⟨x1, r1, rfl, h2⟩ := cD h0
  obtain ⟨x2, r2, rfl, h4⟩ := cD h2
  obtain ⟨rfl, h5⟩ := cN h4
  obtain ⟨rfl, h6⟩ := cN h5
  exact ACall.spec2 (fn := Try.f41) (c := codeOf Try.f41) (S := ofL S41) (L := lofL L41) hS41 (by kernel_rfl) (by kernel_rfl) (inlOK _) (all_eq (by kernel_rfl : subsOf (E.info 41).keep (codeOf Try.f41) = [.loop (body Try.f41 2)]) (all_cons (loopOK_of (mk := 42000002) (sl := [0, 1, 7, 8]) (ss := [([0, 1, 7, 8], lsl41r2)]) (by kernel_rfl) (by kernel_rfl) (all_cons l41r2v (all_nil))) (all_nil))) (by kernel_rfl) h6.of
abbrev S23 : wS := [(41, none, sp41)]
theorem hS23 : SpecOK E (ofL S23) := specOK_cons h41 (specOK_nil)
abbrev L23 : wL := []
def sp23 : Sp := fun args τ K => asCons args fun a1 r1 => asD (.sl wI) a1 fun x1 => asCons r1 fun a2 r2 => asD wI a2 fun x2 => asNil r2 <| asNil τ <| c23 x1 x2 (fun z1 => K (B z1) [])
theorem h23 : ∀ args τ K, sp23 args τ K → ACall E 23 args τ K := by
  intro args τ K h0
  unfold sp23 at h0
  obtain ⟨x1, r1, rfl, h2⟩ := cD h0
  obtain ⟨x2, r2, rfl, h4⟩ := cD h2
  obtain ⟨rfl, h5⟩ := cN h4
  obtain ⟨rfl, h6⟩ := cN h5
  exact ACall.spec2 (fn := Try.f23) (c := codeOf Try.f23) (S := ofL S23) (L := lofL L23) hS23 (by kernel_rfl) (by kernel_rfl) (inlOK _) (all_eq (by kernel_rfl : subsOf (E.info 23).keep (codeOf Try.f23) = []) (all_nil)) (by kernel_rfl) h6.of
abbrev Sl11r6 : wS := [(22, none, sp22), (23, none, sp23)]
theorem hSl11r6 : SpecOK E (ofL Sl11r6) := specOK_cons h22 (specOK_cons h23 (specOK_nil))
abbrev Ll11r6 : wL := []
def lsl11r6 : LSp := fun vs σ K => asCons vs fun a1 r1 => asP (.ptr 0 0 []) a1 <| asCons r1 fun a2 r2 => asD (.sl wI) a2 fun s1 => asCons r2 fun a3 r3 => asD wI a3 fun s2 => asCons r3 fun a4 r4 => asD wI a4 fun s3 => asNil r4 <| asCons σ fun a5 r5 => asOne w1 a5 fun a6 => asD w1 a6 fun s4 => asNil r5 <| l11r6 (fun z1 => K .ret [(1, .undef), (2, I z1)] []) (fun z1 => K (.exit 0) [(1, .ptr 0 0 []), (2, .undef)] [.one w1 (.d w1 z1)]) s1 s2 s3 s4
theorem l11r6v : LoopV E wF (E.info 11).keep 0 Try.f11.ntmps 12000006 (body Try.f11 6) ([1, 35, 36, 37], lsl11r6) := by
  intro vs σ K (h0 : lsl11r6 vs σ K)
  unfold lsl11r6 at h0
  obtain ⟨r1, rfl, h2⟩ := cP h0
  obtain ⟨s1, r2, rfl, h4⟩ := cD h2
  obtain ⟨s2, r3, rfl, h6⟩ := cD h4
  obtain ⟨s3, r4, rfl, h8⟩ := cD h6
  obtain ⟨rfl, h9⟩ := cN h8
  obtain ⟨s4, r5, rfl, h12⟩ := oD h9
  obtain ⟨rfl, h13⟩ := cN h12
  intro J hJ
  have hp : ∀ c' ∈ subsOf (E.info 11).keep (body Try.f11 6), SubOK E wF (E.info 11).keep 0 Try.f11.ntmps (lofL Ll11r6) c' := all_eq (by kernel_rfl : subsOf (E.info 11).keep (body Try.f11 6) = []) (all_nil)
  exact h13.of (fun s1 s2 s3 s4 => J [(12000006, .undef), (1, .ptr 0 0 []), (35, .d (.sl wI) s1), (36, I s2), (37, I s3)] [.one w1 (.d w1 s4)]) (fun s1 s2 s3 s4 hb => loop_round2 (S := ofL Sl11r6) (L := lofL Ll11r6) hSl11r6 (inlOK _) hp hJ (by kernel_rfl) hb)
abbrev S42 : wS := []
theorem hS42 : SpecOK E (ofL S42) := specOK_nil
abbrev L42 : wL := []
def sp42 : Sp := fun args τ K => asCons args fun a1 r1 => asD wI a1 fun x1 => asNil r1 <| asNil τ <| c42 x1 (fun z1 z2 => K (.tup [.d (.pair .bool (.pair .bool (.pair .bool (.pair .bool (.pair .bool .unit))))) z1, B z2]) [])
theorem h42 : ∀ args τ K, sp42 args τ K → ACall E 42 args τ K := by
  intro args τ K h0
  unfold sp42 at h0
  obtain ⟨x1, r1, rfl, h2⟩ := cD h0
  obtain ⟨rfl, h3⟩ := cN h2
  obtain ⟨rfl, h4⟩ := cN h3
  exact ACall.spec2 (fn := Try.f42) (c := codeOf Try.f42) (S := ofL S42) (L := lofL L42) hS42 (by kernel_rfl) (by kernel_rfl) (inlOK _) (all_eq (by kernel_rfl : subsOf (E.info 42).keep (codeOf Try.f42) = []) (all_nil)) (by kernel_rfl) h4.of
abbrev Sj24s4 : wS := []
theorem hSj24s4 : SpecOK E (ofL Sj24s4) := specOK_nil
abbrev Lj24s4 : wL := []
def lsj24s4 : LSp := fun vs σ K => asCons vs fun a1 r1 => asD wI a1 fun s1 => asCons r1 fun a2 r2 => asP (.ptr 0 0 []) a2 <| asCons r2 fun a3 r3 => asD .bool a3 fun s2 => asNil r3 <| asCons σ fun a4 r4 => asOne w3 a4 fun a5 => asD w3 a5 fun s3 => asNil r4 <| j24s4 (fun z1 => K .ret [(1, .undef), (2, .undef), (4, I z1)] []) (fun z1 z2 => K .normal [(1, I z1), (2, .ptr 0 0 []), (4, .undef)] [.one w3 (.d w3 z2)]) s1 s2 s3
theorem j24s4v : JoinV E wF (E.info 24).keep 0 Try.f24.ntmps 25500004 5000004 (jbody Try.f24 5000004) ([1, 2, 65], lsj24s4) := by
  intro vs σ K (h0 : lsj24s4 vs σ K)
  unfold lsj24s4 at h0
  obtain ⟨s1, r1, rfl, h2⟩ := cD h0
  obtain ⟨r2, rfl, h4⟩ := cP h2
  obtain ⟨s2, r3, rfl, h6⟩ := cD h4
  obtain ⟨rfl, h7⟩ := cN h6
  obtain ⟨s3, r4, rfl, h10⟩ := oD h7
  obtain ⟨rfl, h11⟩ := cN h10
  exact join_round2 (S := ofL Sj24s4) (L := lofL Lj24s4) hSj24s4 (inlOK _) (all_eq (by kernel_rfl : subsOf (E.info 24).keep (jbody Try.f24 5000004) = []) (all_nil)) (by kernel_rfl) h11.of
abbrev Sj24s6 : wS := []
theorem hSj24s6 : SpecOK E (ofL Sj24s6) := specOK_nil
abbrev Lj24s6 : wL := []
def lsj24s6 : LSp := fun vs σ K => asCons vs fun a1 r1 => asD wI a1 fun s1 => asCons r1 fun a2 r2 => asP (.ptr 0 0 []) a2 <| asCons r2 fun a3 r3 => asD .bool a3 fun s2 => asNil r3 <| asCons σ fun a4 r4 => asOne w3 a4 fun a5 => asD w3 a5 fun s3 => asNil r4 <| j24s6 (fun z1 => K .ret [(1, .undef), (2, .undef), (4, I z1)] []) (fun z1 z2 => K .normal [(1, I z1), (2, .ptr 0 0 []), (4, .undef)] [.one w3 (.d w3 z2)]) s1 s2 s3
theorem j24s6v : JoinV E wF (E.info 24).keep 0 Try.f24.ntmps 25500006 5000006 (jbody Try.f24 5000006) ([1, 2, 118], lsj24s6) := by
  intro vs σ K (h0 : lsj24s6 vs σ K)
  unfold lsj24s6 at h0
  obtain ⟨s1, r1, rfl, h2⟩ := cD h0
  obtain ⟨r2, rfl, h4⟩ := cP h2
  obtain ⟨s2, r3, rfl, h6⟩ := cD h4
  obtain ⟨rfl, h7⟩ := cN h6
  obtain ⟨s3, r4, rfl, h10⟩ := oD h7
  obtain ⟨rfl, h11⟩ := cN h10
  exact join_round2 (S := ofL Sj24s6) (L := lofL Lj24s6) hSj24s6 (inlOK _) (all_eq (by kernel_rfl : subsOf (E.info 24).keep (jbody Try.f24 5000006) = []) (all_nil)) (by kernel_rfl) h11.of
abbrev Sl24r9 : wS := [(22, none, sp22)]
theorem hSl24r9 : SpecOK E (ofL Sl24r9) := specOK_cons h22 (specOK_nil)
abbrev Ll24r9 : wL := []
def lsl24r9 : LSp := fun vs σ K => asCons vs fun a1 r1 => asD wI a1 fun s1 => asCons r1 fun a2 r2 => asP (.vec 0) a2 <| asCons r2 fun a3 r3 => asD wI a3 fun s2 => asCons r3 fun a4 r4 => asD wI a4 fun s3 => asNil r4 <| asCons σ fun a5 r5 => asRw wI false a5 fun s4 => asNil r5 <| l24r9 (fun z1 => K .ret [(4, I z1)] []) (K (.exit 0) [(4, .undef)] []) s1 s2 s3 s4
theorem l24r9v : LoopV E wF (E.info 24).keep 0 Try.f24.ntmps 25000009 (body Try.f24 9) ([1, 128, 129, 130], lsl24r9) := by
  intro vs σ K (h0 : lsl24r9 vs σ K)
  unfold lsl24r9 at h0
  obtain ⟨s1, r1, rfl, h2⟩ := cD h0
  obtain ⟨r2, rfl, h4⟩ := cP h2
  obtain ⟨s2, r3, rfl, h6⟩ := cD h4
  obtain ⟨s3, r4, rfl, h8⟩ := cD h6
  obtain ⟨rfl, h9⟩ := cN h8
  obtain ⟨s4, r5, rfl, h11⟩ := cR h9
  obtain ⟨rfl, h12⟩ := cN h11
  intro J hJ
  have hp : ∀ c' ∈ subsOf (E.info 24).keep (body Try.f24 9), SubOK E wF (E.info 24).keep 0 Try.f24.ntmps (lofL Ll24r9) c' := all_eq (by kernel_rfl : subsOf (E.info 24).keep (body Try.f24 9) = []) (all_nil)
  exact h12.of (fun s1 s2 s3 s4 => J [(25000009, .undef), (1, I s1), (128, .vec 0), (129, I s2), (130, I s3)] [.row wI s4 false]) (fun s1 s2 s3 s4 hb => loop_round2 (S := ofL Sl24r9) (L := lofL Ll24r9) hSl24r9 (inlOK _) hp hJ (by kernel_rfl) hb)
abbrev Sj24r8 : wS := []
theorem hSj24r8 : SpecOK E (ofL Sj24r8) := specOK_nil
abbrev Lj24r8 : wL := [(25000009, [1, 128, 129, 130], none, lsl24r9)]
def lsj24r8 : LSp := fun vs σ K => asCons vs fun a1 r1 => asD wI a1 fun s1 => asCons r1 fun a2 r2 => asP (.ptr 0 0 []) a2 <| asNil r2 <| asCons σ fun a3 r3 => asOne w3 a3 fun a4 => asD w3 a4 fun s2 => asNil r3 <| j24r8 (fun z1 => K .ret [(4, I z1)] []) s1 s2
theorem j24r8v : JoinV E wF (E.info 24).keep 0 Try.f24.ntmps 25400008 4000008 (jbody Try.f24 4000008) ([1, 2], lsj24r8) := by
  intro vs σ K (h0 : lsj24r8 vs σ K)
  unfold lsj24r8 at h0
  obtain ⟨s1, r1, rfl, h2⟩ := cD h0
  obtain ⟨r2, rfl, h4⟩ := cP h2
  obtain ⟨rfl, h5⟩ := cN h4
  obtain ⟨s2, r3, rfl, h8⟩ := oD h5
  obtain ⟨rfl, h9⟩ := cN h8
  exact join_round2 (S := ofL Sj24r8) (L := lofL Lj24r8) hSj24r8 (inlOK _) (all_eq (by kernel_rfl : subsOf (E.info 24).keep (jbody Try.f24 4000008) = [.loop (body Try.f24 9)]) (all_cons (loopOK_of (mk := 25000009) (sl := [1, 128, 129, 130]) (ss := [([1, 128, 129, 130], lsl24r9)]) (by kernel_rfl) (by kernel_rfl) (all_cons l24r9v (all_nil))) (all_nil))) (by kernel_rfl) h9.of
abbrev Sj24r6 : wS := [(22, none, sp22)]
theorem hSj24r6 : SpecOK E (ofL Sj24r6) := specOK_cons h22 (specOK_nil)
abbrev Lj24r6 : wL := [(25500006, [1, 2, 118], none, lsj24s6), (25400008, [1, 2], none, lsj24r8)]
def lsj24r6 : LSp := fun vs σ K => asCons vs fun a1 r1 => asD wI a1 fun s1 => asCons r1 fun a2 r2 => asP (.ptr 0 0 []) a2 <| asNil r2 <| asCons σ fun a3 r3 => asOne w3 a3 fun a4 => asD w3 a4 fun s2 => asNil r3 <| j24r6 (fun z1 => K .ret [(4, I z1)] []) s1 s2
theorem j24r6v : JoinV E wF (E.info 24).keep 0 Try.f24.ntmps 25400006 4000006 (jbody Try.f24 4000006) ([1, 2], lsj24r6) := by
  intro vs σ K (h0 : lsj24r6 vs σ K)
  unfold lsj24r6 at h0
  obtain ⟨s1, r1, rfl, h2⟩ := cD h0
  obtain ⟨r2, rfl, h4⟩ := cP h2
  obtain ⟨rfl, h5⟩ := cN h4
  obtain ⟨s2, r3, rfl, h8⟩ := oD h5
  obtain ⟨rfl, h9⟩ := cN h8
  exact join_round2 (S := ofL Sj24r6) (L := lofL Lj24r6) hSj24r6 (inlOK _) (all_eq (by kernel_rfl : subsOf (E.info 24).keep (jbody Try.f24 4000006) = [.join 4000008 (jbody Try.f24 4000008), .join 5000006 (jbody Try.f24 5000006)]) (all_cons (joinOK_of (mk := 25400008) (sl := [1, 2]) (ss := [([1, 2], lsj24r8)]) (by kernel_rfl) (by kernel_rfl) (all_cons j24r8v (all_nil))) (all_cons (joinOK_of (mk := 25500006) (sl := [1, 2, 118]) (ss := [([1, 2, 118], lsj24s6)]) (by kernel_rfl) (by kernel_rfl) (all_cons j24s6v (all_nil))) (all_nil)))) (by kernel_rfl) h9.of
abbrev S24 : wS := [(42, none, sp42)]
theorem hS24 : SpecOK E (ofL S24) := specOK_cons h42 (specOK_nil)
abbrev L24 : wL := [(25500004, [1, 2, 65], none, lsj24s4), (25400006, [1, 2], none, lsj24r6)]
def sp24 : Sp := fun args τ K => asCons args fun a1 r1 => asD w3 a1 fun x1 => asCons r1 fun a2 r2 => asD wI a2 fun x2 => asNil r2 <| asNil τ <| c24 x1 x2 (fun z1 => K (I z1) [])
theorem h24 : ∀ args τ K, sp24 args τ K → ACall E 24 args τ K := by
  intro args τ K h0
  unfold sp24 at h0
  obtain ⟨x1, r1, rfl, h2⟩ := cD h0
  obtain ⟨x2, r2, rfl, h4⟩ := cD h2
  obtain ⟨rfl, h5⟩ := cN h4
  obtain ⟨rfl, h6⟩ := cN h5
  exact ACall.spec2 (fn := Try.f24) (c := codeOf Try.f24) (S := ofL S24) (L := lofL L24) hS24 (by kernel_rfl) (by kernel_rfl) (inlOK _) (all_eq (by kernel_rfl : subsOf (E.info 24).keep (codeOf Try.f24) = [.join 4000006 (jbody Try.f24 4000006), .join 5000004 (jbody Try.f24 5000004)]) (all_cons (joinOK_of (mk := 25400006) (sl := [1, 2]) (ss := [([1, 2], lsj24r6)]) (by kernel_rfl) (by kernel_rfl) (all_cons j24r6v (all_nil))) (all_cons (joinOK_of (mk := 25500004) (sl := [1, 2, 65]) (ss := [([1, 2, 65], lsj24s4)]) (by kernel_rfl) (by kernel_rfl) (all_cons j24s4v (all_nil))) (all_nil)))) (by kernel_rfl) h6.of
abbrev Sl11r21 : wS := [(24, none, sp24)]
theorem hSl11r21 : SpecOK E (ofL Sl11r21) := specOK_cons h24 (specOK_nil)
abbrev Ll11r21 : wL := []
def lsl11r21 : LSp := fun vs σ K => asCons vs fun a1 r1 => asP (.ptr 0 0 []) a1 <| asCons r1 fun a2 r2 => asD wI a2 fun s1 => asCons r2 fun a3 r3 => asP (.ptr 1 0 []) a3 <| asCons r3 fun a4 r4 => asD (.sl w0) a4 fun s2 => asCons r4 fun a5 r5 => asD wI a5 fun s3 => asCons r5 fun a6 r6 => asD wI a6 fun s4 => asCons r6 fun a7 r7 => asD (.sl w3) a7 fun s5 => asCons r7 fun a8 r8 => asD wI a8 fun s6 => asCons r8 fun a9 r9 => asD wI a9 fun s7 => asNil r9 <| asCons σ fun a10 r10 => asOne w1 a10 fun a11 => asD w1 a11 fun s8 => asCons r10 fun a12 r12 => asOne w0 a12 fun a13 => asD w0 a13 fun s9 => asNil r12 <| l11r21 (fun z1 => K .ret [(1, .undef), (2, I z1), (5, .undef), (7, .undef), (56, .undef), (57, .undef), (58, .undef)] []) (fun z1 z2 z3 z4 z5 z6 => K (.exit 4) [(1, .ptr 0 0 []), (2, .undef), (5, I z1), (7, .ptr 1 0 []), (56, .d (.sl w0) z2), (57, I z3), (58, I z4)] [.one w1 (.d w1 z5), .one w0 (.d w0 z6)]) s1 s2 s3 s4 s5 s6 s7 s8 s9
theorem l11r21v : LoopV E wF (E.info 11).keep 0 Try.f11.ntmps 12000021 (body Try.f11 21) ([1, 5, 7, 56, 57, 58, 70, 71, 72], lsl11r21) := by
  intro vs σ K (h0 : lsl11r21 vs σ K)
  unfold lsl11r21 at h0
  obtain ⟨r1, rfl, h2⟩ := cP h0
  obtain ⟨s1, r2, rfl, h4⟩ := cD h2
  obtain ⟨r3, rfl, h6⟩ := cP h4
  obtain ⟨s2, r4, rfl, h8⟩ := cD h6
  obtain ⟨s3, r5, rfl, h10⟩ := cD h8
  obtain ⟨s4, r6, rfl, h12⟩ := cD h10
  obtain ⟨s5, r7, rfl, h14⟩ := cD h12
  obtain ⟨s6, r8, rfl, h16⟩ := cD h14
  obtain ⟨s7, r9, rfl, h18⟩ := cD h16
  obtain ⟨rfl, h19⟩ := cN h18
  obtain ⟨s8, r10, rfl, h22⟩ := oD h19
  obtain ⟨s9, r12, rfl, h25⟩ := oD h22
  obtain ⟨rfl, h26⟩ := cN h25
  intro J hJ
  have hp : ∀ c' ∈ subsOf (E.info 11).keep (body Try.f11 21), SubOK E wF (E.info 11).keep 0 Try.f11.ntmps (lofL Ll11r21) c' := all_eq (by kernel_rfl : subsOf (E.info 11).keep (body Try.f11 21) = []) (all_nil)
  exact h26.of (fun s1 s2 s3 s4 s5 s6 s7 s8 s9 => J [(12000021, .undef), (1, .ptr 0 0 []), (5, I s1), (7, .ptr 1 0 []), (56, .d (.sl w0) s2), (57, I s3), (58, I s4), (70, .d (.sl w3) s5), (71, I s6), (72, I s7)] [.one w1 (.d w1 s8), .one w0 (.d w0 s9)]) (fun s1 s2 s3 s4 s5 s6 s7 s8 s9 hb => loop_round2 (S := ofL Sl11r21) (L := lofL Ll11r21) hSl11r21 (inlOK _) hp hJ (by kernel_rfl) hb)
abbrev Sl25r17 : wS := [(22, none, sp22)]
theorem hSl25r17 : SpecOK E (ofL Sl25r17) := specOK_cons h22 (specOK_nil)
abbrev Ll25r17 : wL := []
def lsl25r17 : LSp := fun vs σ K => asCons vs fun a1 r1 => asD wI a1 fun s1 => asCons r1 fun a2 r2 => asD (.sl wI) a2 fun s2 => asCons r2 fun a3 r3 => asD wI a3 fun s3 => asCons r3 fun a4 r4 => asD wI a4 fun s4 => asNil r4 <| asNil σ <| l25r17 (fun z1 => K .ret [(6, I z1)] []) (K (.exit 1) [(6, .undef)] []) s1 s2 s3 s4
theorem l25r17v : LoopV E wF (E.info 25).keep 0 Try.f25.ntmps 26000017 (body Try.f25 17) ([2, 112, 113, 114], lsl25r17) := by
  intro vs σ K (h0 : lsl25r17 vs σ K)
  unfold lsl25r17 at h0
  obtain ⟨s1, r1, rfl, h2⟩ := cD h0
  obtain ⟨s2, r2, rfl, h4⟩ := cD h2
  obtain ⟨s3, r3, rfl, h6⟩ := cD h4
  obtain ⟨s4, r4, rfl, h8⟩ := cD h6
  obtain ⟨rfl, h9⟩ := cN h8
  obtain ⟨rfl, h10⟩ := cN h9
  intro J hJ
  have hp : ∀ c' ∈ subsOf (E.info 25).keep (body Try.f25 17), SubOK E wF (E.info 25).keep 0 Try.f25.ntmps (lofL Ll25r17) c' := all_eq (by kernel_rfl : subsOf (E.info 25).keep (body Try.f25 17) = []) (all_nil)
  exact h10.of (fun s1 s2 s3 s4 => J [(26000017, .undef), (2, I s1), (112, .d (.sl wI) s2), (113, I s3), (114, I s4)] []) (fun s1 s2 s3 s4 hb => loop_round2 (S := ofL Sl25r17) (L := lofL Ll25r17) hSl25r17 (inlOK _) hp hJ (by kernel_rfl) hb)
abbrev Sj25r12 : wS := [(22, none, sp22)]
theorem hSj25r12 : SpecOK E (ofL Sj25r12) := specOK_cons h22 (specOK_nil)
abbrev Lj25r12 : wL := [(26000017, [2, 112, 113, 114], none, lsl25r17)]
def lsj25r12 : LSp := fun vs σ K => asCons vs fun a1 r1 => asD wI a1 fun s1 => asCons r1 fun a2 r2 => asD wI a2 fun s2 => asCons r2 fun a3 r3 => asP (.ptr 0 0 []) a3 <| asCons r3 fun a4 r4 => asD wI a4 fun s3 => asCons r4 fun a5 r5 => asD .bool a5 fun s4 => asNil r5 <| asCons σ fun a6 r6 => asOne w3 a6 fun a7 => asD w3 a7 fun s5 => asNil r6 <| j25r12 (fun z1 => K .ret [(6, I z1)] []) s1 s2 s3 s4 s5
theorem j25r12v : JoinV E wF (E.info 25).keep 0 Try.f25.ntmps 26400012 4000012 (jbody Try.f25 4000012) ([1, 2, 3, 7, 8], lsj25r12) := by
  intro vs σ K (h0 : lsj25r12 vs σ K)
  unfold lsj25r12 at h0
  obtain ⟨s1, r1, rfl, h2⟩ := cD h0
  obtain ⟨s2, r2, rfl, h4⟩ := cD h2
  obtain ⟨r3, rfl, h6⟩ := cP h4
  obtain ⟨s3, r4, rfl, h8⟩ := cD h6
  obtain ⟨s4, r5, rfl, h10⟩ := cD h8
  obtain ⟨rfl, h11⟩ := cN h10
  obtain ⟨s5, r6, rfl, h14⟩ := oD h11
  obtain ⟨rfl, h15⟩ := cN h14
  exact join_round2 (S := ofL Sj25r12) (L := lofL Lj25r12) hSj25r12 (inlOK _) (all_eq (by kernel_rfl : subsOf (E.info 25).keep (jbody Try.f25 4000012) = [.loop (body Try.f25 17)]) (all_cons (loopOK_of (mk := 26000017) (sl := [2, 112, 113, 114]) (ss := [([2, 112, 113, 114], lsl25r17)]) (by kernel_rfl) (by kernel_rfl) (all_cons l25r17v (all_nil))) (all_nil))) (by kernel_rfl) h15.of
abbrev S25 : wS := [(22, none, sp22)]
theorem hS25 : SpecOK E (ofL S25) := specOK_cons h22 (specOK_nil)
abbrev L25 : wL := [(26400012, [1, 2, 3, 7, 8], none, lsj25r12)]
def sp25 : Sp := fun args τ K => asCons args fun a1 r1 => asD w3 a1 fun x1 => asCons r1 fun a2 r2 => asD wI a2 fun x2 => asCons r2 fun a3 r3 => asD wI a3 fun x3 => asNil r3 <| asNil τ <| c25 x1 x2 x3 (fun z1 => K (I z1) [])
theorem h25 : ∀ args τ K, sp25 args τ K → ACall E 25 args τ K := by
  intro args τ K h0
  unfold sp25 at h0
  obtain ⟨x1, r1, rfl, h2⟩ := cD h0
  obtain ⟨x2, r2, rfl, h4⟩ := cD h2
  obtain ⟨x3, r3, rfl, h6⟩ := cD h4
  obtain ⟨rfl, h7⟩ := cN h6
  obtain ⟨rfl, h8⟩ := cN h7
  exact ACall.spec2 (fn := Try.f25) (c := codeOf Try.f25) (S := ofL S25) (L := lofL L25) hS25 (by kernel_rfl) (by kernel_rfl) (inlOK _) (all_eq (by kernel_rfl : subsOf (E.info 25).keep (codeOf Try.f25) = [.join 4000012 (jbody Try.f25 4000012)]) (all_cons (joinOK_of (mk := 26400012) (sl := [1, 2, 3, 7, 8]) (ss := [([1, 2, 3, 7, 8], lsj25r12)]) (by kernel_rfl) (by kernel_rfl) (all_cons j25r12v (all_nil))) (all_nil))) (by kernel_rfl) h8.of
abbrev Sl11r15 : wS := [(25, none, sp25)]
theorem hSl11r15 : SpecOK E (ofL Sl11r15) := specOK_cons h25 (specOK_nil)
abbrev Ll11r15 : wL := [(12000021, [1, 5, 7, 56, 57, 58, 70, 71, 72], none, lsl11r21)]
def lsl11r15 : LSp := fun vs σ K => asCons vs fun a1 r1 => asP (.ptr 0 0 []) a1 <| asCons r1 fun a2 r2 => asD wI a2 fun s1 => asCons r2 fun a3 r3 => asD (.sl w0) a3 fun s2 => asCons r3 fun a4 r4 => asD wI a4 fun s3 => asCons r4 fun a5 r5 => asD wI a5 fun s4 => asNil r5 <| asCons σ fun a6 r6 => asOne w1 a6 fun a7 => asD w1 a7 fun s5 => asNil r6 <| l11r15 (fun z1 => K .ret [(1, .undef), (2, I z1)] []) (fun z1 => K (.exit 2) [(1, .ptr 0 0 []), (2, .undef)] [.one w1 (.d w1 z1)]) s1 s2 s3 s4 s5
theorem l11r15v : LoopV E wF (E.info 11).keep 0 Try.f11.ntmps 12000015 (body Try.f11 15) ([1, 5, 56, 57, 58], lsl11r15) := by
  intro vs σ K (h0 : lsl11r15 vs σ K)
  unfold lsl11r15 at h0
  obtain ⟨r1, rfl, h2⟩ := cP h0
  obtain ⟨s1, r2, rfl, h4⟩ := cD h2
  obtain ⟨s2, r3, rfl, h6⟩ := cD h4
  obtain ⟨s3, r4, rfl, h8⟩ := cD h6
  obtain ⟨s4, r5, rfl, h10⟩ := cD h8
  obtain ⟨rfl, h11⟩ := cN h10
  obtain ⟨s5, r6, rfl, h14⟩ := oD h11
  obtain ⟨rfl, h15⟩ := cN h14
  intro J hJ
  have hp : ∀ c' ∈ subsOf (E.info 11).keep (body Try.f11 15), SubOK E wF (E.info 11).keep 0 Try.f11.ntmps (lofL Ll11r15) c' := all_eq (by kernel_rfl : subsOf (E.info 11).keep (body Try.f11 15) = [.loop (body Try.f11 21)]) (all_cons (loopOK_of (mk := 12000021) (sl := [1, 5, 7, 56, 57, 58, 70, 71, 72]) (ss := [([1, 5, 7, 56, 57, 58, 70, 71, 72], lsl11r21)]) (by kernel_rfl) (by kernel_rfl) (all_cons l11r21v (all_nil))) (all_nil))
  exact h15.of (fun s1 s2 s3 s4 s5 => J [(12000015, .undef), (1, .ptr 0 0 []), (5, I s1), (56, .d (.sl w0) s2), (57, I s3), (58, I s4)] [.one w1 (.d w1 s5)]) (fun s1 s2 s3 s4 s5 hb => loop_round2 (S := ofL Sl11r15) (L := lofL Ll11r15) hSl11r15 (inlOK _) hp hJ (by kernel_rfl) hb)
abbrev Sl26r3 : wS := []
theorem hSl26r3 : SpecOK E (ofL Sl26r3) := specOK_nil
abbrev Ll26r3 : wL := []
def lsl26r3 : LSp := fun vs σ K => asCons vs fun a1 r1 => asP (.ptr 0 0 []) a1 <| asCons r1 fun a2 r2 => asP (.vec 1) a2 <| asCons r2 fun a3 r3 => asD wI a3 fun s1 => asCons r3 fun a4 r4 => asD wI a4 fun s2 => asNil r4 <| asCons σ fun a5 r5 => asOne w1 a5 fun a6 => asD w1 a6 fun s3 => asCons r5 fun a7 r7 => asDeep .bool a7 fun s4 l8 => asNil l8 <| asNil r7 <| l26r3 (fun z1 z2 => K (.exit 0) [(1, .ptr 0 0 []), (3, .vec 1)] [.one w1 (.d w1 z1), .deep .bool z2 []]) s1 s2 s3 s4
theorem l26r3v : LoopV E wF (E.info 26).keep 0 Try.f26.ntmps 27000003 (body Try.f26 3) ([1, 3, 13, 14], lsl26r3) := by
  intro vs σ K (h0 : lsl26r3 vs σ K)
  unfold lsl26r3 at h0
  obtain ⟨r1, rfl, h2⟩ := cP h0
  obtain ⟨r2, rfl, h4⟩ := cP h2
  obtain ⟨s1, r3, rfl, h6⟩ := cD h4
  obtain ⟨s2, r4, rfl, h8⟩ := cD h6
  obtain ⟨rfl, h9⟩ := cN h8
  obtain ⟨s3, r5, rfl, h12⟩ := oD h9
  obtain ⟨a7, r7, rfl, h13⟩ := asCons_inv h12
  obtain ⟨s4, l8, rfl, h14⟩ := asDeep_inv h13
  obtain ⟨rfl, h15⟩ := cN h14
  obtain ⟨rfl, h16⟩ := cN h15
  intro J hJ
  have hp : ∀ c' ∈ subsOf (E.info 26).keep (body Try.f26 3), SubOK E wF (E.info 26).keep 0 Try.f26.ntmps (lofL Ll26r3) c' := all_eq (by kernel_rfl : subsOf (E.info 26).keep (body Try.f26 3) = []) (all_nil)
  exact h16.of (fun s1 s2 s3 s4 => J [(27000003, .undef), (1, .ptr 0 0 []), (3, .vec 1), (13, I s1), (14, I s2)] [.one w1 (.d w1 s3), .deep .bool s4 []]) (fun s1 s2 s3 s4 hb => loop_round2 (S := ofL Sl26r3) (L := lofL Ll26r3) hSl26r3 (inlOK _) hp hJ (by kernel_rfl) hb)
abbrev Sl43r6 : wS := []
theorem hSl43r6 : SpecOK E (ofL Sl43r6) := specOK_nil
abbrev Ll43r6 : wL := []
def lsl43r6 : LSp := fun vs σ K => asCons vs fun a1 r1 => asP (.vec 0) a1 <| asCons r1 fun a2 r2 => asP (.vec 2) a2 <| asCons r2 fun a3 r3 => asD (.sl wI) a3 fun s1 => asCons r3 fun a4 r4 => asD wI a4 fun s2 => asCons r4 fun a5 r5 => asD wI a5 fun s3 => asCons r5 fun a6 r6 => asP (.vec 1) a6 <| asCons r6 fun a7 r7 => asD wI a7 fun s4 => asCons r7 fun a8 r8 => asD wI a8 fun s5 => asNil r8 <| asCons σ fun a9 r9 => asDeep .bool a9 fun s6 l10 => asCons l10 fun a11 r11 => asHole 1 a11 fun s7 => asNil r11 <| asCons r9 fun a12 r12 => asRw .bool false a12 fun s8 => asCons r12 fun a13 r13 => asRw .bool false a13 fun s9 => asNil r13 <| l43r6 (fun z1 z2 z3 z4 z5 => K (.exit 2) [(1, .vec 0), (7, .vec 1), (21, .d (.sl wI) z1), (22, I z2), (23, I z3)] [.deep .bool z4 [], .row .bool z5 false]) s1 s2 s3 s4 s5 s6 s7 s8 s9
theorem l43r6v : LoopV E wF (E.info 43).keep 1 Try.f43.ntmps 44000006 (body Try.f43 6) ([1, 7, 21, 22, 23, 30, 31, 32], lsl43r6) := by
  intro vs σ K (h0 : lsl43r6 vs σ K)
  unfold lsl43r6 at h0
  obtain ⟨r1, rfl, h2⟩ := cP h0
  obtain ⟨r2, rfl, h4⟩ := cP h2
  obtain ⟨s1, r3, rfl, h6⟩ := cD h4
  obtain ⟨s2, r4, rfl, h8⟩ := cD h6
  obtain ⟨s3, r5, rfl, h10⟩ := cD h8
  obtain ⟨r6, rfl, h12⟩ := cP h10
  obtain ⟨s4, r7, rfl, h14⟩ := cD h12
  obtain ⟨s5, r8, rfl, h16⟩ := cD h14
  obtain ⟨rfl, h17⟩ := cN h16
  obtain ⟨a9, r9, rfl, h18⟩ := asCons_inv h17
  obtain ⟨s6, l10, rfl, h19⟩ := asDeep_inv h18
  obtain ⟨a11, r11, rfl, h20⟩ := asCons_inv h19
  obtain ⟨s7, rfl, h21⟩ := asHole_inv h20
  obtain ⟨rfl, h22⟩ := cN h21
  obtain ⟨s8, r12, rfl, h24⟩ := cR h22
  obtain ⟨s9, r13, rfl, h26⟩ := cR h24
  obtain ⟨rfl, h27⟩ := cN h26
  intro J hJ
  have hp : ∀ c' ∈ subsOf (E.info 43).keep (body Try.f43 6), SubOK E wF (E.info 43).keep 1 Try.f43.ntmps (lofL Ll43r6) c' := all_eq (by kernel_rfl : subsOf (E.info 43).keep (body Try.f43 6) = []) (all_nil)
  exact h27.of (fun s1 s2 s3 s4 s5 s6 s7 s8 s9 => J [(44000006, .undef), (1, .vec 0), (7, .vec 2), (21, .d (.sl wI) s1), (22, I s2), (23, I s3), (30, .vec 1), (31, I s4), (32, I s5)] [.deep .bool s6 [(s7, 1)], .row .bool s8 false, .row .bool s9 false]) (fun s1 s2 s3 s4 s5 s6 s7 s8 s9 hb => loop_round2 (S := ofL Sl43r6) (L := lofL Ll43r6) hSl43r6 (inlOK _) hp hJ (by kernel_rfl) hb)
abbrev Sl43r3 : wS := []
theorem hSl43r3 : SpecOK E (ofL Sl43r3) := specOK_nil
abbrev Ll43r3 : wL := [(44000006, [1, 7, 21, 22, 23, 30, 31, 32], none, lsl43r6)]
def lsl43r3 : LSp := fun vs σ K => asCons vs fun a1 r1 => asP (.vec 0) a1 <| asCons r1 fun a2 r2 => asP (.vec 1) a2 <| asCons r2 fun a3 r3 => asD (.sl wI) a3 fun s1 => asCons r3 fun a4 r4 => asD wI a4 fun s2 => asCons r4 fun a5 r5 => asD wI a5 fun s3 => asNil r5 <| asCons σ fun a6 r6 => asDeep .bool a6 fun s4 l7 => asNil l7 <| asCons r6 fun a8 r8 => asRw .bool false a8 fun s5 => asNil r8 <| l43r3 (fun z1 z2 => K (.exit 0) [(7, .vec 1)] [.deep .bool z1 [], .row .bool z2 false]) s1 s2 s3 s4 s5
theorem l43r3v : LoopV E wF (E.info 43).keep 1 Try.f43.ntmps 44000003 (body Try.f43 3) ([1, 7, 21, 22, 23], lsl43r3) := by
  intro vs σ K (h0 : lsl43r3 vs σ K)
  unfold lsl43r3 at h0
  obtain ⟨r1, rfl, h2⟩ := cP h0
  obtain ⟨r2, rfl, h4⟩ := cP h2
  obtain ⟨s1, r3, rfl, h6⟩ := cD h4
  obtain ⟨s2, r4, rfl, h8⟩ := cD h6
  obtain ⟨s3, r5, rfl, h10⟩ := cD h8
  obtain ⟨rfl, h11⟩ := cN h10
  obtain ⟨a6, r6, rfl, h12⟩ := asCons_inv h11
  obtain ⟨s4, l7, rfl, h13⟩ := asDeep_inv h12
  obtain ⟨rfl, h14⟩ := cN h13
  obtain ⟨s5, r8, rfl, h16⟩ := cR h14
  obtain ⟨rfl, h17⟩ := cN h16
  intro J hJ
  have hp : ∀ c' ∈ subsOf (E.info 43).keep (body Try.f43 3), SubOK E wF (E.info 43).keep 1 Try.f43.ntmps (lofL Ll43r3) c' := all_eq (by kernel_rfl : subsOf (E.info 43).keep (body Try.f43 3) = [.loop (body Try.f43 6)]) (all_cons (loopOK_of (mk := 44000006) (sl := [1, 7, 21, 22, 23, 30, 31, 32]) (ss := [([1, 7, 21, 22, 23, 30, 31, 32], lsl43r6)]) (by kernel_rfl) (by kernel_rfl) (all_cons l43r6v (all_nil))) (all_nil))
  exact h17.of (fun s1 s2 s3 s4 s5 => J [(44000003, .undef), (1, .vec 0), (7, .vec 1), (21, .d (.sl wI) s1), (22, I s2), (23, I s3)] [.deep .bool s4 [], .row .bool s5 false]) (fun s1 s2 s3 s4 s5 hb => loop_round2 (S := ofL Sl43r3) (L := lofL Ll43r3) hSl43r3 (inlOK _) hp hJ (by kernel_rfl) hb)
abbrev S43 : wS := []
theorem hS43 : SpecOK E (ofL S43) := specOK_nil
abbrev L43 : wL := [(44000003, [1, 7, 21, 22, 23], none, lsl43r3)]
def sp43 : Sp := fun args τ K => asCons args fun a1 r1 => asD w1 a1 fun x1 => asCons r1 fun a2 r2 => asP (.vec 0) a2 <| asCons r2 fun a3 r3 => asD wI a3 fun x2 => asNil r3 <| asCons τ fun a4 r4 => asDeep .bool a4 fun x3 l5 => asNil l5 <| asNil r4 <| c43 x1 x2 x3 (fun z1 z2 => K (.vec 1) [.deep .bool z1 [], .row .bool z2 false])
theorem h43 : ∀ args τ K, sp43 args τ K → ACall E 43 args τ K := by
  intro args τ K h0
  unfold sp43 at h0
  obtain ⟨x1, r1, rfl, h2⟩ := cD h0
  obtain ⟨r2, rfl, h4⟩ := cP h2
  obtain ⟨x2, r3, rfl, h6⟩ := cD h4
  obtain ⟨rfl, h7⟩ := cN h6
  obtain ⟨a4, r4, rfl, h8⟩ := asCons_inv h7
  obtain ⟨x3, l5, rfl, h9⟩ := asDeep_inv h8
  obtain ⟨rfl, h10⟩ := cN h9
  obtain ⟨rfl, h11⟩ := cN h10
  exact ACall.spec2 (fn := Try.f43) (c := codeOf Try.f43) (S := ofL S43) (L := lofL L43) hS43 (by kernel_rfl) (by kernel_rfl) (inlOK _) (all_eq (by kernel_rfl : subsOf (E.info 43).keep (codeOf Try.f43) = [.loop (body Try.f43 3)]) (all_cons (loopOK_of (mk := 44000003) (sl := [1, 7, 21, 22, 23]) (ss := [([1, 7, 21, 22, 23], lsl43r3)]) (by kernel_rfl) (by kernel_rfl) (all_cons l43r3v (all_nil))) (all_nil))) (by kernel_rfl) h11.of
abbrev S47 : wS := []
theorem hS47 : SpecOK E (ofL S47) := specOK_nil
abbrev L47 : wL := []
def sp47 : Sp := fun args τ K => asCons args fun a1 r1 => asD wI a1 fun x1 => asNil r1 <| asNil τ <| c47 x1 (fun z1 => K (B z1) [])
theorem h47 : ∀ args τ K, sp47 args τ K → ACall E 47 args τ K := by
  intro args τ K h0
  unfold sp47 at h0
  obtain ⟨x1, r1, rfl, h2⟩ := cD h0
  obtain ⟨rfl, h3⟩ := cN h2
  obtain ⟨rfl, h4⟩ := cN h3
  exact ACall.spec2 (fn := Try.f47) (c := codeOf Try.f47) (S := ofL S47) (L := lofL L47) hS47 (by kernel_rfl) (by kernel_rfl) (inlOK _) (all_eq (by kernel_rfl : subsOf (E.info 47).keep (codeOf Try.f47) = []) (all_nil)) (by kernel_rfl) h4.of
abbrev Sl51r2 : wS := [(47, none, sp47)]
theorem hSl51r2 : SpecOK E (ofL Sl51r2) := specOK_cons h47 (specOK_nil)
abbrev Ll51r2 : wL := []
def lsl51r2 : LSp := fun vs σ K => asCons vs fun a1 r1 => asD (.sl wI) a1 fun s1 => asCons r1 fun a2 r2 => asFn 47 a2 fun l3 l4 => asNil l3 <| asNil l4 <| asCons r2 fun a5 r5 => asD wI a5 fun s2 => asCons r5 fun a6 r6 => asD wI a6 fun s3 => asNil r6 <| asNil σ <| l51r2 (fun z1 => K .ret [(4, I z1)] []) (K (.exit 0) [(4, .undef)] []) s1 s2 s3
theorem l51r2v : LoopV E wF (E.info 51).keep 0 Try.f51.ntmps 52000002 (body Try.f51 2) ([0, 1, 7, 8], lsl51r2) := by
  intro vs σ K (h0 : lsl51r2 vs σ K)
  unfold lsl51r2 at h0
  obtain ⟨s1, r1, rfl, h2⟩ := cD h0
  obtain ⟨a2, r2, rfl, h3⟩ := asCons_inv h2
  obtain ⟨l3, l4, rfl, h4⟩ := asFn_inv h3
  obtain ⟨rfl, h5⟩ := cN h4
  obtain ⟨rfl, h6⟩ := cN h5
  obtain ⟨s2, r5, rfl, h8⟩ := cD h6
  obtain ⟨s3, r6, rfl, h10⟩ := cD h8
  obtain ⟨rfl, h11⟩ := cN h10
  obtain ⟨rfl, h12⟩ := cN h11
  intro J hJ
  have hp : ∀ c' ∈ subsOf (E.info 51).keep (body Try.f51 2), SubOK E wF (E.info 51).keep 0 Try.f51.ntmps (lofL Ll51r2) c' := all_eq (by kernel_rfl : subsOf (E.info 51).keep (body Try.f51 2) = []) (all_nil)
  exact h12.of (fun s1 s2 s3 => J [(52000002, .undef), (0, .d (.sl wI) s1), (1, .fn 47 [] []), (7, I s2), (8, I s3)] []) (fun s1 s2 s3 hb => loop_round2 (S := ofL Sl51r2) (L := lofL Ll51r2) hSl51r2 (inlOK _) hp hJ (by kernel_rfl) hb)
abbrev S51 : wS := []
theorem hS51 : SpecOK E (ofL S51) := specOK_nil
abbrev L51 : wL := [(52000002, [0, 1, 7, 8], none, lsl51r2)]
def sp51 : Sp := fun args τ K => asCons args fun a1 r1 => asD (.sl wI) a1 fun x1 => asCons r1 fun a2 r2 => asFn 47 a2 fun l3 l4 => asNil l3 <| asNil l4 <| asNil r2 <| asNil τ <| c51 x1 (fun z1 => K (I z1) [])
theorem h51 : ∀ args τ K, sp51 args τ K → ACall E 51 args τ K := by
  intro args τ K h0
  unfold sp51 at h0
  obtain ⟨x1, r1, rfl, h2⟩ := cD h0
  obtain ⟨a2, r2, rfl, h3⟩ := asCons_inv h2
  obtain ⟨l3, l4, rfl, h4⟩ := asFn_inv h3
  obtain ⟨rfl, h5⟩ := cN h4
  obtain ⟨rfl, h6⟩ := cN h5
  obtain ⟨rfl, h7⟩ := cN h6
  obtain ⟨rfl, h8⟩ := cN h7
  exact ACall.spec2 (fn := Try.f51) (c := codeOf Try.f51) (S := ofL S51) (L := lofL L51) hS51 (by kernel_rfl) (by kernel_rfl) (inlOK _) (all_eq (by kernel_rfl : subsOf (E.info 51).keep (codeOf Try.f51) = [.loop (body Try.f51 2)]) (all_cons (loopOK_of (mk := 52000002) (sl := [0, 1, 7, 8]) (ss := [([0, 1, 7, 8], lsl51r2)]) (by kernel_rfl) (by kernel_rfl) (all_cons l51r2v (all_nil))) (all_nil))) (by kernel_rfl) h8.of
abbrev Sl46r5 : wS := [(47, none, sp47)]
theorem hSl46r5 : SpecOK E (ofL Sl46r5) := specOK_cons h47 (specOK_nil)
abbrev Ll46r5 : wL := []
def lsl46r5 : LSp := fun vs σ K => asCons vs fun a1 r1 => asP (.vec 0) a1 <| asCons r1 fun a2 r2 => asFn 47 a2 fun l3 l4 => asNil l3 <| asNil l4 <| asCons r2 fun a5 r5 => asD wI a5 fun s1 => asCons r5 fun a6 r6 => asD wI a6 fun s2 => asNil r6 <| asCons σ fun a7 r7 => asRw wI false a7 fun s3 => asNil r7 <| l46r5 (fun z1 z2 => K (.exit 0) [(0, .vec 0), (5, I z1)] [.row wI z2 false]) s1 s2 s3
theorem l46r5v : LoopV E wF (E.info 46).keep 1 Try.f46.ntmps 47000005 (body Try.f46 5) ([0, 1, 5, 6], lsl46r5) := by
  intro vs σ K (h0 : lsl46r5 vs σ K)
  unfold lsl46r5 at h0
  obtain ⟨r1, rfl, h2⟩ := cP h0
  obtain ⟨a2, r2, rfl, h3⟩ := asCons_inv h2
  obtain ⟨l3, l4, rfl, h4⟩ := asFn_inv h3
  obtain ⟨rfl, h5⟩ := cN h4
  obtain ⟨rfl, h6⟩ := cN h5
  obtain ⟨s1, r5, rfl, h8⟩ := cD h6
  obtain ⟨s2, r6, rfl, h10⟩ := cD h8
  obtain ⟨rfl, h11⟩ := cN h10
  obtain ⟨s3, r7, rfl, h13⟩ := cR h11
  obtain ⟨rfl, h14⟩ := cN h13
  intro J hJ
  have hp : ∀ c' ∈ subsOf (E.info 46).keep (body Try.f46 5), SubOK E wF (E.info 46).keep 1 Try.f46.ntmps (lofL Ll46r5) c' := all_eq (by kernel_rfl : subsOf (E.info 46).keep (body Try.f46 5) = []) (all_nil)
  exact h14.of (fun s1 s2 s3 => J [(47000005, .undef), (0, .vec 0), (1, .fn 47 [] []), (5, I s1), (6, I s2)] [.row wI s3 false]) (fun s1 s2 s3 hb => loop_round2 (S := ofL Sl46r5) (L := lofL Ll46r5) hSl46r5 (inlOK _) hp hJ (by kernel_rfl) hb)
abbrev S46 : wS := [(51, none, sp51)]
theorem hS46 : SpecOK E (ofL S46) := specOK_cons h51 (specOK_nil)
abbrev L46 : wL := [(47000005, [0, 1, 5, 6], none, lsl46r5)]
def sp46 : Sp := fun args τ K => asCons args fun a1 r1 => asP (.vec 0) a1 <| asCons r1 fun a2 r2 => asFn 47 a2 fun l3 l4 => asNil l3 <| asNil l4 <| asNil r2 <| asCons τ fun a5 r5 => asRw wI true a5 fun x1 => asNil r5 <| c46 x1 (fun z1 => K (.vec 0) [.row wI z1 false]) (fun z1 z2 z3 z4 => K (.sl 0 z1 z2 z3 false) [.row wI z4 false])
theorem h46 : ∀ args τ K, sp46 args τ K → ACall E 46 args τ K := by
  intro args τ K h0
  unfold sp46 at h0
  obtain ⟨r1, rfl, h2⟩ := cP h0
  obtain ⟨a2, r2, rfl, h3⟩ := asCons_inv h2
  obtain ⟨l3, l4, rfl, h4⟩ := asFn_inv h3
  obtain ⟨rfl, h5⟩ := cN h4
  obtain ⟨rfl, h6⟩ := cN h5
  obtain ⟨rfl, h7⟩ := cN h6
  obtain ⟨x1, r5, rfl, h9⟩ := cR h7
  obtain ⟨rfl, h10⟩ := cN h9
  exact ACall.spec2 (fn := Try.f46) (c := codeOf Try.f46) (S := ofL S46) (L := lofL L46) hS46 (by kernel_rfl) (by kernel_rfl) (inlOK _) (all_eq (by kernel_rfl : subsOf (E.info 46).keep (codeOf Try.f46) = [.loop (body Try.f46 5)]) (all_cons (loopOK_of (mk := 47000005) (sl := [0, 1, 5, 6]) (ss := [([0, 1, 5, 6], lsl46r5)]) (by kernel_rfl) (by kernel_rfl) (all_cons l46r5v (all_nil))) (all_nil))) (by kernel_rfl) h10.of
abbrev S29 : wS := [(46, none, sp46)]
theorem hS29 : SpecOK E (ofL S29) := specOK_cons h46 (specOK_nil)
abbrev L29 : wL := []
def sp29 : Sp := fun args τ K => asCons args fun a1 r1 => asD w3 a1 fun x1 => asNil r1 <| asNil τ <| c29 x1 (fun z1 => K (.vec 0) [.row wI z1 false]) (fun z1 z2 z3 z4 => K (.sl 0 z1 z2 z3 false) [.row wI z4 false])
theorem h29 : ∀ args τ K, sp29 args τ K → ACall E 29 args τ K := by
  intro args τ K h0
  unfold sp29 at h0
  obtain ⟨x1, r1, rfl, h2⟩ := cD h0
  obtain ⟨rfl, h3⟩ := cN h2
  obtain ⟨rfl, h4⟩ := cN h3
  exact ACall.spec2 (fn := Try.f29) (c := codeOf Try.f29) (S := ofL S29) (L := lofL L29) hS29 (by kernel_rfl) (by kernel_rfl) (inlOK _) (all_eq (by kernel_rfl : subsOf (E.info 29).keep (codeOf Try.f29) = []) (all_nil)) (by kernel_rfl) h4.of
abbrev Sl44r2 : wS := []
theorem hSl44r2 : SpecOK E (ofL Sl44r2) := specOK_nil
abbrev Ll44r2 : wL := []
def lsl44r2 : LSp := fun vs σ K => asCons vs fun a1 r1 => asP (.vec 0) a1 <| asCons r1 fun a2 r2 => asP (.ptr 1 0 []) a2 <| asCons r2 fun a3 r3 => asP (.vec 2) a3 <| asCons r3 fun a4 r4 => asD wI a4 fun s1 => asCons r4 fun a5 r5 => asD wI a5 fun s2 => asNil r5 <| asCons σ fun a6 r6 => asRw .bool false a6 fun s3 => asCons r6 fun a7 r7 => asOne w0 a7 fun a8 => asD w0 a8 fun s4 => asCons r7 fun a9 r9 => asRw wI false a9 fun s5 => asNil r9 <| l44r2 (fun z1 z2 => K (.exit 0) [(1, .vec 0), (2, .ptr 1 0 [])] [.row .bool z1 false, .one w0 (.d w0 z2)]) s1 s2 s3 s4 s5
theorem l44r2v : LoopV E wF (E.info 44).keep 1 Try.f44.ntmps 45000002 (body Try.f44 2) ([1, 2, 11, 12, 13], lsl44r2) := by
  intro vs σ K (h0 : lsl44r2 vs σ K)
  unfold lsl44r2 at h0
  obtain ⟨r1, rfl, h2⟩ := cP h0
  obtain ⟨r2, rfl, h4⟩ := cP h2
  obtain ⟨r3, rfl, h6⟩ := cP h4
  obtain ⟨s1, r4, rfl, h8⟩ := cD h6
  obtain ⟨s2, r5, rfl, h10⟩ := cD h8
  obtain ⟨rfl, h11⟩ := cN h10
  obtain ⟨s3, r6, rfl, h13⟩ := cR h11
  obtain ⟨s4, r7, rfl, h16⟩ := oD h13
  obtain ⟨s5, r9, rfl, h18⟩ := cR h16
  obtain ⟨rfl, h19⟩ := cN h18
  intro J hJ
  have hp : ∀ c' ∈ subsOf (E.info 44).keep (body Try.f44 2), SubOK E wF (E.info 44).keep 1 Try.f44.ntmps (lofL Ll44r2) c' := all_eq (by kernel_rfl : subsOf (E.info 44).keep (body Try.f44 2) = []) (all_nil)
  exact h19.of (fun s1 s2 s3 s4 s5 => J [(45000002, .undef), (1, .vec 0), (2, .ptr 1 0 []), (11, .vec 2), (12, I s1), (13, I s2)] [.row .bool s3 false, .one w0 (.d w0 s4), .row wI s5 false]) (fun s1 s2 s3 s4 s5 hb => loop_round2 (S := ofL Sl44r2) (L := lofL Ll44r2) hSl44r2 (inlOK _) hp hJ (by kernel_rfl) hb)
abbrev S30 : wS := []
theorem hS30 : SpecOK E (ofL S30) := specOK_nil
abbrev L30 : wL := []
def sp30 : Sp := fun args τ K => asCons args fun a1 r1 => asD w3 a1 fun x1 => asNil r1 <| asNil τ <| c30 x1 (fun z1 => K (I z1) [])
theorem h30 : ∀ args τ K, sp30 args τ K → ACall E 30 args τ K := by
  intro args τ K h0
  unfold sp30 at h0
  obtain ⟨x1, r1, rfl, h2⟩ := cD h0
  obtain ⟨rfl, h3⟩ := cN h2
  obtain ⟨rfl, h4⟩ := cN h3
  exact ACall.spec2 (fn := Try.f30) (c := codeOf Try.f30) (S := ofL S30) (L := lofL L30) hS30 (by kernel_rfl) (by kernel_rfl) (inlOK _) (all_eq (by kernel_rfl : subsOf (E.info 30).keep (codeOf Try.f30) = []) (all_nil)) (by kernel_rfl) h4.of
abbrev S48 : wS := []
theorem hS48 : SpecOK E (ofL S48) := specOK_nil
abbrev L48 : wL := []
def sp48 : Sp := fun args τ K => asCons args fun a1 r1 => asD wI a1 fun x1 => asNil r1 <| asNil τ <| c48 x1 (fun z1 => K (B z1) [])
theorem h48 : ∀ args τ K, sp48 args τ K → ACall E 48 args τ K := by
  intro args τ K h0
  unfold sp48 at h0
  obtain ⟨x1, r1, rfl, h2⟩ := cD h0
  obtain ⟨rfl, h3⟩ := cN h2
  obtain ⟨rfl, h4⟩ := cN h3
  exact ACall.spec2 (fn := Try.f48) (c := codeOf Try.f48) (S := ofL S48) (L := lofL L48) hS48 (by kernel_rfl) (by kernel_rfl) (inlOK _) (all_eq (by kernel_rfl : subsOf (E.info 48).keep (codeOf Try.f48) = []) (all_nil)) (by kernel_rfl) h4.of
abbrev Sl51r2v2 : wS := [(48, none, sp48)]
theorem hSl51r2v2 : SpecOK E (ofL Sl51r2v2) := specOK_cons h48 (specOK_nil)
abbrev Ll51r2v2 : wL := []
def lsl51r2v2 : LSp := fun vs σ K => asCons vs fun a1 r1 => asD (.sl wI) a1 fun s1 => asCons r1 fun a2 r2 => asFn 48 a2 fun l3 l4 => asNil l3 <| asNil l4 <| asCons r2 fun a5 r5 => asD wI a5 fun s2 => asCons r5 fun a6 r6 => asD wI a6 fun s3 => asNil r6 <| asNil σ <| l51r2v2 (fun z1 => K .ret [(4, I z1)] []) (K (.exit 0) [(4, .undef)] []) s1 s2 s3
theorem l51r2v2v : LoopV E wF (E.info 51).keep 0 Try.f51.ntmps 52000002 (body Try.f51 2) ([0, 1, 7, 8], lsl51r2v2) := by
  intro vs σ K (h0 : lsl51r2v2 vs σ K)
  unfold lsl51r2v2 at h0
  obtain ⟨s1, r1, rfl, h2⟩ := cD h0
  obtain ⟨a2, r2, rfl, h3⟩ := asCons_inv h2
  obtain ⟨l3, l4, rfl, h4⟩ := asFn_inv h3
  obtain ⟨rfl, h5⟩ := cN h4
  obtain ⟨rfl, h6⟩ := cN h5
  obtain ⟨s2, r5, rfl, h8⟩ := cD h6
  obtain ⟨s3, r6, rfl, h10⟩ := cD h8
  obtain ⟨rfl, h11⟩ := cN h10
  obtain ⟨rfl, h12⟩ := cN h11
  intro J hJ
  have hp : ∀ c' ∈ subsOf (E.info 51).keep (body Try.f51 2), SubOK E wF (E.info 51).keep 0 Try.f51.ntmps (lofL Ll51r2v2) c' := all_eq (by kernel_rfl : subsOf (E.info 51).keep (body Try.f51 2) = []) (all_nil)
  exact h12.of (fun s1 s2 s3 => J [(52000002, .undef), (0, .d (.sl wI) s1), (1, .fn 48 [] []), (7, I s2), (8, I s3)] []) (fun s1 s2 s3 hb => loop_round2 (S := ofL Sl51r2v2) (L := lofL Ll51r2v2) hSl51r2v2 (inlOK _) hp hJ (by kernel_rfl) hb)
abbrev S51v2 : wS := []
theorem hS51v2 : SpecOK E (ofL S51v2) := specOK_nil
abbrev L51v2 : wL := [(52000002, [0, 1, 7, 8], none, lsl51r2v2)]
def sp51v2 : Sp := fun args τ K => asCons args fun a1 r1 => asD (.sl wI) a1 fun x1 => asCons r1 fun a2 r2 => asFn 48 a2 fun l3 l4 => asNil l3 <| asNil l4 <| asNil r2 <| asNil τ <| c51v2 x1 (fun z1 => K (I z1) [])
theorem h51v2 : ∀ args τ K, sp51v2 args τ K → ACall E 51 args τ K := by
  intro args τ K h0
  unfold sp51v2 at h0
  obtain ⟨x1, r1, rfl, h2⟩ := cD h0
  obtain ⟨a2, r2, rfl, h3⟩ := asCons_inv h2
  obtain ⟨l3, l4, rfl, h4⟩ := asFn_inv h3
  obtain ⟨rfl, h5⟩ := cN h4
  obtain ⟨rfl, h6⟩ := cN h5
  obtain ⟨rfl, h7⟩ := cN h6
  obtain ⟨rfl, h8⟩ := cN h7
  exact ACall.spec2 (fn := Try.f51) (c := codeOf Try.f51) (S := ofL S51v2) (L := lofL L51v2) hS51v2 (by kernel_rfl) (by kernel_rfl) (inlOK _) (all_eq (by kernel_rfl : subsOf (E.info 51).keep (codeOf Try.f51) = [.loop (body Try.f51 2)]) (all_cons (loopOK_of (mk := 52000002) (sl := [0, 1, 7, 8]) (ss := [([0, 1, 7, 8], lsl51r2v2)]) (by kernel_rfl) (by kernel_rfl) (all_cons l51r2v2v (all_nil))) (all_nil))) (by kernel_rfl) h8.of
abbrev Sl46r5v2 : wS := [(48, none, sp48)]
theorem hSl46r5v2 : SpecOK E (ofL Sl46r5v2) := specOK_cons h48 (specOK_nil)
abbrev Ll46r5v2 : wL := []
def lsl46r5v2 : LSp := fun vs σ K => asCons vs fun a1 r1 => asP (.vec 0) a1 <| asCons r1 fun a2 r2 => asFn 48 a2 fun l3 l4 => asNil l3 <| asNil l4 <| asCons r2 fun a5 r5 => asD wI a5 fun s1 => asCons r5 fun a6 r6 => asD wI a6 fun s2 => asNil r6 <| asCons σ fun a7 r7 => asRw wI false a7 fun s3 => asNil r7 <| l46r5v2 (fun z1 z2 => K (.exit 0) [(0, .vec 0), (5, I z1)] [.row wI z2 false]) s1 s2 s3
theorem l46r5v2v : LoopV E wF (E.info 46).keep 1 Try.f46.ntmps 47000005 (body Try.f46 5) ([0, 1, 5, 6], lsl46r5v2) := by
  intro vs σ K (h0 : lsl46r5v2 vs σ K)
  unfold lsl46r5v2 at h0
  obtain ⟨r1, rfl, h2⟩ := cP h0
  obtain ⟨a2, r2, rfl, h3⟩ := asCons_inv h2
  obtain ⟨l3, l4, rfl, h4⟩ := asFn_inv h3
  obtain ⟨rfl, h5⟩ := cN h4
  obtain ⟨rfl, h6⟩ := cN h5
  obtain ⟨s1, r5, rfl, h8⟩ := cD h6
  obtain ⟨s2, r6, rfl, h10⟩ := cD h8
  obtain ⟨rfl, h11⟩ := cN h10
  obtain ⟨s3, r7, rfl, h13⟩ := cR h11
  obtain ⟨rfl, h14⟩ := cN h13
  intro J hJ
  have hp : ∀ c' ∈ subsOf (E.info 46).keep (body Try.f46 5), SubOK E wF (E.info 46).keep 1 Try.f46.ntmps (lofL Ll46r5v2) c' := all_eq (by kernel_rfl : subsOf (E.info 46).keep (body Try.f46 5) = []) (all_nil)
  exact h14.of (fun s1 s2 s3 => J [(47000005, .undef), (0, .vec 0), (1, .fn 48 [] []), (5, I s1), (6, I s2)] [.row wI s3 false]) (fun s1 s2 s3 hb => loop_round2 (S := ofL Sl46r5v2) (L := lofL Ll46r5v2) hSl46r5v2 (inlOK _) hp hJ (by kernel_rfl) hb)
abbrev S46v2 : wS := [(51, none, sp51v2)]
theorem hS46v2 : SpecOK E (ofL S46v2) := specOK_cons h51v2 (specOK_nil)
abbrev L46v2 : wL := [(47000005, [0, 1, 5, 6], none, lsl46r5v2)]
def sp46v2 : Sp := fun args τ K => asCons args fun a1 r1 => asP (.vec 0) a1 <| asCons r1 fun a2 r2 => asFn 48 a2 fun l3 l4 => asNil l3 <| asNil l4 <| asNil r2 <| asCons τ fun a5 r5 => asRw wI true a5 fun x1 => asNil r5 <| c46v2 x1 (fun z1 => K (.vec 0) [.row wI z1 false]) (fun z1 z2 z3 z4 => K (.sl 0 z1 z2 z3 false) [.row wI z4 false])
theorem h46v2 : ∀ args τ K, sp46v2 args τ K → ACall E 46 args τ K := by
  intro args τ K h0
  unfold sp46v2 at h0
  obtain ⟨r1, rfl, h2⟩ := cP h0
  obtain ⟨a2, r2, rfl, h3⟩ := asCons_inv h2
  obtain ⟨l3, l4, rfl, h4⟩ := asFn_inv h3
  obtain ⟨rfl, h5⟩ := cN h4
  obtain ⟨rfl, h6⟩ := cN h5
  obtain ⟨rfl, h7⟩ := cN h6
  obtain ⟨x1, r5, rfl, h9⟩ := cR h7
  obtain ⟨rfl, h10⟩ := cN h9
  exact ACall.spec2 (fn := Try.f46) (c := codeOf Try.f46) (S := ofL S46v2) (L := lofL L46v2) hS46v2 (by kernel_rfl) (by kernel_rfl) (inlOK _) (all_eq (by kernel_rfl : subsOf (E.info 46).keep (codeOf Try.f46) = [.loop (body Try.f46 5)]) (all_cons (loopOK_of (mk := 47000005) (sl := [0, 1, 5, 6]) (ss := [([0, 1, 5, 6], lsl46r5v2)]) (by kernel_rfl) (by kernel_rfl) (all_cons l46r5v2v (all_nil))) (all_nil))) (by kernel_rfl) h10.of
abbrev S46v3 : wS := [(51, none, sp51v2)]
theorem hS46v3 : SpecOK E (ofL S46v3) := specOK_cons h51v2 (specOK_nil)
abbrev L46v3 : wL := [(47000005, [0, 1, 5, 6], none, lsl46r5v2)]
def sp46v3 : Sp := fun args τ K => asCons args fun a1 r1 => asP (.vec 0) a1 <| asCons r1 fun a2 r2 => asFn 48 a2 fun l3 l4 => asNil l3 <| asNil l4 <| asNil r2 <| asCons τ fun a5 r5 => asRw wI false a5 fun x1 => asNil r5 <| c46v3 x1 (fun z1 => K (.vec 0) [.row wI z1 false]) (fun z1 z2 z3 z4 => K (.sl 0 z1 z2 z3 false) [.row wI z4 false])
theorem h46v3 : ∀ args τ K, sp46v3 args τ K → ACall E 46 args τ K := by
  intro args τ K h0
  unfold sp46v3 at h0
  obtain ⟨r1, rfl, h2⟩ := cP h0
  obtain ⟨a2, r2, rfl, h3⟩ := asCons_inv h2
  obtain ⟨l3, l4, rfl, h4⟩ := asFn_inv h3
  obtain ⟨rfl, h5⟩ := cN h4
  obtain ⟨rfl, h6⟩ := cN h5
  obtain ⟨rfl, h7⟩ := cN h6
  obtain ⟨x1, r5, rfl, h9⟩ := cR h7
  obtain ⟨rfl, h10⟩ := cN h9
  exact ACall.spec2 (fn := Try.f46) (c := codeOf Try.f46) (S := ofL S46v3) (L := lofL L46v3) hS46v3 (by kernel_rfl) (by kernel_rfl) (inlOK _) (all_eq (by kernel_rfl : subsOf (E.info 46).keep (codeOf Try.f46) = [.loop (body Try.f46 5)]) (all_cons (loopOK_of (mk := 47000005) (sl := [0, 1, 5, 6]) (ss := [([0, 1, 5, 6], lsl46r5v2)]) (by kernel_rfl) (by kernel_rfl) (all_cons l46r5v2v (all_nil))) (all_nil))) (by kernel_rfl) h10.of
abbrev S33 : wS := [(46, some ([.fix (.vec 0), .fn 48 [] []], [.row wI true]), sp46v2), (46, some ([.fix (.vec 0), .fn 48 [] []], [.row wI false]), sp46v3)]
theorem hS33 : SpecOK E (ofL S33) := specOK_cons h46v2 (specOK_cons h46v3 (specOK_nil))
abbrev L33 : wL := []
def sp33 : Sp := fun args τ K => asCons args fun a1 r1 => asD w3 a1 fun x1 => asNil r1 <| asNil τ <| c33 x1 (fun z1 => K (.vec 0) [.row wI z1 false]) (fun z1 z2 z3 z4 => K (.sl 0 z1 z2 z3 false) [.row wI z4 false])
theorem h33 : ∀ args τ K, sp33 args τ K → ACall E 33 args τ K := by
  intro args τ K h0
  unfold sp33 at h0
  obtain ⟨x1, r1, rfl, h2⟩ := cD h0
  obtain ⟨rfl, h3⟩ := cN h2
  obtain ⟨rfl, h4⟩ := cN h3
  exact ACall.spec2 (fn := Try.f33) (c := codeOf Try.f33) (S := ofL S33) (L := lofL L33) hS33 (by kernel_rfl) (by kernel_rfl) (inlOK _) (all_eq (by kernel_rfl : subsOf (E.info 33).keep (codeOf Try.f33) = []) (all_nil)) (by kernel_rfl) h4.of
abbrev Sl44r11 : wS := []
theorem hSl44r11 : SpecOK E (ofL Sl44r11) := specOK_nil
abbrev Ll44r11 : wL := []
def lsl44r11 : LSp := fun vs σ K => asCons vs fun a1 r1 => asP (.vec 0) a1 <| asCons r1 fun a2 r2 => asP (.ptr 1 0 []) a2 <| asCons r2 fun a3 r3 => asD wI a3 fun s1 => asCons r3 fun a4 r4 => asP (.vec 2) a4 <| asCons r4 fun a5 r5 => asD wI a5 fun s2 => asCons r5 fun a6 r6 => asD wI a6 fun s3 => asNil r6 <| asCons σ fun a7 r7 => asRw .bool false a7 fun s4 => asCons r7 fun a8 r8 => asOne w0 a8 fun a9 => asD w0 a9 fun s5 => asCons r8 fun a10 r10 => asRw wI false a10 fun s6 => asNil r10 <| l44r11 (fun z1 z2 z3 => K (.exit 4) [(1, .vec 0), (2, .ptr 1 0 []), (6, I z1)] [.row .bool z2 false, .one w0 (.d w0 z3)]) s1 s2 s3 s4 s5 s6
theorem l44r11v : LoopV E wF (E.info 44).keep 1 Try.f44.ntmps 45000011 (body Try.f44 11) ([1, 2, 6, 42, 43, 44], lsl44r11) := by
  intro vs σ K (h0 : lsl44r11 vs σ K)
  unfold lsl44r11 at h0
  obtain ⟨r1, rfl, h2⟩ := cP h0
  obtain ⟨r2, rfl, h4⟩ := cP h2
  obtain ⟨s1, r3, rfl, h6⟩ := cD h4
  obtain ⟨r4, rfl, h8⟩ := cP h6
  obtain ⟨s2, r5, rfl, h10⟩ := cD h8
  obtain ⟨s3, r6, rfl, h12⟩ := cD h10
  obtain ⟨rfl, h13⟩ := cN h12
  obtain ⟨s4, r7, rfl, h15⟩ := cR h13
  obtain ⟨s5, r8, rfl, h18⟩ := oD h15
  obtain ⟨s6, r10, rfl, h20⟩ := cR h18
  obtain ⟨rfl, h21⟩ := cN h20
  intro J hJ
  have hp : ∀ c' ∈ subsOf (E.info 44).keep (body Try.f44 11), SubOK E wF (E.info 44).keep 1 Try.f44.ntmps (lofL Ll44r11) c' := all_eq (by kernel_rfl : subsOf (E.info 44).keep (body Try.f44 11) = []) (all_nil)
  exact h21.of (fun s1 s2 s3 s4 s5 s6 => J [(45000011, .undef), (1, .vec 0), (2, .ptr 1 0 []), (6, I s1), (42, .vec 2), (43, I s2), (44, I s3)] [.row .bool s4 false, .one w0 (.d w0 s5), .row wI s6 false]) (fun s1 s2 s3 s4 s5 s6 hb => loop_round2 (S := ofL Sl44r11) (L := lofL Ll44r11) hSl44r11 (inlOK _) hp hJ (by kernel_rfl) hb)
abbrev Sl44r11v2 : wS := []
theorem hSl44r11v2 : SpecOK E (ofL Sl44r11v2) := specOK_nil
abbrev Ll44r11v2 : wL := []
def lsl44r11v2 : LSp := fun vs σ K => asCons vs fun a1 r1 => asP (.vec 0) a1 <| asCons r1 fun a2 r2 => asP (.ptr 1 0 []) a2 <| asCons r2 fun a3 r3 => asD wI a3 fun s1 => asCons r3 fun a4 r4 => asSl 2 false a4 fun s2 s3 s4 => asCons r4 fun a5 r5 => asD wI a5 fun s5 => asCons r5 fun a6 r6 => asD wI a6 fun s6 => asNil r6 <| asCons σ fun a7 r7 => asRw .bool false a7 fun s7 => asCons r7 fun a8 r8 => asOne w0 a8 fun a9 => asD w0 a9 fun s8 => asCons r8 fun a10 r10 => asRw wI false a10 fun s9 => asNil r10 <| l44r11v2 (fun z1 z2 z3 => K (.exit 4) [(1, .vec 0), (2, .ptr 1 0 []), (6, I z1)] [.row .bool z2 false, .one w0 (.d w0 z3)]) s1 s2 s3 s4 s5 s6 s7 s8 s9
theorem l44r11v2v : LoopV E wF (E.info 44).keep 1 Try.f44.ntmps 45000011 (body Try.f44 11) ([1, 2, 6, 42, 43, 44], lsl44r11v2) := by
  intro vs σ K (h0 : lsl44r11v2 vs σ K)
  unfold lsl44r11v2 at h0
  obtain ⟨r1, rfl, h2⟩ := cP h0
  obtain ⟨r2, rfl, h4⟩ := cP h2
  obtain ⟨s1, r3, rfl, h6⟩ := cD h4
  obtain ⟨a4, r4, rfl, h7⟩ := asCons_inv h6
  obtain ⟨s2, s3, s4, rfl, h8⟩ := asSl_inv h7
  obtain ⟨s5, r5, rfl, h10⟩ := cD h8
  obtain ⟨s6, r6, rfl, h12⟩ := cD h10
  obtain ⟨rfl, h13⟩ := cN h12
  obtain ⟨s7, r7, rfl, h15⟩ := cR h13
  obtain ⟨s8, r8, rfl, h18⟩ := oD h15
  obtain ⟨s9, r10, rfl, h20⟩ := cR h18
  obtain ⟨rfl, h21⟩ := cN h20
  intro J hJ
  have hp : ∀ c' ∈ subsOf (E.info 44).keep (body Try.f44 11), SubOK E wF (E.info 44).keep 1 Try.f44.ntmps (lofL Ll44r11v2) c' := all_eq (by kernel_rfl : subsOf (E.info 44).keep (body Try.f44 11) = []) (all_nil)
  exact h21.of (fun s1 s2 s3 s4 s5 s6 s7 s8 s9 => J [(45000011, .undef), (1, .vec 0), (2, .ptr 1 0 []), (6, I s1), (42, .sl 2 s2 s3 s4 false), (43, I s5), (44, I s6)] [.row .bool s7 false, .one w0 (.d w0 s8), .row wI s9 false]) (fun s1 s2 s3 s4 s5 s6 s7 s8 s9 hb => loop_round2 (S := ofL Sl44r11v2) (L := lofL Ll44r11v2) hSl44r11v2 (inlOK _) hp hJ (by kernel_rfl) hb)
abbrev Sl44r7 : wS := [(30, none, sp30), (33, none, sp33)]
theorem hSl44r7 : SpecOK E (ofL Sl44r7) := specOK_cons h30 (specOK_cons h33 (specOK_nil))
abbrev Ll44r7 : wL := [(45000011, [1, 2, 6, 42, 43, 44], some ([.fix (.vec 0), .fix (.ptr 1 0 []), .d wI, .fix (.vec 2), .d wI, .d wI], [.row .bool false, .one w0 (.d w0), .row wI false]), lsl44r11), (45000011, [1, 2, 6, 42, 43, 44], some ([.fix (.vec 0), .fix (.ptr 1 0 []), .d wI, .sl 2 false, .d wI, .d wI], [.row .bool false, .one w0 (.d w0), .row wI false]), lsl44r11v2)]
def lsl44r7 : LSp := fun vs σ K => asCons vs fun a1 r1 => asP (.vec 0) a1 <| asCons r1 fun a2 r2 => asP (.ptr 1 0 []) a2 <| asCons r2 fun a3 r3 => asD wI a3 fun s1 => asNil r3 <| asCons σ fun a4 r4 => asRw .bool false a4 fun s2 => asCons r4 fun a5 r5 => asOne w0 a5 fun a6 => asD w0 a6 fun s3 => asNil r5 <| l44r7 (fun z1 => K (.exit 2) [(1, .vec 0)] [.row .bool z1 false]) s1 s2 s3
theorem l44r7v : LoopV E wF (E.info 44).keep 1 Try.f44.ntmps 45000007 (body Try.f44 7) ([1, 2, 6], lsl44r7) := by
  intro vs σ K (h0 : lsl44r7 vs σ K)
  unfold lsl44r7 at h0
  obtain ⟨r1, rfl, h2⟩ := cP h0
  obtain ⟨r2, rfl, h4⟩ := cP h2
  obtain ⟨s1, r3, rfl, h6⟩ := cD h4
  obtain ⟨rfl, h7⟩ := cN h6
  obtain ⟨s2, r4, rfl, h9⟩ := cR h7
  obtain ⟨s3, r5, rfl, h12⟩ := oD h9
  obtain ⟨rfl, h13⟩ := cN h12
  intro J hJ
  have hp : ∀ c' ∈ subsOf (E.info 44).keep (body Try.f44 7), SubOK E wF (E.info 44).keep 1 Try.f44.ntmps (lofL Ll44r7) c' := all_eq (by kernel_rfl : subsOf (E.info 44).keep (body Try.f44 7) = [.loop (body Try.f44 11)]) (all_cons (loopOK_of (mk := 45000011) (sl := [1, 2, 6, 42, 43, 44]) (ss := [([1, 2, 6, 42, 43, 44], lsl44r11), ([1, 2, 6, 42, 43, 44], lsl44r11v2)]) (by kernel_rfl) (by kernel_rfl) (all_cons l44r11v (all_cons l44r11v2v (all_nil)))) (all_nil))
  exact h13.of (fun s1 s2 s3 => J [(45000007, .undef), (1, .vec 0), (2, .ptr 1 0 []), (6, I s1)] [.row .bool s2 false, .one w0 (.d w0 s3)]) (fun s1 s2 s3 hb => loop_round2 (S := ofL Sl44r7) (L := lofL Ll44r7) hSl44r7 (inlOK _) hp hJ (by kernel_rfl) hb)
abbrev Sl44r2v2 : wS := []
theorem hSl44r2v2 : SpecOK E (ofL Sl44r2v2) := specOK_nil
abbrev Ll44r2v2 : wL := []
def lsl44r2v2 : LSp := fun vs σ K => asCons vs fun a1 r1 => asP (.vec 0) a1 <| asCons r1 fun a2 r2 => asP (.ptr 1 0 []) a2 <| asCons r2 fun a3 r3 => asSl 2 false a3 fun s1 s2 s3 => asCons r3 fun a4 r4 => asD wI a4 fun s4 => asCons r4 fun a5 r5 => asD wI a5 fun s5 => asNil r5 <| asCons σ fun a6 r6 => asRw .bool false a6 fun s6 => asCons r6 fun a7 r7 => asOne w0 a7 fun a8 => asD w0 a8 fun s7 => asCons r7 fun a9 r9 => asRw wI false a9 fun s8 => asNil r9 <| l44r2v2 (fun z1 z2 => K (.exit 0) [(1, .vec 0), (2, .ptr 1 0 [])] [.row .bool z1 false, .one w0 (.d w0 z2)]) s1 s2 s3 s4 s5 s6 s7 s8
theorem l44r2v2v : LoopV E wF (E.info 44).keep 1 Try.f44.ntmps 45000002 (body Try.f44 2) ([1, 2, 11, 12, 13], lsl44r2v2) := by
  intro vs σ K (h0 : lsl44r2v2 vs σ K)
  unfold lsl44r2v2 at h0
  obtain ⟨r1, rfl, h2⟩ := cP h0
  obtain ⟨r2, rfl, h4⟩ := cP h2
  obtain ⟨a3, r3, rfl, h5⟩ := asCons_inv h4
  obtain ⟨s1, s2, s3, rfl, h6⟩ := asSl_inv h5
  obtain ⟨s4, r4, rfl, h8⟩ := cD h6
  obtain ⟨s5, r5, rfl, h10⟩ := cD h8
  obtain ⟨rfl, h11⟩ := cN h10
  obtain ⟨s6, r6, rfl, h13⟩ := cR h11
  obtain ⟨s7, r7, rfl, h16⟩ := oD h13
  obtain ⟨s8, r9, rfl, h18⟩ := cR h16
  obtain ⟨rfl, h19⟩ := cN h18
  intro J hJ
  have hp : ∀ c' ∈ subsOf (E.info 44).keep (body Try.f44 2), SubOK E wF (E.info 44).keep 1 Try.f44.ntmps (lofL Ll44r2v2) c' := all_eq (by kernel_rfl : subsOf (E.info 44).keep (body Try.f44 2) = []) (all_nil)
  exact h19.of (fun s1 s2 s3 s4 s5 s6 s7 s8 => J [(45000002, .undef), (1, .vec 0), (2, .ptr 1 0 []), (11, .sl 2 s1 s2 s3 false), (12, I s4), (13, I s5)] [.row .bool s6 false, .one w0 (.d w0 s7), .row wI s8 false]) (fun s1 s2 s3 s4 s5 s6 s7 s8 hb => loop_round2 (S := ofL Sl44r2v2) (L := lofL Ll44r2v2) hSl44r2v2 (inlOK _) hp hJ (by kernel_rfl) hb)
abbrev S44 : wS := [(29, none, sp29)]
theorem hS44 : SpecOK E (ofL S44) := specOK_cons h29 (specOK_nil)
abbrev L44 : wL := [(45000002, [1, 2, 11, 12, 13], some ([.fix (.vec 0), .fix (.ptr 1 0 []), .fix (.vec 2), .d wI, .d wI], [.row .bool false, .one w0 (.d w0), .row wI false]), lsl44r2), (45000007, [1, 2, 6], none, lsl44r7), (45000002, [1, 2, 11, 12, 13], some ([.fix (.vec 0), .fix (.ptr 1 0 []), .sl 2 false, .d wI, .d wI], [.row .bool false, .one w0 (.d w0), .row wI false]), lsl44r2v2)]
def sp44 : Sp := fun args τ K => asCons args fun a1 r1 => asD w0 a1 fun x1 => asCons r1 fun a2 r2 => asP (.vec 0) a2 <| asNil r2 <| asCons τ fun a3 r3 => asRw .bool false a3 fun x2 => asNil r3 <| c44 x1 x2 (fun z1 => K (.tup []) [.row .bool z1 false])
theorem h44 : ∀ args τ K, sp44 args τ K → ACall E 44 args τ K := by
  intro args τ K h0
  unfold sp44 at h0
  obtain ⟨x1, r1, rfl, h2⟩ := cD h0
  obtain ⟨r2, rfl, h4⟩ := cP h2
  obtain ⟨rfl, h5⟩ := cN h4
  obtain ⟨x2, r3, rfl, h7⟩ := cR h5
  obtain ⟨rfl, h8⟩ := cN h7
  exact ACall.spec2 (fn := Try.f44) (c := codeOf Try.f44) (S := ofL S44) (L := lofL L44) hS44 (by kernel_rfl) (by kernel_rfl) (inlOK _) (all_eq (by kernel_rfl : subsOf (E.info 44).keep (codeOf Try.f44) = [.loop (body Try.f44 2), .loop (body Try.f44 7)]) (all_cons (loopOK_of (mk := 45000002) (sl := [1, 2, 11, 12, 13]) (ss := [([1, 2, 11, 12, 13], lsl44r2), ([1, 2, 11, 12, 13], lsl44r2v2)]) (by kernel_rfl) (by kernel_rfl) (all_cons l44r2v (all_cons l44r2v2v (all_nil)))) (all_cons (loopOK_of (mk := 45000007) (sl := [1, 2, 6]) (ss := [([1, 2, 6], lsl44r7)]) (by kernel_rfl) (by kernel_rfl) (all_cons l44r7v (all_nil))) (all_nil)))) (by kernel_rfl) h8.of
abbrev Sl45r4 : wS := []
theorem hSl45r4 : SpecOK E (ofL Sl45r4) := specOK_nil
abbrev Ll45r4 : wL := []
def lsl45r4 : LSp := fun vs σ K => asCons vs fun a1 r1 => asD (.sl .bool) a1 fun s1 => asCons r1 fun a2 r2 => asD (.sl .bool) a2 fun s2 => asCons r2 fun a3 r3 => asD wI a3 fun s3 => asCons r3 fun a4 r4 => asD wI a4 fun s4 => asNil r4 <| asNil σ <| l45r4 (fun z1 => K .ret [(4, B z1)] []) (K (.exit 0) [(4, .undef)] []) s1 s2 s3 s4
theorem l45r4v : LoopV E wF (E.info 45).keep 0 Try.f45.ntmps 46000004 (body Try.f45 4) ([0, 1, 12, 13], lsl45r4) := by
  intro vs σ K (h0 : lsl45r4 vs σ K)
  unfold lsl45r4 at h0
  obtain ⟨s1, r1, rfl, h2⟩ := cD h0
  obtain ⟨s2, r2, rfl, h4⟩ := cD h2
  obtain ⟨s3, r3, rfl, h6⟩ := cD h4
  obtain ⟨s4, r4, rfl, h8⟩ := cD h6
  obtain ⟨rfl, h9⟩ := cN h8
  obtain ⟨rfl, h10⟩ := cN h9
  intro J hJ
  have hp : ∀ c' ∈ subsOf (E.info 45).keep (body Try.f45 4), SubOK E wF (E.info 45).keep 0 Try.f45.ntmps (lofL Ll45r4) c' := all_eq (by kernel_rfl : subsOf (E.info 45).keep (body Try.f45 4) = []) (all_nil)
  exact h10.of (fun s1 s2 s3 s4 => J [(46000004, .undef), (0, .d (.sl .bool) s1), (1, .d (.sl .bool) s2), (12, I s3), (13, I s4)] []) (fun s1 s2 s3 s4 hb => loop_round2 (S := ofL Sl45r4) (L := lofL Ll45r4) hSl45r4 (inlOK _) hp hJ (by kernel_rfl) hb)
abbrev S45 : wS := []
theorem hS45 : SpecOK E (ofL S45) := specOK_nil
abbrev L45 : wL := [(46000004, [0, 1, 12, 13], none, lsl45r4)]
def sp45 : Sp := fun args τ K => asCons args fun a1 r1 => asD (.sl .bool) a1 fun x1 => asCons r1 fun a2 r2 => asD (.sl .bool) a2 fun x2 => asNil r2 <| asNil τ <| c45 x1 x2 (fun z1 => K (B z1) [])
theorem h45 : ∀ args τ K, sp45 args τ K → ACall E 45 args τ K := by
  intro args τ K h0
  unfold sp45 at h0
  obtain ⟨x1, r1, rfl, h2⟩ := cD h0
  obtain ⟨x2, r2, rfl, h4⟩ := cD h2
  obtain ⟨rfl, h5⟩ := cN h4
  obtain ⟨rfl, h6⟩ := cN h5
  exact ACall.spec2 (fn := Try.f45) (c := codeOf Try.f45) (S := ofL S45) (L := lofL L45) hS45 (by kernel_rfl) (by kernel_rfl) (inlOK _) (all_eq (by kernel_rfl : subsOf (E.info 45).keep (codeOf Try.f45) = [.loop (body Try.f45 4)]) (all_cons (loopOK_of (mk := 46000004) (sl := [0, 1, 12, 13]) (ss := [([0, 1, 12, 13], lsl45r4)]) (by kernel_rfl) (by kernel_rfl) (all_cons l45r4v (all_nil))) (all_nil))) (by kernel_rfl) h6.of
abbrev Sl26r11 : wS := [(43, none, sp43), (44, none, sp44), (45, none, sp45)]
theorem hSl26r11 : SpecOK E (ofL Sl26r11) := specOK_cons h43 (specOK_cons h44 (specOK_cons h45 (specOK_nil)))
abbrev Ll26r11 : wL := []
def lsl26r11 : LSp := fun vs σ K => asCons vs fun a1 r1 => asP (.ptr 0 0 []) a1 <| asCons r1 fun a2 r2 => asP (.vec 1) a2 <| asCons r2 fun a3 r3 => asD .bool a3 fun s1 => asCons r3 fun a4 r4 => asD wI a4 fun s2 => asNil r4 <| asCons σ fun a5 r5 => asOne w1 a5 fun a6 => asD w1 a6 fun s3 => asCons r5 fun a7 r7 => asDeep .bool a7 fun s4 l8 => asNil l8 <| asNil r7 <| l26r11 (fun z1 z2 z3 => K (.exit 4) [(1, .ptr 0 0 []), (3, .vec 1), (5, B z1)] [.one w1 (.d w1 z2), .deep .bool z3 []]) s1 s2 s3 s4
theorem l26r11v : LoopV E wF (E.info 26).keep 0 Try.f26.ntmps 27000011 (body Try.f26 11) ([1, 3, 5, 6], lsl26r11) := by
  intro vs σ K (h0 : lsl26r11 vs σ K)
  unfold lsl26r11 at h0
  obtain ⟨r1, rfl, h2⟩ := cP h0
  obtain ⟨r2, rfl, h4⟩ := cP h2
  obtain ⟨s1, r3, rfl, h6⟩ := cD h4
  obtain ⟨s2, r4, rfl, h8⟩ := cD h6
  obtain ⟨rfl, h9⟩ := cN h8
  obtain ⟨s3, r5, rfl, h12⟩ := oD h9
  obtain ⟨a7, r7, rfl, h13⟩ := asCons_inv h12
  obtain ⟨s4, l8, rfl, h14⟩ := asDeep_inv h13
  obtain ⟨rfl, h15⟩ := cN h14
  obtain ⟨rfl, h16⟩ := cN h15
  intro J hJ
  have hp : ∀ c' ∈ subsOf (E.info 26).keep (body Try.f26 11), SubOK E wF (E.info 26).keep 0 Try.f26.ntmps (lofL Ll26r11) c' := all_eq (by kernel_rfl : subsOf (E.info 26).keep (body Try.f26 11) = []) (all_nil)
  exact h16.of (fun s1 s2 s3 s4 => J [(27000011, .undef), (1, .ptr 0 0 []), (3, .vec 1), (5, B s1), (6, I s2)] [.one w1 (.d w1 s3), .deep .bool s4 []]) (fun s1 s2 s3 s4 hb => loop_round2 (S := ofL Sl26r11) (L := lofL Ll26r11) hSl26r11 (inlOK _) hp hJ (by kernel_rfl) hb)
abbrev Sl26r8 : wS := []
theorem hSl26r8 : SpecOK E (ofL Sl26r8) := specOK_nil
abbrev Ll26r8 : wL := [(27000011, [1, 3, 5, 6], none, lsl26r11)]
def lsl26r8 : LSp := fun vs σ K => asCons vs fun a1 r1 => asP (.ptr 0 0 []) a1 <| asCons r1 fun a2 r2 => asP (.vec 1) a2 <| asCons r2 fun a3 r3 => asD .bool a3 fun s1 => asNil r3 <| asCons σ fun a4 r4 => asOne w1 a4 fun a5 => asD w1 a5 fun s2 => asCons r4 fun a6 r6 => asDeep .bool a6 fun s3 l7 => asNil l7 <| asNil r6 <| l26r8 (fun z1 => K (.exit 2) [(3, .vec 0)] [.deep .bool z1 []]) s1 s2 s3
theorem l26r8v : LoopV E wF (E.info 26).keep 0 Try.f26.ntmps 27000008 (body Try.f26 8) ([1, 3, 5], lsl26r8) := by
  intro vs σ K (h0 : lsl26r8 vs σ K)
  unfold lsl26r8 at h0
  obtain ⟨r1, rfl, h2⟩ := cP h0
  obtain ⟨r2, rfl, h4⟩ := cP h2
  obtain ⟨s1, r3, rfl, h6⟩ := cD h4
  obtain ⟨rfl, h7⟩ := cN h6
  obtain ⟨s2, r4, rfl, h10⟩ := oD h7
  obtain ⟨a6, r6, rfl, h11⟩ := asCons_inv h10
  obtain ⟨s3, l7, rfl, h12⟩ := asDeep_inv h11
  obtain ⟨rfl, h13⟩ := cN h12
  obtain ⟨rfl, h14⟩ := cN h13
  intro J hJ
  have hp : ∀ c' ∈ subsOf (E.info 26).keep (body Try.f26 8), SubOK E wF (E.info 26).keep 0 Try.f26.ntmps (lofL Ll26r8) c' := all_eq (by kernel_rfl : subsOf (E.info 26).keep (body Try.f26 8) = [.loop (body Try.f26 11)]) (all_cons (loopOK_of (mk := 27000011) (sl := [1, 3, 5, 6]) (ss := [([1, 3, 5, 6], lsl26r11)]) (by kernel_rfl) (by kernel_rfl) (all_cons l26r11v (all_nil))) (all_nil))
  exact h14.of (fun s1 s2 s3 => J [(27000008, .undef), (1, .ptr 0 0 []), (3, .vec 1), (5, B s1)] [.one w1 (.d w1 s2), .deep .bool s3 []]) (fun s1 s2 s3 hb => loop_round2 (S := ofL Sl26r8) (L := lofL Ll26r8) hSl26r8 (inlOK _) hp hJ (by kernel_rfl) hb)
abbrev S26 : wS := []
theorem hS26 : SpecOK E (ofL S26) := specOK_nil
abbrev L26 : wL := [(27000003, [1, 3, 13, 14], none, lsl26r3), (27000008, [1, 3, 5], none, lsl26r8)]
def sp26 : Sp := fun args τ K => asCons args fun a1 r1 => asD w1 a1 fun x1 => asNil r1 <| asNil τ <| c26 x1 (fun z1 => K (.vec 0) [.deep .bool z1 []])
theorem h26 : ∀ args τ K, sp26 args τ K → ACall E 26 args τ K := by
  intro args τ K h0
  unfold sp26 at h0
  obtain ⟨x1, r1, rfl, h2⟩ := cD h0
  obtain ⟨rfl, h3⟩ := cN h2
  obtain ⟨rfl, h4⟩ := cN h3
  exact ACall.spec2 (fn := Try.f26) (c := codeOf Try.f26) (S := ofL S26) (L := lofL L26) hS26 (by kernel_rfl) (by kernel_rfl) (inlOK _) (all_eq (by kernel_rfl : subsOf (E.info 26).keep (codeOf Try.f26) = [.loop (body Try.f26 3), .loop (body Try.f26 8)]) (all_cons (loopOK_of (mk := 27000003) (sl := [1, 3, 13, 14]) (ss := [([1, 3, 13, 14], lsl26r3)]) (by kernel_rfl) (by kernel_rfl) (all_cons l26r3v (all_nil))) (all_cons (loopOK_of (mk := 27000008) (sl := [1, 3, 5]) (ss := [([1, 3, 5], lsl26r8)]) (by kernel_rfl) (by kernel_rfl) (all_cons l26r8v (all_nil))) (all_nil)))) (by kernel_rfl) h4.of
abbrev Sl11r33 : wS := [(23, none, sp23)]
theorem hSl11r33 : SpecOK E (ofL Sl11r33) := specOK_cons h23 (specOK_nil)
abbrev Ll11r33 : wL := []
def lsl11r33 : LSp := fun vs σ K => asCons vs fun a1 r1 => asP (.ptr 0 0 []) a1 <| asCons r1 fun a2 r2 => asP (.vec 1) a2 <| asCons r2 fun a3 r3 => asD wI a3 fun s1 => asNil r3 <| asCons σ fun a4 r4 => asOne w1 a4 fun a5 => asD w1 a5 fun s2 => asCons r4 fun a6 r6 => asDeep .bool a6 fun s3 l7 => asNil l7 <| asNil r6 <| l11r33 (fun z1 => K .ret [(2, I z1)] []) (K (.exit 6) [(2, .undef)] []) s1 s2 s3
theorem l11r33v : LoopV E wF (E.info 11).keep 0 Try.f11.ntmps 12000033 (body Try.f11 33) ([1, 12, 13], lsl11r33) := by
  intro vs σ K (h0 : lsl11r33 vs σ K)
  unfold lsl11r33 at h0
  obtain ⟨r1, rfl, h2⟩ := cP h0
  obtain ⟨r2, rfl, h4⟩ := cP h2
  obtain ⟨s1, r3, rfl, h6⟩ := cD h4
  obtain ⟨rfl, h7⟩ := cN h6
  obtain ⟨s2, r4, rfl, h10⟩ := oD h7
  obtain ⟨a6, r6, rfl, h11⟩ := asCons_inv h10
  obtain ⟨s3, l7, rfl, h12⟩ := asDeep_inv h11
  obtain ⟨rfl, h13⟩ := cN h12
  obtain ⟨rfl, h14⟩ := cN h13
  intro J hJ
  have hp : ∀ c' ∈ subsOf (E.info 11).keep (body Try.f11 33), SubOK E wF (E.info 11).keep 0 Try.f11.ntmps (lofL Ll11r33) c' := all_eq (by kernel_rfl : subsOf (E.info 11).keep (body Try.f11 33) = []) (all_nil)
  exact h14.of (fun s1 s2 s3 => J [(12000033, .undef), (1, .ptr 0 0 []), (12, .vec 1), (13, I s1)] [.one w1 (.d w1 s2), .deep .bool s3 []]) (fun s1 s2 s3 hb => loop_round2 (S := ofL Sl11r33) (L := lofL Ll11r33) hSl11r33 (inlOK _) hp hJ (by kernel_rfl) hb)
abbrev S11 : wS := [(22, none, sp22), (26, none, sp26)]
theorem hS11 : SpecOK E (ofL S11) := specOK_cons h22 (specOK_cons h26 (specOK_nil))
abbrev L11 : wL := [(12000006, [1, 35, 36, 37], none, lsl11r6), (12000015, [1, 5, 56, 57, 58], none, lsl11r15), (12000033, [1, 12, 13], none, lsl11r33)]
def sp11 : Sp := fun args τ K => asCons args fun a1 r1 => asD w1 a1 fun x1 => asNil r1 <| asNil τ <| c11 x1 (fun z1 => K (I z1) [])
theorem h11 : ∀ args τ K, sp11 args τ K → ACall E 11 args τ K := by
  intro args τ K h0
  unfold sp11 at h0
  obtain ⟨x1, r1, rfl, h2⟩ := cD h0
  obtain ⟨rfl, h3⟩ := cN h2
  obtain ⟨rfl, h4⟩ := cN h3
  exact ACall.spec2 (fn := Try.f11) (c := codeOf Try.f11) (S := ofL S11) (L := lofL L11) hS11 (by kernel_rfl) (by kernel_rfl) (inlOK _) (all_eq (by kernel_rfl : subsOf (E.info 11).keep (codeOf Try.f11) = [.loop (body Try.f11 6), .loop (body Try.f11 15), .loop (body Try.f11 33)]) (all_cons (loopOK_of (mk := 12000006) (sl := [1, 35, 36, 37]) (ss := [([1, 35, 36, 37], lsl11r6)]) (by kernel_rfl) (by kernel_rfl) (all_cons l11r6v (all_nil))) (all_cons (loopOK_of (mk := 12000015) (sl := [1, 5, 56, 57, 58]) (ss := [([1, 5, 56, 57, 58], lsl11r15)]) (by kernel_rfl) (by kernel_rfl) (all_cons l11r15v (all_nil))) (all_cons (loopOK_of (mk := 12000033) (sl := [1, 12, 13]) (ss := [([1, 12, 13], lsl11r33)]) (by kernel_rfl) (by kernel_rfl) (all_cons l11r33v (all_nil))) (all_nil))))) (by kernel_rfl) h4.of
abbrev Sl12r3 : wS := []
theorem hSl12r3 : SpecOK E (ofL Sl12r3) := specOK_nil
abbrev Ll12r3 : wL := []
def lsl12r3 : LSp := fun vs σ K => asCons vs fun a1 r1 => asP (.ptr 0 0 []) a1 <| asCons r1 fun a2 r2 => asP (.ptr 1 0 []) a2 <| asCons r2 fun a3 r3 => asD wI a3 fun s1 => asCons r3 fun a4 r4 => asD wI a4 fun s2 => asNil r4 <| asCons σ fun a5 r5 => asOne w1 a5 fun a6 => asD w1 a6 fun s3 => asCons r5 fun a7 r7 => asOne (.opq .ptr) a7 fun a8 => asP (.ptr 2 0 []) a8 <| asCons r7 fun a9 r9 => asOne w2 a9 fun a10 => asAgL a10 fun l11 => asCons l11 fun a12 r12 => asP (.vec 3) a12 <| asCons r12 fun a13 r13 => asP (.vec 4) a13 <| asCons r13 fun a14 r14 => asP (.vec 5) a14 <| asCons r14 fun a15 r15 => asP (.vec 6) a15 <| asNil r15 <| asCons r9 fun a16 r16 => asDeep .bool a16 fun s4 l17 => asNil l17 <| asCons r16 fun a18 r18 => asRw .bool false a18 fun s5 => asCons r18 fun a19 r19 => asRw .bool false a19 fun s6 => asCons r19 fun a20 r20 => asRw (.arr 2 wI) false a20 fun s7 => asNil r20 <| l12r3 (fun z1 z2 z3 z4 z5 => K (.exit 0) [(1, .ptr 0 0 []), (3, .ptr 1 0 [])] [.one w1 (.d w1 z1), .one (.opq .ptr) (.ptr 2 0 []), .one w2 (.agg [.vec 3, .vec 4, .vec 5, .vec 6]), .deep .bool z2 [], .row .bool z3 false, .row .bool z4 false, .row (.arr 2 wI) z5 false]) s1 s2 s3 s4 s5 s6 s7
theorem l12r3v : LoopV E wF (E.info 12).keep 0 Try.f12.ntmps 13000003 (body Try.f12 3) ([1, 3, 30, 31], lsl12r3) := by
  intro vs σ K (h0 : lsl12r3 vs σ K)
  unfold lsl12r3 at h0
  obtain ⟨r1, rfl, h2⟩ := cP h0
  obtain ⟨r2, rfl, h4⟩ := cP h2
  obtain ⟨s1, r3, rfl, h6⟩ := cD h4
  obtain ⟨s2, r4, rfl, h8⟩ := cD h6
  obtain ⟨rfl, h9⟩ := cN h8
  obtain ⟨s3, r5, rfl, h12⟩ := oD h9
  obtain ⟨r7, rfl, h15⟩ := oP h12
  obtain ⟨a9, r9, rfl, h16⟩ := asCons_inv h15
  obtain ⟨a10, rfl, h17⟩ := asOne_inv h16
  obtain ⟨l11, rfl, h18⟩ := asAgL_inv h17
  obtain ⟨r12, rfl, h20⟩ := cP h18
  obtain ⟨r13, rfl, h22⟩ := cP h20
  obtain ⟨r14, rfl, h24⟩ := cP h22
  obtain ⟨r15, rfl, h26⟩ := cP h24
  obtain ⟨rfl, h27⟩ := cN h26
  obtain ⟨a16, r16, rfl, h28⟩ := asCons_inv h27
  obtain ⟨s4, l17, rfl, h29⟩ := asDeep_inv h28
  obtain ⟨rfl, h30⟩ := cN h29
  obtain ⟨s5, r18, rfl, h32⟩ := cR h30
  obtain ⟨s6, r19, rfl, h34⟩ := cR h32
  obtain ⟨s7, r20, rfl, h36⟩ := cR h34
  obtain ⟨rfl, h37⟩ := cN h36
  intro J hJ
  have hp : ∀ c' ∈ subsOf (E.info 12).keep (body Try.f12 3), SubOK E wF (E.info 12).keep 0 Try.f12.ntmps (lofL Ll12r3) c' := all_eq (by kernel_rfl : subsOf (E.info 12).keep (body Try.f12 3) = []) (all_nil)
  exact h37.of (fun s1 s2 s3 s4 s5 s6 s7 => J [(13000003, .undef), (1, .ptr 0 0 []), (3, .ptr 1 0 []), (30, I s1), (31, I s2)] [.one w1 (.d w1 s3), .one (.opq .ptr) (.ptr 2 0 []), .one w2 (.agg [.vec 3, .vec 4, .vec 5, .vec 6]), .deep .bool s4 [], .row .bool s5 false, .row .bool s6 false, .row (.arr 2 wI) s7 false]) (fun s1 s2 s3 s4 s5 s6 s7 hb => loop_round2 (S := ofL Sl12r3) (L := lofL Ll12r3) hSl12r3 (inlOK _) hp hJ (by kernel_rfl) hb)
abbrev Sl27r6 : wS := [(43, none, sp43)]
theorem hSl27r6 : SpecOK E (ofL Sl27r6) := specOK_cons h43 (specOK_nil)
abbrev Ll27r6 : wL := []
def lsl27r6 : LSp := fun vs σ K => asCons vs fun a1 r1 => asP (.ptr 0 0 []) a1 <| asCons r1 fun a2 r2 => asP (.vec 1) a2 <| asCons r2 fun a3 r3 => asP (.vec 2) a3 <| asCons r3 fun a4 r4 => asD wI a4 fun s1 => asCons r4 fun a5 r5 => asD wI a5 fun s2 => asNil r5 <| asCons σ fun a6 r6 => asOne w1 a6 fun a7 => asD w1 a7 fun s3 => asCons r6 fun a8 r8 => asDeep .bool a8 fun s4 l9 => asNil l9 <| asCons r8 fun a10 r10 => asDeep .bool a10 fun s5 l11 => asNil l11 <| asNil r10 <| l27r6 (fun z1 z2 => K (.exit 0) [(2, .vec 0), (3, .vec 1)] [.deep .bool z1 [], .deep .bool z2 []]) s1 s2 s3 s4 s5
theorem l27r6v : LoopV E wF (E.info 27).keep 0 Try.f27.ntmps 28000006 (body Try.f27 6) ([1, 2, 3, 16, 17], lsl27r6) := by
  intro vs σ K (h0 : lsl27r6 vs σ K)
  unfold lsl27r6 at h0
  obtain ⟨r1, rfl, h2⟩ := cP h0
  obtain ⟨r2, rfl, h4⟩ := cP h2
  obtain ⟨r3, rfl, h6⟩ := cP h4
  obtain ⟨s1, r4, rfl, h8⟩ := cD h6
  obtain ⟨s2, r5, rfl, h10⟩ := cD h8
  obtain ⟨rfl, h11⟩ := cN h10
  obtain ⟨s3, r6, rfl, h14⟩ := oD h11
  obtain ⟨a8, r8, rfl, h15⟩ := asCons_inv h14
  obtain ⟨s4, l9, rfl, h16⟩ := asDeep_inv h15
  obtain ⟨rfl, h17⟩ := cN h16
  obtain ⟨a10, r10, rfl, h18⟩ := asCons_inv h17
  obtain ⟨s5, l11, rfl, h19⟩ := asDeep_inv h18
  obtain ⟨rfl, h20⟩ := cN h19
  obtain ⟨rfl, h21⟩ := cN h20
  intro J hJ
  have hp : ∀ c' ∈ subsOf (E.info 27).keep (body Try.f27 6), SubOK E wF (E.info 27).keep 0 Try.f27.ntmps (lofL Ll27r6) c' := all_eq (by kernel_rfl : subsOf (E.info 27).keep (body Try.f27 6) = []) (all_nil)
  exact h21.of (fun s1 s2 s3 s4 s5 => J [(28000006, .undef), (1, .ptr 0 0 []), (2, .vec 1), (3, .vec 2), (16, I s1), (17, I s2)] [.one w1 (.d w1 s3), .deep .bool s4 [], .deep .bool s5 []]) (fun s1 s2 s3 s4 s5 hb => loop_round2 (S := ofL Sl27r6) (L := lofL Ll27r6) hSl27r6 (inlOK _) hp hJ (by kernel_rfl) hb)
abbrev S27 : wS := [(11, none, sp11), (26, none, sp26)]
theorem hS27 : SpecOK E (ofL S27) := specOK_cons h11 (specOK_cons h26 (specOK_nil))
abbrev L27 : wL := [(28000006, [1, 2, 3, 16, 17], none, lsl27r6)]
def sp27 : Sp := fun args τ K => asCons args fun a1 r1 => asD w1 a1 fun x1 => asNil r1 <| asNil τ <| c27 x1 (fun z1 z2 z3 => K (.tup [.vec 0, .vec 1, I z1]) [.deep .bool z2 [], .deep .bool z3 []])
theorem h27 : ∀ args τ K, sp27 args τ K → ACall E 27 args τ K := by
  intro args τ K h0
  unfold sp27 at h0
  obtain ⟨x1, r1, rfl, h2⟩ := cD h0
  obtain ⟨rfl, h3⟩ := cN h2
  obtain ⟨rfl, h4⟩ := cN h3
  exact ACall.spec2 (fn := Try.f27) (c := codeOf Try.f27) (S := ofL S27) (L := lofL L27) hS27 (by kernel_rfl) (by kernel_rfl) (inlOK _) (all_eq (by kernel_rfl : subsOf (E.info 27).keep (codeOf Try.f27) = [.loop (body Try.f27 6)]) (all_cons (loopOK_of (mk := 28000006) (sl := [1, 2, 3, 16, 17]) (ss := [([1, 2, 3, 16, 17], lsl27r6)]) (by kernel_rfl) (by kernel_rfl) (all_cons l27r6v (all_nil))) (all_nil))) (by kernel_rfl) h4.of
abbrev Sl28r1 : wS := []
theorem hSl28r1 : SpecOK E (ofL Sl28r1) := specOK_nil
abbrev Ll28r1 : wL := []
def lsl28r1 : LSp := fun vs σ K => asCons vs fun a1 r1 => asP (.ptr 0 0 []) a1 <| asCons r1 fun a2 r2 => asP (.ptr 2 0 []) a2 <| asCons r2 fun a3 r3 => asD (.sl wI) a3 fun s1 => asCons r3 fun a4 r4 => asD wI a4 fun s2 => asCons r4 fun a5 r5 => asD wI a5 fun s3 => asNil r5 <| asCons σ fun a6 r6 => asOne (.sl .bool) a6 fun a7 => asP (.vec 1) a7 <| asCons r6 fun a8 r8 => asRw .bool false a8 fun s4 => asCons r8 fun a9 r9 => asOne (.opq .ptr) a9 fun a10 => asP (.ptr 3 0 []) a10 <| asCons r9 fun a11 r11 => asOne w2 a11 fun a12 => asAgL a12 fun l13 => asCons l13 fun a14 r14 => asP (.vec 4) a14 <| asCons r14 fun a15 r15 => asP (.vec 5) a15 <| asCons r15 fun a16 r16 => asP (.vec 6) a16 <| asCons r16 fun a17 r17 => asP (.vec 7) a17 <| asNil r17 <| asCons r11 fun a18 r18 => asDeep .bool a18 fun s5 l19 => asNil l19 <| asCons r18 fun a20 r20 => asRw .bool false a20 fun s6 => asCons r20 fun a21 r21 => asRw .bool false a21 fun s7 => asCons r21 fun a22 r22 => asRw (.arr 2 wI) false a22 fun s8 => asNil r22 <| l28r1 (fun z1 z2 z3 z4 z5 => K (.exit 0) [] [.one (.sl .bool) (.vec 1), .row .bool z1 false, .one (.opq .ptr) (.ptr 3 0 []), .one w2 (.agg [.vec 4, .vec 5, .vec 6, .vec 7]), .deep .bool z2 [], .row .bool z3 false, .row .bool z4 false, .row (.arr 2 wI) z5 false]) s1 s2 s3 s4 s5 s6 s7 s8
theorem l28r1v : LoopV E wF (E.info 28).keep 8 Try.f28.ntmps 29000001 (body Try.f28 1) ([1, 2, 6, 7, 8], lsl28r1) := by
  intro vs σ K (h0 : lsl28r1 vs σ K)
  unfold lsl28r1 at h0
  obtain ⟨r1, rfl, h2⟩ := cP h0
  obtain ⟨r2, rfl, h4⟩ := cP h2
  obtain ⟨s1, r3, rfl, h6⟩ := cD h4
  obtain ⟨s2, r4, rfl, h8⟩ := cD h6
  obtain ⟨s3, r5, rfl, h10⟩ := cD h8
  obtain ⟨rfl, h11⟩ := cN h10
  obtain ⟨r6, rfl, h14⟩ := oP h11
  obtain ⟨s4, r8, rfl, h16⟩ := cR h14
  obtain ⟨r9, rfl, h19⟩ := oP h16
  obtain ⟨a11, r11, rfl, h20⟩ := asCons_inv h19
  obtain ⟨a12, rfl, h21⟩ := asOne_inv h20
  obtain ⟨l13, rfl, h22⟩ := asAgL_inv h21
  obtain ⟨r14, rfl, h24⟩ := cP h22
  obtain ⟨r15, rfl, h26⟩ := cP h24
  obtain ⟨r16, rfl, h28⟩ := cP h26
  obtain ⟨r17, rfl, h30⟩ := cP h28
  obtain ⟨rfl, h31⟩ := cN h30
  obtain ⟨a18, r18, rfl, h32⟩ := asCons_inv h31
  obtain ⟨s5, l19, rfl, h33⟩ := asDeep_inv h32
  obtain ⟨rfl, h34⟩ := cN h33
  obtain ⟨s6, r20, rfl, h36⟩ := cR h34
  obtain ⟨s7, r21, rfl, h38⟩ := cR h36
  obtain ⟨s8, r22, rfl, h40⟩ := cR h38
  obtain ⟨rfl, h41⟩ := cN h40
  intro J hJ
  have hp : ∀ c' ∈ subsOf (E.info 28).keep (body Try.f28 1), SubOK E wF (E.info 28).keep 8 Try.f28.ntmps (lofL Ll28r1) c' := all_eq (by kernel_rfl : subsOf (E.info 28).keep (body Try.f28 1) = []) (all_nil)
  exact h41.of (fun s1 s2 s3 s4 s5 s6 s7 s8 => J [(29000001, .undef), (1, .ptr 0 0 []), (2, .ptr 2 0 []), (6, .d (.sl wI) s1), (7, I s2), (8, I s3)] [.one (.sl .bool) (.vec 1), .row .bool s4 false, .one (.opq .ptr) (.ptr 3 0 []), .one w2 (.agg [.vec 4, .vec 5, .vec 6, .vec 7]), .deep .bool s5 [], .row .bool s6 false, .row .bool s7 false, .row (.arr 2 wI) s8 false]) (fun s1 s2 s3 s4 s5 s6 s7 s8 hb => loop_round2 (S := ofL Sl28r1) (L := lofL Ll28r1) hSl28r1 (inlOK _) hp hJ (by kernel_rfl) hb)
abbrev S28 : wS := []
theorem hS28 : SpecOK E (ofL S28) := specOK_nil
abbrev L28 : wL := [(29000001, [1, 2, 6, 7, 8], none, lsl28r1)]
def sp28 : Sp := fun args τ K => asCons args fun a1 r1 => asD (.sl wI) a1 fun x1 => asCons r1 fun a2 r2 => asP (.ptr 0 0 []) a2 <| asCons r2 fun a3 r3 => asP (.ptr 2 0 []) a3 <| asNil r3 <| asCons τ fun a4 r4 => asOne (.sl .bool) a4 fun a5 => asP (.vec 1) a5 <| asCons r4 fun a6 r6 => asRw .bool false a6 fun x2 => asCons r6 fun a7 r7 => asOne (.opq .ptr) a7 fun a8 => asP (.ptr 3 0 []) a8 <| asCons r7 fun a9 r9 => asOne w2 a9 fun a10 => asAgL a10 fun l11 => asCons l11 fun a12 r12 => asP (.vec 4) a12 <| asCons r12 fun a13 r13 => asP (.vec 5) a13 <| asCons r13 fun a14 r14 => asP (.vec 6) a14 <| asCons r14 fun a15 r15 => asP (.vec 7) a15 <| asNil r15 <| asCons r9 fun a16 r16 => asDeep .bool a16 fun x3 l17 => asNil l17 <| asCons r16 fun a18 r18 => asRw .bool false a18 fun x4 => asCons r18 fun a19 r19 => asRw .bool false a19 fun x5 => asCons r19 fun a20 r20 => asRw (.arr 2 wI) false a20 fun x6 => asNil r20 <| c28 x1 x2 x3 x4 x5 x6 (fun z1 z2 z3 z4 z5 => K (.tup []) [.one (.sl .bool) (.vec 1), .row .bool z1 false, .one (.opq .ptr) (.ptr 3 0 []), .one w2 (.agg [.vec 4, .vec 5, .vec 6, .vec 7]), .deep .bool z2 [], .row .bool z3 false, .row .bool z4 false, .row (.arr 2 wI) z5 false])
theorem h28 : ∀ args τ K, sp28 args τ K → ACall E 28 args τ K := by
  intro args τ K h0
  unfold sp28 at h0
  obtain ⟨x1, r1, rfl, h2⟩ := cD h0
  obtain ⟨r2, rfl, h4⟩ := cP h2
  obtain ⟨r3, rfl, h6⟩ := cP h4
  obtain ⟨rfl, h7⟩ := cN h6
  obtain ⟨r4, rfl, h10⟩ := oP h7
  obtain ⟨x2, r6, rfl, h12⟩ := cR h10
  obtain ⟨r7, rfl, h15⟩ := oP h12
  obtain ⟨a9, r9, rfl, h16⟩ := asCons_inv h15
  obtain ⟨a10, rfl, h17⟩ := asOne_inv h16
  obtain ⟨l11, rfl, h18⟩ := asAgL_inv h17
  obtain ⟨r12, rfl, h20⟩ := cP h18
  obtain ⟨r13, rfl, h22⟩ := cP h20
  obtain ⟨r14, rfl, h24⟩ := cP h22
  obtain ⟨r15, rfl, h26⟩ := cP h24
  obtain ⟨rfl, h27⟩ := cN h26
  obtain ⟨a16, r16, rfl, h28⟩ := asCons_inv h27
  obtain ⟨x3, l17, rfl, h29⟩ := asDeep_inv h28
  obtain ⟨rfl, h30⟩ := cN h29
  obtain ⟨x4, r18, rfl, h32⟩ := cR h30
  obtain ⟨x5, r19, rfl, h34⟩ := cR h32
  obtain ⟨x6, r20, rfl, h36⟩ := cR h34
  obtain ⟨rfl, h37⟩ := cN h36
  exact ACall.spec2 (fn := Try.f28) (c := codeOf Try.f28) (S := ofL S28) (L := lofL L28) hS28 (by kernel_rfl) (by kernel_rfl) (inlOK _) (all_eq (by kernel_rfl : subsOf (E.info 28).keep (codeOf Try.f28) = [.loop (body Try.f28 1)]) (all_cons (loopOK_of (mk := 29000001) (sl := [1, 2, 6, 7, 8]) (ss := [([1, 2, 6, 7, 8], lsl28r1)]) (by kernel_rfl) (by kernel_rfl) (all_cons l28r1v (all_nil))) (all_nil))) (by kernel_rfl) h37.of
abbrev S34 : wS := []
theorem hS34 : SpecOK E (ofL S34) := specOK_nil
abbrev L34 : wL := []
def sp34 : Sp := fun args τ K => asCons args fun a1 r1 => asP (.ptr 0 0 []) a1 <| asCons r1 fun a2 r2 => asD wI a2 fun x1 => asCons r2 fun a3 r3 => asD wI a3 fun x2 => asNil r3 <| asCons τ fun a4 r4 => asOne w2 a4 fun a5 => asAgL a5 fun l6 => asCons l6 fun a7 r7 => asP (.vec 1) a7 <| asCons r7 fun a8 r8 => asP (.vec 2) a8 <| asCons r8 fun a9 r9 => asP (.vec 3) a9 <| asCons r9 fun a10 r10 => asP (.vec 4) a10 <| asNil r10 <| asCons r4 fun a11 r11 => asDeep .bool a11 fun x3 l12 => asNil l12 <| asCons r11 fun a13 r13 => asRw .bool false a13 fun x4 => asCons r13 fun a14 r14 => asRw .bool false a14 fun x5 => asCons r14 fun a15 r15 => asRw (.arr 2 wI) false a15 fun x6 => asNil r15 <| c34 x1 x2 x3 x4 x5 x6 (fun z1 z2 z3 z4 => K (.tup []) [.one w2 (.agg [.vec 1, .vec 2, .vec 3, .vec 4]), .deep .bool z1 [], .row .bool z2 false, .row .bool z3 false, .row (.arr 2 wI) z4 false])
theorem h34 : ∀ args τ K, sp34 args τ K → ACall E 34 args τ K := by
  intro args τ K h0
  unfold sp34 at h0
  obtain ⟨r1, rfl, h2⟩ := cP h0
  obtain ⟨x1, r2, rfl, h4⟩ := cD h2
  obtain ⟨x2, r3, rfl, h6⟩ := cD h4
  obtain ⟨rfl, h7⟩ := cN h6
  obtain ⟨a4, r4, rfl, h8⟩ := asCons_inv h7
  obtain ⟨a5, rfl, h9⟩ := asOne_inv h8
  obtain ⟨l6, rfl, h10⟩ := asAgL_inv h9
  obtain ⟨r7, rfl, h12⟩ := cP h10
  obtain ⟨r8, rfl, h14⟩ := cP h12
  obtain ⟨r9, rfl, h16⟩ := cP h14
  obtain ⟨r10, rfl, h18⟩ := cP h16
  obtain ⟨rfl, h19⟩ := cN h18
  obtain ⟨a11, r11, rfl, h20⟩ := asCons_inv h19
  obtain ⟨x3, l12, rfl, h21⟩ := asDeep_inv h20
  obtain ⟨rfl, h22⟩ := cN h21
  obtain ⟨x4, r13, rfl, h24⟩ := cR h22
  obtain ⟨x5, r14, rfl, h26⟩ := cR h24
  obtain ⟨x6, r15, rfl, h28⟩ := cR h26
  obtain ⟨rfl, h29⟩ := cN h28
  exact ACall.spec2 (fn := Try.f34) (c := codeOf Try.f34) (S := ofL S34) (L := lofL L34) hS34 (by kernel_rfl) (by kernel_rfl) (inlOK _) (all_eq (by kernel_rfl : subsOf (E.info 34).keep (codeOf Try.f34) = []) (all_nil)) (by kernel_rfl) h29.of
abbrev Sl31r1 : wS := [(34, none, sp34)]
theorem hSl31r1 : SpecOK E (ofL Sl31r1) := specOK_cons h34 (specOK_nil)
abbrev Ll31r1 : wL := []
def lsl31r1 : LSp := fun vs σ K => asCons vs fun a1 r1 => asP (.ptr 0 0 []) a1 <| asCons r1 fun a2 r2 => asD wI a2 fun s1 => asCons r2 fun a3 r3 => asD wI a3 fun s2 => asCons r3 fun a4 r4 => asD (.sl .bool) a4 fun s3 => asCons r4 fun a5 r5 => asD wI a5 fun s4 => asCons r5 fun a6 r6 => asD wI a6 fun s5 => asNil r6 <| asCons σ fun a7 r7 => asOne w2 a7 fun a8 => asAgL a8 fun l9 => asCons l9 fun a10 r10 => asP (.vec 1) a10 <| asCons r10 fun a11 r11 => asP (.vec 2) a11 <| asCons r11 fun a12 r12 => asP (.vec 3) a12 <| asCons r12 fun a13 r13 => asP (.vec 4) a13 <| asNil r13 <| asCons r7 fun a14 r14 => asDeep .bool a14 fun s6 l15 => asNil l15 <| asCons r14 fun a16 r16 => asRw .bool false a16 fun s7 => asCons r16 fun a17 r17 => asRw .bool false a17 fun s8 => asCons r17 fun a18 r18 => asRw (.arr 2 wI) false a18 fun s9 => asNil r18 <| l31r1 (fun z1 z2 z3 z4 => K (.exit 0) [] [.one w2 (.agg [.vec 1, .vec 2, .vec 3, .vec 4]), .deep .bool z1 [], .row .bool z2 false, .row .bool z3 false, .row (.arr 2 wI) z4 false]) s1 s2 s3 s4 s5 s6 s7 s8 s9
theorem l31r1v : LoopV E wF (E.info 31).keep 5 Try.f31.ntmps 32000001 (body Try.f31 1) ([0, 1, 2, 10, 11, 12], lsl31r1) := by
  intro vs σ K (h0 : lsl31r1 vs σ K)
  unfold lsl31r1 at h0
  obtain ⟨r1, rfl, h2⟩ := cP h0
  obtain ⟨s1, r2, rfl, h4⟩ := cD h2
  obtain ⟨s2, r3, rfl, h6⟩ := cD h4
  obtain ⟨s3, r4, rfl, h8⟩ := cD h6
  obtain ⟨s4, r5, rfl, h10⟩ := cD h8
  obtain ⟨s5, r6, rfl, h12⟩ := cD h10
  obtain ⟨rfl, h13⟩ := cN h12
  obtain ⟨a7, r7, rfl, h14⟩ := asCons_inv h13
  obtain ⟨a8, rfl, h15⟩ := asOne_inv h14
  obtain ⟨l9, rfl, h16⟩ := asAgL_inv h15
  obtain ⟨r10, rfl, h18⟩ := cP h16
  obtain ⟨r11, rfl, h20⟩ := cP h18
  obtain ⟨r12, rfl, h22⟩ := cP h20
  obtain ⟨r13, rfl, h24⟩ := cP h22
  obtain ⟨rfl, h25⟩ := cN h24
  obtain ⟨a14, r14, rfl, h26⟩ := asCons_inv h25
  obtain ⟨s6, l15, rfl, h27⟩ := asDeep_inv h26
  obtain ⟨rfl, h28⟩ := cN h27
  obtain ⟨s7, r16, rfl, h30⟩ := cR h28
  obtain ⟨s8, r17, rfl, h32⟩ := cR h30
  obtain ⟨s9, r18, rfl, h34⟩ := cR h32
  obtain ⟨rfl, h35⟩ := cN h34
  intro J hJ
  have hp : ∀ c' ∈ subsOf (E.info 31).keep (body Try.f31 1), SubOK E wF (E.info 31).keep 5 Try.f31.ntmps (lofL Ll31r1) c' := all_eq (by kernel_rfl : subsOf (E.info 31).keep (body Try.f31 1) = []) (all_nil)
  exact h35.of (fun s1 s2 s3 s4 s5 s6 s7 s8 s9 => J [(32000001, .undef), (0, .ptr 0 0 []), (1, I s1), (2, I s2), (10, .d (.sl .bool) s3), (11, I s4), (12, I s5)] [.one w2 (.agg [.vec 1, .vec 2, .vec 3, .vec 4]), .deep .bool s6 [], .row .bool s7 false, .row .bool s8 false, .row (.arr 2 wI) s9 false]) (fun s1 s2 s3 s4 s5 s6 s7 s8 s9 hb => loop_round2 (S := ofL Sl31r1) (L := lofL Ll31r1) hSl31r1 (inlOK _) hp hJ (by kernel_rfl) hb)
abbrev S31 : wS := []
theorem hS31 : SpecOK E (ofL S31) := specOK_nil
abbrev L31 : wL := [(32000001, [0, 1, 2, 10, 11, 12], none, lsl31r1)]
def sp31 : Sp := fun args τ K => asCons args fun a1 r1 => asP (.ptr 0 0 []) a1 <| asCons r1 fun a2 r2 => asD wI a2 fun x1 => asCons r2 fun a3 r3 => asD wI a3 fun x2 => asCons r3 fun a4 r4 => asD (.sl .bool) a4 fun x3 => asNil r4 <| asCons τ fun a5 r5 => asOne w2 a5 fun a6 => asAgL a6 fun l7 => asCons l7 fun a8 r8 => asP (.vec 1) a8 <| asCons r8 fun a9 r9 => asP (.vec 2) a9 <| asCons r9 fun a10 r10 => asP (.vec 3) a10 <| asCons r10 fun a11 r11 => asP (.vec 4) a11 <| asNil r11 <| asCons r5 fun a12 r12 => asDeep .bool a12 fun x4 l13 => asNil l13 <| asCons r12 fun a14 r14 => asRw .bool false a14 fun x5 => asCons r14 fun a15 r15 => asRw .bool false a15 fun x6 => asCons r15 fun a16 r16 => asRw (.arr 2 wI) false a16 fun x7 => asNil r16 <| c31 x1 x2 x3 x4 x5 x6 x7 (fun z1 z2 z3 z4 => K (.tup []) [.one w2 (.agg [.vec 1, .vec 2, .vec 3, .vec 4]), .deep .bool z1 [], .row .bool z2 false, .row .bool z3 false, .row (.arr 2 wI) z4 false])
theorem h31 : ∀ args τ K, sp31 args τ K → ACall E 31 args τ K := by
  intro args τ K h0
  unfold sp31 at h0
  obtain ⟨r1, rfl, h2⟩ := cP h0
  obtain ⟨x1, r2, rfl, h4⟩ := cD h2
  obtain ⟨x2, r3, rfl, h6⟩ := cD h4
  obtain ⟨x3, r4, rfl, h8⟩ := cD h6
  obtain ⟨rfl, h9⟩ := cN h8
  obtain ⟨a5, r5, rfl, h10⟩ := asCons_inv h9
  obtain ⟨a6, rfl, h11⟩ := asOne_inv h10
  obtain ⟨l7, rfl, h12⟩ := asAgL_inv h11
  obtain ⟨r8, rfl, h14⟩ := cP h12
  obtain ⟨r9, rfl, h16⟩ := cP h14
  obtain ⟨r10, rfl, h18⟩ := cP h16
  obtain ⟨r11, rfl, h20⟩ := cP h18
  obtain ⟨rfl, h21⟩ := cN h20
  obtain ⟨a12, r12, rfl, h22⟩ := asCons_inv h21
  obtain ⟨x4, l13, rfl, h23⟩ := asDeep_inv h22
  obtain ⟨rfl, h24⟩ := cN h23
  obtain ⟨x5, r14, rfl, h26⟩ := cR h24
  obtain ⟨x6, r15, rfl, h28⟩ := cR h26
  obtain ⟨x7, r16, rfl, h30⟩ := cR h28
  obtain ⟨rfl, h31⟩ := cN h30
  exact ACall.spec2 (fn := Try.f31) (c := codeOf Try.f31) (S := ofL S31) (L := lofL L31) hS31 (by kernel_rfl) (by kernel_rfl) (inlOK _) (all_eq (by kernel_rfl : subsOf (E.info 31).keep (codeOf Try.f31) = [.loop (body Try.f31 1)]) (all_cons (loopOK_of (mk := 32000001) (sl := [0, 1, 2, 10, 11, 12]) (ss := [([0, 1, 2, 10, 11, 12], lsl31r1)]) (by kernel_rfl) (by kernel_rfl) (all_cons l31r1v (all_nil))) (all_nil))) (by kernel_rfl) h31.of
abbrev S32 : wS := []
theorem hS32 : SpecOK E (ofL S32) := specOK_nil
abbrev L32 : wL := []
def sp32 : Sp := fun args τ K => asCons args fun a1 r1 => asD wI a1 fun x1 => asNil r1 <| asNil τ <| c32 x1 (fun z1 => K (B z1) [])
theorem h32 : ∀ args τ K, sp32 args τ K → ACall E 32 args τ K := by
  intro args τ K h0
  unfold sp32 at h0
  obtain ⟨x1, r1, rfl, h2⟩ := cD h0
  obtain ⟨rfl, h3⟩ := cN h2
  obtain ⟨rfl, h4⟩ := cN h3
  exact ACall.spec2 (fn := Try.f32) (c := codeOf Try.f32) (S := ofL S32) (L := lofL L32) hS32 (by kernel_rfl) (by kernel_rfl) (inlOK _) (all_eq (by kernel_rfl : subsOf (E.info 32).keep (codeOf Try.f32) = []) (all_nil)) (by kernel_rfl) h4.of
abbrev Sl12r26 : wS := []
theorem hSl12r26 : SpecOK E (ofL Sl12r26) := specOK_nil
abbrev Ll12r26 : wL := []
def lsl12r26 : LSp := fun vs σ K => asCons vs fun a1 r1 => asP (.ptr 0 0 []) a1 <| asCons r1 fun a2 r2 => asP (.ptr 1 0 []) a2 <| asCons r2 fun a3 r3 => asP (.vec 7) a3 <| asCons r3 fun a4 r4 => asP (.vec 8) a4 <| asCons r4 fun a5 r5 => asP (.ptr 10 0 []) a5 <| asCons r5 fun a6 r6 => asP (.ptr 11 0 []) a6 <| asCons r6 fun a7 r7 => asFn 28 a7 fun l8 l9 => asNil l8 <| asCons l9 fun a10 r10 => asP (.ptr 11 0 []) a10 <| asCons r10 fun a11 r11 => asP (.ptr 1 0 []) a11 <| asNil r11 <| asCons r7 fun a12 r12 => asD wI a12 fun s1 => asCons r12 fun a13 r13 => asP (.ptr 12 0 []) a13 <| asCons r13 fun a14 r14 => asD (.sl w0) a14 fun s2 => asCons r14 fun a15 r15 => asD wI a15 fun s3 => asCons r15 fun a16 r16 => asD wI a16 fun s4 => asCons r16 fun a17 r17 => asP (.vec 9) a17 <| asCons r17 fun a18 r18 => asD wI a18 fun s5 => asCons r18 fun a19 r19 => asD wI a19 fun s6 => asNil r19 <| asCons σ fun a20 r20 => asOne w1 a20 fun a21 => asD w1 a21 fun s7 => asCons r20 fun a22 r22 => asOne (.opq .ptr) a22 fun a23 => asP (.ptr 2 0 []) a23 <| asCons r22 fun a24 r24 => asOne w2 a24 fun a25 => asAgL a25 fun l26 => asCons l26 fun a27 r27 => asP (.vec 3) a27 <| asCons r27 fun a28 r28 => asP (.vec 4) a28 <| asCons r28 fun a29 r29 => asP (.vec 5) a29 <| asCons r29 fun a30 r30 => asP (.vec 6) a30 <| asNil r30 <| asCons r24 fun a31 r31 => asDeep .bool a31 fun s8 l32 => asNil l32 <| asCons r31 fun a33 r33 => asRw .bool false a33 fun s9 => asCons r33 fun a34 r34 => asRw .bool false a34 fun s10 => asCons r34 fun a35 r35 => asRw (.arr 2 wI) false a35 fun s11 => asCons r35 fun a36 r36 => asDeep .bool a36 fun s12 l37 => asNil l37 <| asCons r36 fun a38 r38 => asDeep .bool a38 fun s13 l39 => asCons l39 fun a40 r40 => asHole 9 a40 fun s14 => asNil r40 <| asCons r38 fun a41 r41 => asRw .bool false a41 fun s15 => asCons r41 fun a42 r42 => asOne w0 a42 fun a43 => asD w0 a43 fun s16 => asCons r42 fun a44 r44 => asOne (.sl .bool) a44 fun a45 => asP (.vec 9) a45 <| asCons r44 fun a46 r46 => asOne w3 a46 fun a47 => asD w3 a47 fun s17 => asNil r46 <| l12r26 (fun z1 z2 z3 z4 z5 z6 z7 z8 z9 z10 z11 z12 z13 z14 z15 => K (.exit 6) [(1, .ptr 0 0 []), (3, .ptr 1 0 []), (4, .vec 7), (5, .vec 8), (8, .ptr 10 0 []), (9, .ptr 11 0 []), (10, .fn 28 [] [.ptr 11 0 [], .ptr 1 0 []]), (11, I z1), (12, .ptr 12 0 []), (53, .d (.sl w0) z2), (54, I z3), (55, I z4)] [.one w1 (.d w1 z5), .one (.opq .ptr) (.ptr 2 0 []), .one w2 (.agg [.vec 3, .vec 4, .vec 5, .vec 6]), .deep .bool z6 [], .row .bool z7 false, .row .bool z8 false, .row (.arr 2 wI) z9 false, .deep .bool z10 [], .deep .bool z11 [(z12, 9)], .row .bool z13 false, .one w0 (.d w0 z14), .one (.sl .bool) (.vec 9), .one w3 (.d w3 z15)]) s1 s2 s3 s4 s5 s6 s7 s8 s9 s10 s11 s12 s13 s14 s15 s16 s17
theorem l12r26v : LoopV E wF (E.info 12).keep 0 Try.f12.ntmps 13000026 (body Try.f12 26) ([1, 3, 4, 5, 8, 9, 10, 11, 12, 53, 54, 55, 133, 134, 135], lsl12r26) := by
  intro vs σ K (h0 : lsl12r26 vs σ K)
  unfold lsl12r26 at h0
  obtain ⟨r1, rfl, h2⟩ := cP h0
  obtain ⟨r2, rfl, h4⟩ := cP h2
  obtain ⟨r3, rfl, h6⟩ := cP h4
  obtain ⟨r4, rfl, h8⟩ := cP h6
  obtain ⟨r5, rfl, h10⟩ := cP h8
  obtain ⟨r6, rfl, h12⟩ := cP h10
  obtain ⟨a7, r7, rfl, h13⟩ := asCons_inv h12
  obtain ⟨l8, l9, rfl, h14⟩ := asFn_inv h13
  obtain ⟨rfl, h15⟩ := cN h14
  obtain ⟨r10, rfl, h17⟩ := cP h15
  obtain ⟨r11, rfl, h19⟩ := cP h17
  obtain ⟨rfl, h20⟩ := cN h19
  obtain ⟨s1, r12, rfl, h22⟩ := cD h20
  obtain ⟨r13, rfl, h24⟩ := cP h22
  obtain ⟨s2, r14, rfl, h26⟩ := cD h24
  obtain ⟨s3, r15, rfl, h28⟩ := cD h26
  obtain ⟨s4, r16, rfl, h30⟩ := cD h28
  obtain ⟨r17, rfl, h32⟩ := cP h30
  obtain ⟨s5, r18, rfl, h34⟩ := cD h32
  obtain ⟨s6, r19, rfl, h36⟩ := cD h34
  obtain ⟨rfl, h37⟩ := cN h36
  obtain ⟨s7, r20, rfl, h40⟩ := oD h37
  obtain ⟨r22, rfl, h43⟩ := oP h40
  obtain ⟨a24, r24, rfl, h44⟩ := asCons_inv h43
  obtain ⟨a25, rfl, h45⟩ := asOne_inv h44
  obtain ⟨l26, rfl, h46⟩ := asAgL_inv h45
  obtain ⟨r27, rfl, h48⟩ := cP h46
  obtain ⟨r28, rfl, h50⟩ := cP h48
  obtain ⟨r29, rfl, h52⟩ := cP h50
  obtain ⟨r30, rfl, h54⟩ := cP h52
  obtain ⟨rfl, h55⟩ := cN h54
  obtain ⟨a31, r31, rfl, h56⟩ := asCons_inv h55
  obtain ⟨s8, l32, rfl, h57⟩ := asDeep_inv h56
  obtain ⟨rfl, h58⟩ := cN h57
  obtain ⟨s9, r33, rfl, h60⟩ := cR h58
  obtain ⟨s10, r34, rfl, h62⟩ := cR h60
  obtain ⟨s11, r35, rfl, h64⟩ := cR h62
  obtain ⟨a36, r36, rfl, h65⟩ := asCons_inv h64
  obtain ⟨s12, l37, rfl, h66⟩ := asDeep_inv h65
  obtain ⟨rfl, h67⟩ := cN h66
  obtain ⟨a38, r38, rfl, h68⟩ := asCons_inv h67
  obtain ⟨s13, l39, rfl, h69⟩ := asDeep_inv h68
  obtain ⟨a40, r40, rfl, h70⟩ := asCons_inv h69
  obtain ⟨s14, rfl, h71⟩ := asHole_inv h70
  obtain ⟨rfl, h72⟩ := cN h71
  obtain ⟨s15, r41, rfl, h74⟩ := cR h72
  obtain ⟨s16, r42, rfl, h77⟩ := oD h74
  obtain ⟨r44, rfl, h80⟩ := oP h77
  obtain ⟨s17, r46, rfl, h83⟩ := oD h80
  obtain ⟨rfl, h84⟩ := cN h83
  intro J hJ
  have hp : ∀ c' ∈ subsOf (E.info 12).keep (body Try.f12 26), SubOK E wF (E.info 12).keep 0 Try.f12.ntmps (lofL Ll12r26) c' := all_eq (by kernel_rfl : subsOf (E.info 12).keep (body Try.f12 26) = []) (all_nil)
  exact h84.of (fun s1 s2 s3 s4 s5 s6 s7 s8 s9 s10 s11 s12 s13 s14 s15 s16 s17 => J [(13000026, .undef), (1, .ptr 0 0 []), (3, .ptr 1 0 []), (4, .vec 7), (5, .vec 8), (8, .ptr 10 0 []), (9, .ptr 11 0 []), (10, .fn 28 [] [.ptr 11 0 [], .ptr 1 0 []]), (11, I s1), (12, .ptr 12 0 []), (53, .d (.sl w0) s2), (54, I s3), (55, I s4), (133, .vec 9), (134, I s5), (135, I s6)] [.one w1 (.d w1 s7), .one (.opq .ptr) (.ptr 2 0 []), .one w2 (.agg [.vec 3, .vec 4, .vec 5, .vec 6]), .deep .bool s8 [], .row .bool s9 false, .row .bool s10 false, .row (.arr 2 wI) s11 false, .deep .bool s12 [], .deep .bool s13 [(s14, 9)], .row .bool s15 false, .one w0 (.d w0 s16), .one (.sl .bool) (.vec 9), .one w3 (.d w3 s17)]) (fun s1 s2 s3 s4 s5 s6 s7 s8 s9 s10 s11 s12 s13 s14 s15 s16 s17 hb => loop_round2 (S := ofL Sl12r26) (L := lofL Ll12r26) hSl12r26 (inlOK _) hp hJ (by kernel_rfl) hb)
abbrev Sj12r24 : wS := [(32, none, sp32), (33, none, sp33), (28, none, sp28)]
theorem hSj12r24 : SpecOK E (ofL Sj12r24) := specOK_cons h32 (specOK_cons h33 (specOK_cons h28 (specOK_nil)))
abbrev Lj12r24 : wL := [(13000026, [1, 3, 4, 5, 8, 9, 10, 11, 12, 53, 54, 55, 133, 134, 135], none, lsl12r26)]
def lsj12r24 : LSp := fun vs σ K => asCons vs fun a1 r1 => asP (.ptr 0 0 []) a1 <| asCons r1 fun a2 r2 => asP (.ptr 1 0 []) a2 <| asCons r2 fun a3 r3 => asP (.vec 7) a3 <| asCons r3 fun a4 r4 => asP (.vec 8) a4 <| asCons r4 fun a5 r5 => asP (.ptr 10 0 []) a5 <| asCons r5 fun a6 r6 => asP (.ptr 11 0 []) a6 <| asCons r6 fun a7 r7 => asFn 28 a7 fun l8 l9 => asNil l8 <| asCons l9 fun a10 r10 => asP (.ptr 11 0 []) a10 <| asCons r10 fun a11 r11 => asP (.ptr 1 0 []) a11 <| asNil r11 <| asCons r7 fun a12 r12 => asD wI a12 fun s1 => asCons r12 fun a13 r13 => asP (.ptr 12 0 []) a13 <| asCons r13 fun a14 r14 => asD (.sl w0) a14 fun s2 => asCons r14 fun a15 r15 => asD wI a15 fun s3 => asCons r15 fun a16 r16 => asD wI a16 fun s4 => asNil r16 <| asCons σ fun a17 r17 => asOne w1 a17 fun a18 => asD w1 a18 fun s5 => asCons r17 fun a19 r19 => asOne (.opq .ptr) a19 fun a20 => asP (.ptr 2 0 []) a20 <| asCons r19 fun a21 r21 => asOne w2 a21 fun a22 => asAgL a22 fun l23 => asCons l23 fun a24 r24 => asP (.vec 3) a24 <| asCons r24 fun a25 r25 => asP (.vec 4) a25 <| asCons r25 fun a26 r26 => asP (.vec 5) a26 <| asCons r26 fun a27 r27 => asP (.vec 6) a27 <| asNil r27 <| asCons r21 fun a28 r28 => asDeep .bool a28 fun s6 l29 => asNil l29 <| asCons r28 fun a30 r30 => asRw .bool false a30 fun s7 => asCons r30 fun a31 r31 => asRw .bool false a31 fun s8 => asCons r31 fun a32 r32 => asRw (.arr 2 wI) false a32 fun s9 => asCons r32 fun a33 r33 => asDeep .bool a33 fun s10 l34 => asNil l34 <| asCons r33 fun a35 r35 => asDeep .bool a35 fun s11 l36 => asCons l36 fun a37 r37 => asHole 9 a37 fun s12 => asNil r37 <| asCons r35 fun a38 r38 => asRw .bool false a38 fun s13 => asCons r38 fun a39 r39 => asOne w0 a39 fun a40 => asD w0 a40 fun s14 => asCons r39 fun a41 r41 => asOne (.sl .bool) a41 fun a42 => asP (.vec 9) a42 <| asCons r41 fun a43 r43 => asOne w3 a43 fun a44 => asD w3 a44 fun s15 => asNil r43 <| j12r24 (fun z1 z2 z3 z4 z5 z6 z7 z8 z9 z10 z11 z12 z13 z14 => K .normal [(1, .ptr 0 0 []), (3, .ptr 1 0 []), (4, .vec 7), (5, .vec 8), (8, .ptr 10 0 []), (9, .ptr 11 0 []), (10, .fn 28 [] [.ptr 11 0 [], .ptr 1 0 []]), (11, I z1), (53, .d (.sl w0) z2), (54, I z3), (55, I z4)] [.one w1 (.d w1 z5), .one (.opq .ptr) (.ptr 2 0 []), .one w2 (.agg [.vec 3, .vec 4, .vec 5, .vec 6]), .deep .bool z6 [], .row .bool z7 false, .row .bool z8 false, .row (.arr 2 wI) z9 false, .deep .bool z10 [], .deep .bool z11 [(z12, 9)], .row .bool z13 false, .one w0 (.d w0 z14), .one (.sl .bool) (.vec 9)]) s1 s2 s3 s4 s5 s6 s7 s8 s9 s10 s11 s12 s13 s14 s15
theorem j12r24v : JoinV E wF (E.info 12).keep 0 Try.f12.ntmps 13400024 4000024 (jbody Try.f12 4000024) ([1, 3, 4, 5, 8, 9, 10, 11, 12, 53, 54, 55], lsj12r24) := by
  intro vs σ K (h0 : lsj12r24 vs σ K)
  unfold lsj12r24 at h0
  obtain ⟨r1, rfl, h2⟩ := cP h0
  obtain ⟨r2, rfl, h4⟩ := cP h2
  obtain ⟨r3, rfl, h6⟩ := cP h4
  obtain ⟨r4, rfl, h8⟩ := cP h6
  obtain ⟨r5, rfl, h10⟩ := cP h8
  obtain ⟨r6, rfl, h12⟩ := cP h10
  obtain ⟨a7, r7, rfl, h13⟩ := asCons_inv h12
  obtain ⟨l8, l9, rfl, h14⟩ := asFn_inv h13
  obtain ⟨rfl, h15⟩ := cN h14
  obtain ⟨r10, rfl, h17⟩ := cP h15
  obtain ⟨r11, rfl, h19⟩ := cP h17
  obtain ⟨rfl, h20⟩ := cN h19
  obtain ⟨s1, r12, rfl, h22⟩ := cD h20
  obtain ⟨r13, rfl, h24⟩ := cP h22
  obtain ⟨s2, r14, rfl, h26⟩ := cD h24
  obtain ⟨s3, r15, rfl, h28⟩ := cD h26
  obtain ⟨s4, r16, rfl, h30⟩ := cD h28
  obtain ⟨rfl, h31⟩ := cN h30
  obtain ⟨s5, r17, rfl, h34⟩ := oD h31
  obtain ⟨r19, rfl, h37⟩ := oP h34
  obtain ⟨a21, r21, rfl, h38⟩ := asCons_inv h37
  obtain ⟨a22, rfl, h39⟩ := asOne_inv h38
  obtain ⟨l23, rfl, h40⟩ := asAgL_inv h39
  obtain ⟨r24, rfl, h42⟩ := cP h40
  obtain ⟨r25, rfl, h44⟩ := cP h42
  obtain ⟨r26, rfl, h46⟩ := cP h44
  obtain ⟨r27, rfl, h48⟩ := cP h46
  obtain ⟨rfl, h49⟩ := cN h48
  obtain ⟨a28, r28, rfl, h50⟩ := asCons_inv h49
  obtain ⟨s6, l29, rfl, h51⟩ := asDeep_inv h50
  obtain ⟨rfl, h52⟩ := cN h51
  obtain ⟨s7, r30, rfl, h54⟩ := cR h52
  obtain ⟨s8, r31, rfl, h56⟩ := cR h54
  obtain ⟨s9, r32, rfl, h58⟩ := cR h56
  obtain ⟨a33, r33, rfl, h59⟩ := asCons_inv h58
  obtain ⟨s10, l34, rfl, h60⟩ := asDeep_inv h59
  obtain ⟨rfl, h61⟩ := cN h60
  obtain ⟨a35, r35, rfl, h62⟩ := asCons_inv h61
  obtain ⟨s11, l36, rfl, h63⟩ := asDeep_inv h62
  obtain ⟨a37, r37, rfl, h64⟩ := asCons_inv h63
  obtain ⟨s12, rfl, h65⟩ := asHole_inv h64
  obtain ⟨rfl, h66⟩ := cN h65
  obtain ⟨s13, r38, rfl, h68⟩ := cR h66
  obtain ⟨s14, r39, rfl, h71⟩ := oD h68
  obtain ⟨r41, rfl, h74⟩ := oP h71
  obtain ⟨s15, r43, rfl, h77⟩ := oD h74
  obtain ⟨rfl, h78⟩ := cN h77
  exact join_round2 (S := ofL Sj12r24) (L := lofL Lj12r24) hSj12r24 (inlOK _) (all_eq (by kernel_rfl : subsOf (E.info 12).keep (jbody Try.f12 4000024) = [.loop (body Try.f12 26)]) (all_cons (loopOK_of (mk := 13000026) (sl := [1, 3, 4, 5, 8, 9, 10, 11, 12, 53, 54, 55, 133, 134, 135]) (ss := [([1, 3, 4, 5, 8, 9, 10, 11, 12, 53, 54, 55, 133, 134, 135], lsl12r26)]) (by kernel_rfl) (by kernel_rfl) (all_cons l12r26v (all_nil))) (all_nil))) (by kernel_rfl) h78.of
abbrev Sj12r22 : wS := [(31, none, sp31)]
theorem hSj12r22 : SpecOK E (ofL Sj12r22) := specOK_cons h31 (specOK_nil)
abbrev Lj12r22 : wL := [(13400024, [1, 3, 4, 5, 8, 9, 10, 11, 12, 53, 54, 55], none, lsj12r24)]
def lsj12r22 : LSp := fun vs σ K => asCons vs fun a1 r1 => asP (.ptr 0 0 []) a1 <| asCons r1 fun a2 r2 => asP (.ptr 1 0 []) a2 <| asCons r2 fun a3 r3 => asP (.vec 7) a3 <| asCons r3 fun a4 r4 => asP (.vec 8) a4 <| asCons r4 fun a5 r5 => asP (.ptr 10 0 []) a5 <| asCons r5 fun a6 r6 => asP (.ptr 11 0 []) a6 <| asCons r6 fun a7 r7 => asFn 28 a7 fun l8 l9 => asNil l8 <| asCons l9 fun a10 r10 => asP (.ptr 11 0 []) a10 <| asCons r10 fun a11 r11 => asP (.ptr 1 0 []) a11 <| asNil r11 <| asCons r7 fun a12 r12 => asD wI a12 fun s1 => asCons r12 fun a13 r13 => asP (.ptr 12 0 []) a13 <| asCons r13 fun a14 r14 => asD wI a14 fun s2 => asCons r14 fun a15 r15 => asD wI a15 fun s3 => asCons r15 fun a16 r16 => asD (.sl w0) a16 fun s4 => asCons r16 fun a17 r17 => asD wI a17 fun s5 => asCons r17 fun a18 r18 => asD wI a18 fun s6 => asNil r18 <| asCons σ fun a19 r19 => asOne w1 a19 fun a20 => asD w1 a20 fun s7 => asCons r19 fun a21 r21 => asOne (.opq .ptr) a21 fun a22 => asP (.ptr 2 0 []) a22 <| asCons r21 fun a23 r23 => asOne w2 a23 fun a24 => asAgL a24 fun l25 => asCons l25 fun a26 r26 => asP (.vec 3) a26 <| asCons r26 fun a27 r27 => asP (.vec 4) a27 <| asCons r27 fun a28 r28 => asP (.vec 5) a28 <| asCons r28 fun a29 r29 => asP (.vec 6) a29 <| asNil r29 <| asCons r23 fun a30 r30 => asDeep .bool a30 fun s8 l31 => asNil l31 <| asCons r30 fun a32 r32 => asRw .bool false a32 fun s9 => asCons r32 fun a33 r33 => asRw .bool false a33 fun s10 => asCons r33 fun a34 r34 => asRw (.arr 2 wI) false a34 fun s11 => asCons r34 fun a35 r35 => asDeep .bool a35 fun s12 l36 => asNil l36 <| asCons r35 fun a37 r37 => asDeep .bool a37 fun s13 l38 => asCons l38 fun a39 r39 => asHole 9 a39 fun s14 => asNil r39 <| asCons r37 fun a40 r40 => asRw .bool false a40 fun s15 => asCons r40 fun a41 r41 => asOne w0 a41 fun a42 => asD w0 a42 fun s16 => asCons r41 fun a43 r43 => asOne (.sl .bool) a43 fun a44 => asP (.vec 9) a44 <| asCons r43 fun a45 r45 => asOne w3 a45 fun a46 => asD w3 a46 fun s17 => asNil r45 <| j12r22 (fun z1 z2 z3 z4 z5 z6 z7 z8 z9 z10 z11 z12 z13 z14 => K .normal [(1, .ptr 0 0 []), (3, .ptr 1 0 []), (4, .vec 7), (5, .vec 8), (8, .ptr 10 0 []), (9, .ptr 11 0 []), (10, .fn 28 [] [.ptr 11 0 [], .ptr 1 0 []]), (11, I z1), (53, .d (.sl w0) z2), (54, I z3), (55, I z4)] [.one w1 (.d w1 z5), .one (.opq .ptr) (.ptr 2 0 []), .one w2 (.agg [.vec 3, .vec 4, .vec 5, .vec 6]), .deep .bool z6 [], .row .bool z7 false, .row .bool z8 false, .row (.arr 2 wI) z9 false, .deep .bool z10 [], .deep .bool z11 [(z12, 9)], .row .bool z13 false, .one w0 (.d w0 z14), .one (.sl .bool) (.vec 9)]) s1 s2 s3 s4 s5 s6 s7 s8 s9 s10 s11 s12 s13 s14 s15 s16 s17
theorem j12r22v : JoinV E wF (E.info 12).keep 0 Try.f12.ntmps 13400022 4000022 (jbody Try.f12 4000022) ([1, 3, 4, 5, 8, 9, 10, 11, 12, 13, 14, 53, 54, 55], lsj12r22) := by
  intro vs σ K (h0 : lsj12r22 vs σ K)
  unfold lsj12r22 at h0
  obtain ⟨r1, rfl, h2⟩ := cP h0
  obtain ⟨r2, rfl, h4⟩ := cP h2
  obtain ⟨r3, rfl, h6⟩ := cP h4
  obtain ⟨r4, rfl, h8⟩ := cP h6
  obtain ⟨r5, rfl, h10⟩ := cP h8
  obtain ⟨r6, rfl, h12⟩ := cP h10
  obtain ⟨a7, r7, rfl, h13⟩ := asCons_inv h12
  obtain ⟨l8, l9, rfl, h14⟩ := asFn_inv h13
  obtain ⟨rfl, h15⟩ := cN h14
  obtain ⟨r10, rfl, h17⟩ := cP h15
  obtain ⟨r11, rfl, h19⟩ := cP h17
  obtain ⟨rfl, h20⟩ := cN h19
  obtain ⟨s1, r12, rfl, h22⟩ := cD h20
  obtain ⟨r13, rfl, h24⟩ := cP h22
  obtain ⟨s2, r14, rfl, h26⟩ := cD h24
  obtain ⟨s3, r15, rfl, h28⟩ := cD h26
  obtain ⟨s4, r16, rfl, h30⟩ := cD h28
  obtain ⟨s5, r17, rfl, h32⟩ := cD h30
  obtain ⟨s6, r18, rfl, h34⟩ := cD h32
  obtain ⟨rfl, h35⟩ := cN h34
  obtain ⟨s7, r19, rfl, h38⟩ := oD h35
  obtain ⟨r21, rfl, h41⟩ := oP h38
  obtain ⟨a23, r23, rfl, h42⟩ := asCons_inv h41
  obtain ⟨a24, rfl, h43⟩ := asOne_inv h42
  obtain ⟨l25, rfl, h44⟩ := asAgL_inv h43
  obtain ⟨r26, rfl, h46⟩ := cP h44
  obtain ⟨r27, rfl, h48⟩ := cP h46
  obtain ⟨r28, rfl, h50⟩ := cP h48
  obtain ⟨r29, rfl, h52⟩ := cP h50
  obtain ⟨rfl, h53⟩ := cN h52
  obtain ⟨a30, r30, rfl, h54⟩ := asCons_inv h53
  obtain ⟨s8, l31, rfl, h55⟩ := asDeep_inv h54
  obtain ⟨rfl, h56⟩ := cN h55
  obtain ⟨s9, r32, rfl, h58⟩ := cR h56
  obtain ⟨s10, r33, rfl, h60⟩ := cR h58
  obtain ⟨s11, r34, rfl, h62⟩ := cR h60
  obtain ⟨a35, r35, rfl, h63⟩ := asCons_inv h62
  obtain ⟨s12, l36, rfl, h64⟩ := asDeep_inv h63
  obtain ⟨rfl, h65⟩ := cN h64
  obtain ⟨a37, r37, rfl, h66⟩ := asCons_inv h65
  obtain ⟨s13, l38, rfl, h67⟩ := asDeep_inv h66
  obtain ⟨a39, r39, rfl, h68⟩ := asCons_inv h67
  obtain ⟨s14, rfl, h69⟩ := asHole_inv h68
  obtain ⟨rfl, h70⟩ := cN h69
  obtain ⟨s15, r40, rfl, h72⟩ := cR h70
  obtain ⟨s16, r41, rfl, h75⟩ := oD h72
  obtain ⟨r43, rfl, h78⟩ := oP h75
  obtain ⟨s17, r45, rfl, h81⟩ := oD h78
  obtain ⟨rfl, h82⟩ := cN h81
  exact join_round2 (S := ofL Sj12r22) (L := lofL Lj12r22) hSj12r22 (inlOK _) (all_eq (by kernel_rfl : subsOf (E.info 12).keep (jbody Try.f12 4000022) = [.join 4000024 (jbody Try.f12 4000024)]) (all_cons (joinOK_of (mk := 13400024) (sl := [1, 3, 4, 5, 8, 9, 10, 11, 12, 53, 54, 55]) (ss := [([1, 3, 4, 5, 8, 9, 10, 11, 12, 53, 54, 55], lsj12r24)]) (by kernel_rfl) (by kernel_rfl) (all_cons j12r24v (all_nil))) (all_nil))) (by kernel_rfl) h82.of
abbrev Sl12r14 : wS := [(30, none, sp30)]
theorem hSl12r14 : SpecOK E (ofL Sl12r14) := specOK_cons h30 (specOK_nil)
abbrev Ll12r14 : wL := [(13400022, [1, 3, 4, 5, 8, 9, 10, 11, 12, 13, 14, 53, 54, 55], none, lsj12r22)]
def lsl12r14 : LSp := fun vs σ K => asCons vs fun a1 r1 => asP (.ptr 0 0 []) a1 <| asCons r1 fun a2 r2 => asP (.ptr 1 0 []) a2 <| asCons r2 fun a3 r3 => asP (.vec 7) a3 <| asCons r3 fun a4 r4 => asP (.vec 8) a4 <| asCons r4 fun a5 r5 => asP (.ptr 10 0 []) a5 <| asCons r5 fun a6 r6 => asP (.ptr 11 0 []) a6 <| asCons r6 fun a7 r7 => asFn 28 a7 fun l8 l9 => asNil l8 <| asCons l9 fun a10 r10 => asP (.ptr 11 0 []) a10 <| asCons r10 fun a11 r11 => asP (.ptr 1 0 []) a11 <| asNil r11 <| asCons r7 fun a12 r12 => asD wI a12 fun s1 => asCons r12 fun a13 r13 => asD (.sl w0) a13 fun s2 => asCons r13 fun a14 r14 => asD wI a14 fun s3 => asCons r14 fun a15 r15 => asD wI a15 fun s4 => asNil r15 <| asCons σ fun a16 r16 => asOne w1 a16 fun a17 => asD w1 a17 fun s5 => asCons r16 fun a18 r18 => asOne (.opq .ptr) a18 fun a19 => asP (.ptr 2 0 []) a19 <| asCons r18 fun a20 r20 => asOne w2 a20 fun a21 => asAgL a21 fun l22 => asCons l22 fun a23 r23 => asP (.vec 3) a23 <| asCons r23 fun a24 r24 => asP (.vec 4) a24 <| asCons r24 fun a25 r25 => asP (.vec 5) a25 <| asCons r25 fun a26 r26 => asP (.vec 6) a26 <| asNil r26 <| asCons r20 fun a27 r27 => asDeep .bool a27 fun s6 l28 => asNil l28 <| asCons r27 fun a29 r29 => asRw .bool false a29 fun s7 => asCons r29 fun a30 r30 => asRw .bool false a30 fun s8 => asCons r30 fun a31 r31 => asRw (.arr 2 wI) false a31 fun s9 => asCons r31 fun a32 r32 => asDeep .bool a32 fun s10 l33 => asNil l33 <| asCons r32 fun a34 r34 => asDeep .bool a34 fun s11 l35 => asCons l35 fun a36 r36 => asHole 9 a36 fun s12 => asNil r36 <| asCons r34 fun a37 r37 => asRw .bool false a37 fun s13 => asCons r37 fun a38 r38 => asOne w0 a38 fun a39 => asD w0 a39 fun s14 => asCons r38 fun a40 r40 => asOne (.sl .bool) a40 fun a41 => asP (.vec 9) a41 <| asNil r40 <| l12r14 (fun z1 z2 z3 z4 z5 z6 z7 z8 z9 z10 => K (.exit 4) [(1, .ptr 0 0 []), (3, .ptr 1 0 []), (4, .vec 7), (5, .vec 8), (53, .d (.sl w0) z1), (54, I z2), (55, I z3)] [.one w1 (.d w1 z4), .one (.opq .ptr) (.ptr 2 0 []), .one w2 (.agg [.vec 3, .vec 4, .vec 5, .vec 6]), .deep .bool z5 [], .row .bool z6 false, .row .bool z7 false, .row (.arr 2 wI) z8 false, .deep .bool z9 [], .deep .bool z10 []]) s1 s2 s3 s4 s5 s6 s7 s8 s9 s10 s11 s12 s13 s14
theorem l12r14v : LoopV E wF (E.info 12).keep 0 Try.f12.ntmps 13000014 (body Try.f12 14) ([1, 3, 4, 5, 8, 9, 10, 11, 53, 54, 55], lsl12r14) := by
  intro vs σ K (h0 : lsl12r14 vs σ K)
  unfold lsl12r14 at h0
  obtain ⟨r1, rfl, h2⟩ := cP h0
  obtain ⟨r2, rfl, h4⟩ := cP h2
  obtain ⟨r3, rfl, h6⟩ := cP h4
  obtain ⟨r4, rfl, h8⟩ := cP h6
  obtain ⟨r5, rfl, h10⟩ := cP h8
  obtain ⟨r6, rfl, h12⟩ := cP h10
  obtain ⟨a7, r7, rfl, h13⟩ := asCons_inv h12
  obtain ⟨l8, l9, rfl, h14⟩ := asFn_inv h13
  obtain ⟨rfl, h15⟩ := cN h14
  obtain ⟨r10, rfl, h17⟩ := cP h15
  obtain ⟨r11, rfl, h19⟩ := cP h17
  obtain ⟨rfl, h20⟩ := cN h19
  obtain ⟨s1, r12, rfl, h22⟩ := cD h20
  obtain ⟨s2, r13, rfl, h24⟩ := cD h22
  obtain ⟨s3, r14, rfl, h26⟩ := cD h24
  obtain ⟨s4, r15, rfl, h28⟩ := cD h26
  obtain ⟨rfl, h29⟩ := cN h28
  obtain ⟨s5, r16, rfl, h32⟩ := oD h29
  obtain ⟨r18, rfl, h35⟩ := oP h32
  obtain ⟨a20, r20, rfl, h36⟩ := asCons_inv h35
  obtain ⟨a21, rfl, h37⟩ := asOne_inv h36
  obtain ⟨l22, rfl, h38⟩ := asAgL_inv h37
  obtain ⟨r23, rfl, h40⟩ := cP h38
  obtain ⟨r24, rfl, h42⟩ := cP h40
  obtain ⟨r25, rfl, h44⟩ := cP h42
  obtain ⟨r26, rfl, h46⟩ := cP h44
  obtain ⟨rfl, h47⟩ := cN h46
  obtain ⟨a27, r27, rfl, h48⟩ := asCons_inv h47
  obtain ⟨s6, l28, rfl, h49⟩ := asDeep_inv h48
  obtain ⟨rfl, h50⟩ := cN h49
  obtain ⟨s7, r29, rfl, h52⟩ := cR h50
  obtain ⟨s8, r30, rfl, h54⟩ := cR h52
  obtain ⟨s9, r31, rfl, h56⟩ := cR h54
  obtain ⟨a32, r32, rfl, h57⟩ := asCons_inv h56
  obtain ⟨s10, l33, rfl, h58⟩ := asDeep_inv h57
  obtain ⟨rfl, h59⟩ := cN h58
  obtain ⟨a34, r34, rfl, h60⟩ := asCons_inv h59
  obtain ⟨s11, l35, rfl, h61⟩ := asDeep_inv h60
  obtain ⟨a36, r36, rfl, h62⟩ := asCons_inv h61
  obtain ⟨s12, rfl, h63⟩ := asHole_inv h62
  obtain ⟨rfl, h64⟩ := cN h63
  obtain ⟨s13, r37, rfl, h66⟩ := cR h64
  obtain ⟨s14, r38, rfl, h69⟩ := oD h66
  obtain ⟨r40, rfl, h72⟩ := oP h69
  obtain ⟨rfl, h73⟩ := cN h72
  intro J hJ
  have hp : ∀ c' ∈ subsOf (E.info 12).keep (body Try.f12 14), SubOK E wF (E.info 12).keep 0 Try.f12.ntmps (lofL Ll12r14) c' := all_eq (by kernel_rfl : subsOf (E.info 12).keep (body Try.f12 14) = [.join 4000022 (jbody Try.f12 4000022)]) (all_cons (joinOK_of (mk := 13400022) (sl := [1, 3, 4, 5, 8, 9, 10, 11, 12, 13, 14, 53, 54, 55]) (ss := [([1, 3, 4, 5, 8, 9, 10, 11, 12, 13, 14, 53, 54, 55], lsj12r22)]) (by kernel_rfl) (by kernel_rfl) (all_cons j12r22v (all_nil))) (all_nil))
  exact h73.of (fun s1 s2 s3 s4 s5 s6 s7 s8 s9 s10 s11 s12 s13 s14 => J [(13000014, .undef), (1, .ptr 0 0 []), (3, .ptr 1 0 []), (4, .vec 7), (5, .vec 8), (8, .ptr 10 0 []), (9, .ptr 11 0 []), (10, .fn 28 [] [.ptr 11 0 [], .ptr 1 0 []]), (11, I s1), (53, .d (.sl w0) s2), (54, I s3), (55, I s4)] [.one w1 (.d w1 s5), .one (.opq .ptr) (.ptr 2 0 []), .one w2 (.agg [.vec 3, .vec 4, .vec 5, .vec 6]), .deep .bool s6 [], .row .bool s7 false, .row .bool s8 false, .row (.arr 2 wI) s9 false, .deep .bool s10 [], .deep .bool s11 [(s12, 9)], .row .bool s13 false, .one w0 (.d w0 s14), .one (.sl .bool) (.vec 9)]) (fun s1 s2 s3 s4 s5 s6 s7 s8 s9 s10 s11 s12 s13 s14 hb => loop_round2 (S := ofL Sl12r14) (L := lofL Ll12r14) hSl12r14 (inlOK _) hp hJ (by kernel_rfl) hb)
abbrev Sl12r8 : wS := [(29, none, sp29), (28, none, sp28)]
theorem hSl12r8 : SpecOK E (ofL Sl12r8) := specOK_cons h29 (specOK_cons h28 (specOK_nil))
abbrev Ll12r8 : wL := [(13000014, [1, 3, 4, 5, 8, 9, 10, 11, 53, 54, 55], none, lsl12r14)]
def lsl12r8 : LSp := fun vs σ K => asCons vs fun a1 r1 => asP (.ptr 0 0 []) a1 <| asCons r1 fun a2 r2 => asP (.ptr 1 0 []) a2 <| asCons r2 fun a3 r3 => asP (.vec 7) a3 <| asCons r3 fun a4 r4 => asP (.vec 8) a4 <| asCons r4 fun a5 r5 => asD (.sl w0) a5 fun s1 => asCons r5 fun a6 r6 => asD wI a6 fun s2 => asCons r6 fun a7 r7 => asD wI a7 fun s3 => asNil r7 <| asCons σ fun a8 r8 => asOne w1 a8 fun a9 => asD w1 a9 fun s4 => asCons r8 fun a10 r10 => asOne (.opq .ptr) a10 fun a11 => asP (.ptr 2 0 []) a11 <| asCons r10 fun a12 r12 => asOne w2 a12 fun a13 => asAgL a13 fun l14 => asCons l14 fun a15 r15 => asP (.vec 3) a15 <| asCons r15 fun a16 r16 => asP (.vec 4) a16 <| asCons r16 fun a17 r17 => asP (.vec 5) a17 <| asCons r17 fun a18 r18 => asP (.vec 6) a18 <| asNil r18 <| asCons r12 fun a19 r19 => asDeep .bool a19 fun s5 l20 => asNil l20 <| asCons r19 fun a21 r21 => asRw .bool false a21 fun s6 => asCons r21 fun a22 r22 => asRw .bool false a22 fun s7 => asCons r22 fun a23 r23 => asRw (.arr 2 wI) false a23 fun s8 => asCons r23 fun a24 r24 => asDeep .bool a24 fun s9 l25 => asNil l25 <| asCons r24 fun a26 r26 => asDeep .bool a26 fun s10 l27 => asNil l27 <| asNil r26 <| l12r8 (fun z1 z2 z3 z4 z5 z6 => K (.exit 2) [(1, .ptr 0 0 []), (3, .ptr 1 0 []), (4, .vec 7)] [.one w1 (.d w1 z1), .one (.opq .ptr) (.ptr 2 0 []), .one w2 (.agg [.vec 3, .vec 4, .vec 5, .vec 6]), .deep .bool z2 [], .row .bool z3 false, .row .bool z4 false, .row (.arr 2 wI) z5 false, .deep .bool z6 []]) s1 s2 s3 s4 s5 s6 s7 s8 s9 s10
theorem l12r8v : LoopV E wF (E.info 12).keep 0 Try.f12.ntmps 13000008 (body Try.f12 8) ([1, 3, 4, 5, 53, 54, 55], lsl12r8) := by
  intro vs σ K (h0 : lsl12r8 vs σ K)
  unfold lsl12r8 at h0
  obtain ⟨r1, rfl, h2⟩ := cP h0
  obtain ⟨r2, rfl, h4⟩ := cP h2
  obtain ⟨r3, rfl, h6⟩ := cP h4
  obtain ⟨r4, rfl, h8⟩ := cP h6
  obtain ⟨s1, r5, rfl, h10⟩ := cD h8
  obtain ⟨s2, r6, rfl, h12⟩ := cD h10
  obtain ⟨s3, r7, rfl, h14⟩ := cD h12
  obtain ⟨rfl, h15⟩ := cN h14
  obtain ⟨s4, r8, rfl, h18⟩ := oD h15
  obtain ⟨r10, rfl, h21⟩ := oP h18
  obtain ⟨a12, r12, rfl, h22⟩ := asCons_inv h21
  obtain ⟨a13, rfl, h23⟩ := asOne_inv h22
  obtain ⟨l14, rfl, h24⟩ := asAgL_inv h23
  obtain ⟨r15, rfl, h26⟩ := cP h24
  obtain ⟨r16, rfl, h28⟩ := cP h26
  obtain ⟨r17, rfl, h30⟩ := cP h28
  obtain ⟨r18, rfl, h32⟩ := cP h30
  obtain ⟨rfl, h33⟩ := cN h32
  obtain ⟨a19, r19, rfl, h34⟩ := asCons_inv h33
  obtain ⟨s5, l20, rfl, h35⟩ := asDeep_inv h34
  obtain ⟨rfl, h36⟩ := cN h35
  obtain ⟨s6, r21, rfl, h38⟩ := cR h36
  obtain ⟨s7, r22, rfl, h40⟩ := cR h38
  obtain ⟨s8, r23, rfl, h42⟩ := cR h40
  obtain ⟨a24, r24, rfl, h43⟩ := asCons_inv h42
  obtain ⟨s9, l25, rfl, h44⟩ := asDeep_inv h43
  obtain ⟨rfl, h45⟩ := cN h44
  obtain ⟨a26, r26, rfl, h46⟩ := asCons_inv h45
  obtain ⟨s10, l27, rfl, h47⟩ := asDeep_inv h46
  obtain ⟨rfl, h48⟩ := cN h47
  obtain ⟨rfl, h49⟩ := cN h48
  intro J hJ
  have hp : ∀ c' ∈ subsOf (E.info 12).keep (body Try.f12 8), SubOK E wF (E.info 12).keep 0 Try.f12.ntmps (lofL Ll12r8) c' := all_eq (by kernel_rfl : subsOf (E.info 12).keep (body Try.f12 8) = [.loop (body Try.f12 14)]) (all_cons (loopOK_of (mk := 13000014) (sl := [1, 3, 4, 5, 8, 9, 10, 11, 53, 54, 55]) (ss := [([1, 3, 4, 5, 8, 9, 10, 11, 53, 54, 55], lsl12r14)]) (by kernel_rfl) (by kernel_rfl) (all_cons l12r14v (all_nil))) (all_nil))
  exact h49.of (fun s1 s2 s3 s4 s5 s6 s7 s8 s9 s10 => J [(13000008, .undef), (1, .ptr 0 0 []), (3, .ptr 1 0 []), (4, .vec 7), (5, .vec 8), (53, .d (.sl w0) s1), (54, I s2), (55, I s3)] [.one w1 (.d w1 s4), .one (.opq .ptr) (.ptr 2 0 []), .one w2 (.agg [.vec 3, .vec 4, .vec 5, .vec 6]), .deep .bool s5 [], .row .bool s6 false, .row .bool s7 false, .row (.arr 2 wI) s8 false, .deep .bool s9 [], .deep .bool s10 []]) (fun s1 s2 s3 s4 s5 s6 s7 s8 s9 s10 hb => loop_round2 (S := ofL Sl12r8) (L := lofL Ll12r8) hSl12r8 (inlOK _) hp hJ (by kernel_rfl) hb)
abbrev Sl12r37 : wS := [(34, none, sp34)]
theorem hSl12r37 : SpecOK E (ofL Sl12r37) := specOK_cons h34 (specOK_nil)
abbrev Ll12r37 : wL := []
def lsl12r37 : LSp := fun vs σ K => asCons vs fun a1 r1 => asP (.ptr 0 0 []) a1 <| asCons r1 fun a2 r2 => asP (.ptr 1 0 []) a2 <| asCons r2 fun a3 r3 => asP (.vec 7) a3 <| asCons r3 fun a4 r4 => asD wI a4 fun s1 => asCons r4 fun a5 r5 => asD (.sl wI) a5 fun s2 => asCons r5 fun a6 r6 => asD wI a6 fun s3 => asCons r6 fun a7 r7 => asD wI a7 fun s4 => asCons r7 fun a8 r8 => asD (.sl wI) a8 fun s5 => asCons r8 fun a9 r9 => asD wI a9 fun s6 => asCons r9 fun a10 r10 => asD wI a10 fun s7 => asNil r10 <| asCons σ fun a11 r11 => asOne w1 a11 fun a12 => asD w1 a12 fun s8 => asCons r11 fun a13 r13 => asOne (.opq .ptr) a13 fun a14 => asP (.ptr 2 0 []) a14 <| asCons r13 fun a15 r15 => asOne w2 a15 fun a16 => asAgL a16 fun l17 => asCons l17 fun a18 r18 => asP (.vec 3) a18 <| asCons r18 fun a19 r19 => asP (.vec 4) a19 <| asCons r19 fun a20 r20 => asP (.vec 5) a20 <| asCons r20 fun a21 r21 => asP (.vec 6) a21 <| asNil r21 <| asCons r15 fun a22 r22 => asDeep .bool a22 fun s9 l23 => asNil l23 <| asCons r22 fun a24 r24 => asRw .bool false a24 fun s10 => asCons r24 fun a25 r25 => asRw .bool false a25 fun s11 => asCons r25 fun a26 r26 => asRw (.arr 2 wI) false a26 fun s12 => asCons r26 fun a27 r27 => asDeep .bool a27 fun s13 l28 => asNil l28 <| asNil r27 <| l12r37 (fun z1 z2 z3 z4 z5 z6 z7 z8 z9 z10 => K (.exit 10) [(1, .ptr 0 0 []), (3, .ptr 1 0 []), (4, .vec 7), (18, I z1), (163, .d (.sl wI) z2), (164, I z3), (165, I z4)] [.one w1 (.d w1 z5), .one (.opq .ptr) (.ptr 2 0 []), .one w2 (.agg [.vec 3, .vec 4, .vec 5, .vec 6]), .deep .bool z6 [], .row .bool z7 false, .row .bool z8 false, .row (.arr 2 wI) z9 false, .deep .bool z10 []]) s1 s2 s3 s4 s5 s6 s7 s8 s9 s10 s11 s12 s13
theorem l12r37v : LoopV E wF (E.info 12).keep 0 Try.f12.ntmps 13000037 (body Try.f12 37) ([1, 3, 4, 18, 163, 164, 165, 179, 180, 181], lsl12r37) := by
  intro vs σ K (h0 : lsl12r37 vs σ K)
  unfold lsl12r37 at h0
  obtain ⟨r1, rfl, h2⟩ := cP h0
  obtain ⟨r2, rfl, h4⟩ := cP h2
  obtain ⟨r3, rfl, h6⟩ := cP h4
  obtain ⟨s1, r4, rfl, h8⟩ := cD h6
  obtain ⟨s2, r5, rfl, h10⟩ := cD h8
  obtain ⟨s3, r6, rfl, h12⟩ := cD h10
  obtain ⟨s4, r7, rfl, h14⟩ := cD h12
  obtain ⟨s5, r8, rfl, h16⟩ := cD h14
  obtain ⟨s6, r9, rfl, h18⟩ := cD h16
  obtain ⟨s7, r10, rfl, h20⟩ := cD h18
  obtain ⟨rfl, h21⟩ := cN h20
  obtain ⟨s8, r11, rfl, h24⟩ := oD h21
  obtain ⟨r13, rfl, h27⟩ := oP h24
  obtain ⟨a15, r15, rfl, h28⟩ := asCons_inv h27
  obtain ⟨a16, rfl, h29⟩ := asOne_inv h28
  obtain ⟨l17, rfl, h30⟩ := asAgL_inv h29
  obtain ⟨r18, rfl, h32⟩ := cP h30
  obtain ⟨r19, rfl, h34⟩ := cP h32
  obtain ⟨r20, rfl, h36⟩ := cP h34
  obtain ⟨r21, rfl, h38⟩ := cP h36
  obtain ⟨rfl, h39⟩ := cN h38
  obtain ⟨a22, r22, rfl, h40⟩ := asCons_inv h39
  obtain ⟨s9, l23, rfl, h41⟩ := asDeep_inv h40
  obtain ⟨rfl, h42⟩ := cN h41
  obtain ⟨s10, r24, rfl, h44⟩ := cR h42
  obtain ⟨s11, r25, rfl, h46⟩ := cR h44
  obtain ⟨s12, r26, rfl, h48⟩ := cR h46
  obtain ⟨a27, r27, rfl, h49⟩ := asCons_inv h48
  obtain ⟨s13, l28, rfl, h50⟩ := asDeep_inv h49
  obtain ⟨rfl, h51⟩ := cN h50
  obtain ⟨rfl, h52⟩ := cN h51
  intro J hJ
  have hp : ∀ c' ∈ subsOf (E.info 12).keep (body Try.f12 37), SubOK E wF (E.info 12).keep 0 Try.f12.ntmps (lofL Ll12r37) c' := all_eq (by kernel_rfl : subsOf (E.info 12).keep (body Try.f12 37) = []) (all_nil)
  exact h52.of (fun s1 s2 s3 s4 s5 s6 s7 s8 s9 s10 s11 s12 s13 => J [(13000037, .undef), (1, .ptr 0 0 []), (3, .ptr 1 0 []), (4, .vec 7), (18, I s1), (163, .d (.sl wI) s2), (164, I s3), (165, I s4), (179, .d (.sl wI) s5), (180, I s6), (181, I s7)] [.one w1 (.d w1 s8), .one (.opq .ptr) (.ptr 2 0 []), .one w2 (.agg [.vec 3, .vec 4, .vec 5, .vec 6]), .deep .bool s9 [], .row .bool s10 false, .row .bool s11 false, .row (.arr 2 wI) s12 false, .deep .bool s13 []]) (fun s1 s2 s3 s4 s5 s6 s7 s8 s9 s10 s11 s12 s13 hb => loop_round2 (S := ofL Sl12r37) (L := lofL Ll12r37) hSl12r37 (inlOK _) hp hJ (by kernel_rfl) hb)
abbrev Sl12r33 : wS := [(31, none, sp31)]
theorem hSl12r33 : SpecOK E (ofL Sl12r33) := specOK_cons h31 (specOK_nil)
abbrev Ll12r33 : wL := [(13000037, [1, 3, 4, 18, 163, 164, 165, 179, 180, 181], none, lsl12r37)]
def lsl12r33 : LSp := fun vs σ K => asCons vs fun a1 r1 => asP (.ptr 0 0 []) a1 <| asCons r1 fun a2 r2 => asP (.ptr 1 0 []) a2 <| asCons r2 fun a3 r3 => asP (.vec 7) a3 <| asCons r3 fun a4 r4 => asD (.sl wI) a4 fun s1 => asCons r4 fun a5 r5 => asD wI a5 fun s2 => asCons r5 fun a6 r6 => asD wI a6 fun s3 => asNil r6 <| asCons σ fun a7 r7 => asOne w1 a7 fun a8 => asD w1 a8 fun s4 => asCons r7 fun a9 r9 => asOne (.opq .ptr) a9 fun a10 => asP (.ptr 2 0 []) a10 <| asCons r9 fun a11 r11 => asOne w2 a11 fun a12 => asAgL a12 fun l13 => asCons l13 fun a14 r14 => asP (.vec 3) a14 <| asCons r14 fun a15 r15 => asP (.vec 4) a15 <| asCons r15 fun a16 r16 => asP (.vec 5) a16 <| asCons r16 fun a17 r17 => asP (.vec 6) a17 <| asNil r17 <| asCons r11 fun a18 r18 => asDeep .bool a18 fun s5 l19 => asNil l19 <| asCons r18 fun a20 r20 => asRw .bool false a20 fun s6 => asCons r20 fun a21 r21 => asRw .bool false a21 fun s7 => asCons r21 fun a22 r22 => asRw (.arr 2 wI) false a22 fun s8 => asCons r22 fun a23 r23 => asDeep .bool a23 fun s9 l24 => asNil l24 <| asNil r23 <| l12r33 (fun z1 z2 z3 z4 => K (.exit 8) [(3, .ptr 0 0 [])] [.one (.opq .ptr) (.ptr 1 0 []), .one w2 (.agg [.vec 2, .vec 3, .vec 4, .vec 5]), .deep .bool z1 [], .row .bool z2 false, .row .bool z3 false, .row (.arr 2 wI) z4 false]) s1 s2 s3 s4 s5 s6 s7 s8 s9
theorem l12r33v : LoopV E wF (E.info 12).keep 0 Try.f12.ntmps 13000033 (body Try.f12 33) ([1, 3, 4, 163, 164, 165], lsl12r33) := by
  intro vs σ K (h0 : lsl12r33 vs σ K)
  unfold lsl12r33 at h0
  obtain ⟨r1, rfl, h2⟩ := cP h0
  obtain ⟨r2, rfl, h4⟩ := cP h2
  obtain ⟨r3, rfl, h6⟩ := cP h4
  obtain ⟨s1, r4, rfl, h8⟩ := cD h6
  obtain ⟨s2, r5, rfl, h10⟩ := cD h8
  obtain ⟨s3, r6, rfl, h12⟩ := cD h10
  obtain ⟨rfl, h13⟩ := cN h12
  obtain ⟨s4, r7, rfl, h16⟩ := oD h13
  obtain ⟨r9, rfl, h19⟩ := oP h16
  obtain ⟨a11, r11, rfl, h20⟩ := asCons_inv h19
  obtain ⟨a12, rfl, h21⟩ := asOne_inv h20
  obtain ⟨l13, rfl, h22⟩ := asAgL_inv h21
  obtain ⟨r14, rfl, h24⟩ := cP h22
  obtain ⟨r15, rfl, h26⟩ := cP h24
  obtain ⟨r16, rfl, h28⟩ := cP h26
  obtain ⟨r17, rfl, h30⟩ := cP h28
  obtain ⟨rfl, h31⟩ := cN h30
  obtain ⟨a18, r18, rfl, h32⟩ := asCons_inv h31
  obtain ⟨s5, l19, rfl, h33⟩ := asDeep_inv h32
  obtain ⟨rfl, h34⟩ := cN h33
  obtain ⟨s6, r20, rfl, h36⟩ := cR h34
  obtain ⟨s7, r21, rfl, h38⟩ := cR h36
  obtain ⟨s8, r22, rfl, h40⟩ := cR h38
  obtain ⟨a23, r23, rfl, h41⟩ := asCons_inv h40
  obtain ⟨s9, l24, rfl, h42⟩ := asDeep_inv h41
  obtain ⟨rfl, h43⟩ := cN h42
  obtain ⟨rfl, h44⟩ := cN h43
  intro J hJ
  have hp : ∀ c' ∈ subsOf (E.info 12).keep (body Try.f12 33), SubOK E wF (E.info 12).keep 0 Try.f12.ntmps (lofL Ll12r33) c' := all_eq (by kernel_rfl : subsOf (E.info 12).keep (body Try.f12 33) = [.loop (body Try.f12 37)]) (all_cons (loopOK_of (mk := 13000037) (sl := [1, 3, 4, 18, 163, 164, 165, 179, 180, 181]) (ss := [([1, 3, 4, 18, 163, 164, 165, 179, 180, 181], lsl12r37)]) (by kernel_rfl) (by kernel_rfl) (all_cons l12r37v (all_nil))) (all_nil))
  exact h44.of (fun s1 s2 s3 s4 s5 s6 s7 s8 s9 => J [(13000033, .undef), (1, .ptr 0 0 []), (3, .ptr 1 0 []), (4, .vec 7), (163, .d (.sl wI) s1), (164, I s2), (165, I s3)] [.one w1 (.d w1 s4), .one (.opq .ptr) (.ptr 2 0 []), .one w2 (.agg [.vec 3, .vec 4, .vec 5, .vec 6]), .deep .bool s5 [], .row .bool s6 false, .row .bool s7 false, .row (.arr 2 wI) s8 false, .deep .bool s9 []]) (fun s1 s2 s3 s4 s5 s6 s7 s8 s9 hb => loop_round2 (S := ofL Sl12r33) (L := lofL Ll12r33) hSl12r33 (inlOK _) hp hJ (by kernel_rfl) hb)
abbrev Sj12r2 : wS := [(27, none, sp27)]
theorem hSj12r2 : SpecOK E (ofL Sj12r2) := specOK_cons h27 (specOK_nil)
abbrev Lj12r2 : wL := [(13000003, [1, 3, 30, 31], none, lsl12r3), (13000008, [1, 3, 4, 5, 53, 54, 55], none, lsl12r8), (13000033, [1, 3, 4, 163, 164, 165], none, lsl12r33)]
def lsj12r2 : LSp := fun vs σ K => asCons vs fun a1 r1 => asP (.ptr 0 0 []) a1 <| asCons r1 fun a2 r2 => asP (.ptr 1 0 []) a2 <| asNil r2 <| asCons σ fun a3 r3 => asOne w1 a3 fun a4 => asD w1 a4 fun s1 => asCons r3 fun a5 r5 => asOne (.opq .ptr) a5 fun a6 => asP (.ptr 2 0 []) a6 <| asCons r5 fun a7 r7 => asOne w2 a7 fun a8 => asAgL a8 fun l9 => asCons l9 fun a10 r10 => asP (.vec 3) a10 <| asCons r10 fun a11 r11 => asP (.vec 4) a11 <| asCons r11 fun a12 r12 => asP (.vec 5) a12 <| asCons r12 fun a13 r13 => asP (.vec 6) a13 <| asNil r13 <| asCons r7 fun a14 r14 => asDeep .bool a14 fun s2 l15 => asNil l15 <| asCons r14 fun a16 r16 => asRw .bool false a16 fun s3 => asCons r16 fun a17 r17 => asRw .bool false a17 fun s4 => asCons r17 fun a18 r18 => asRw (.arr 2 wI) false a18 fun s5 => asNil r18 <| j12r2 (fun z1 z2 z3 z4 => K .ret [(2, .ptr 0 0 [])] [.one w2 (.agg [.vec 1, .vec 2, .vec 3, .vec 4]), .deep .bool z1 [], .row .bool z2 false, .row .bool z3 false, .row (.arr 2 wI) z4 false]) s1 s2 s3 s4 s5
theorem j12r2v : JoinV E wF (E.info 12).keep 0 Try.f12.ntmps 13400002 4000002 (jbody Try.f12 4000002) ([1, 3], lsj12r2) := by
  intro vs σ K (h0 : lsj12r2 vs σ K)
  unfold lsj12r2 at h0
  obtain ⟨r1, rfl, h2⟩ := cP h0
  obtain ⟨r2, rfl, h4⟩ := cP h2
  obtain ⟨rfl, h5⟩ := cN h4
  obtain ⟨s1, r3, rfl, h8⟩ := oD h5
  obtain ⟨r5, rfl, h11⟩ := oP h8
  obtain ⟨a7, r7, rfl, h12⟩ := asCons_inv h11
  obtain ⟨a8, rfl, h13⟩ := asOne_inv h12
  obtain ⟨l9, rfl, h14⟩ := asAgL_inv h13
  obtain ⟨r10, rfl, h16⟩ := cP h14
  obtain ⟨r11, rfl, h18⟩ := cP h16
  obtain ⟨r12, rfl, h20⟩ := cP h18
  obtain ⟨r13, rfl, h22⟩ := cP h20
  obtain ⟨rfl, h23⟩ := cN h22
  obtain ⟨a14, r14, rfl, h24⟩ := asCons_inv h23
  obtain ⟨s2, l15, rfl, h25⟩ := asDeep_inv h24
  obtain ⟨rfl, h26⟩ := cN h25
  obtain ⟨s3, r16, rfl, h28⟩ := cR h26
  obtain ⟨s4, r17, rfl, h30⟩ := cR h28
  obtain ⟨s5, r18, rfl, h32⟩ := cR h30
  obtain ⟨rfl, h33⟩ := cN h32
  exact join_round2 (S := ofL Sj12r2) (L := lofL Lj12r2) hSj12r2 (inlOK _) (all_eq (by kernel_rfl : subsOf (E.info 12).keep (jbody Try.f12 4000002) = [.loop (body Try.f12 3), .loop (body Try.f12 8), .loop (body Try.f12 33)]) (all_cons (loopOK_of (mk := 13000003) (sl := [1, 3, 30, 31]) (ss := [([1, 3, 30, 31], lsl12r3)]) (by kernel_rfl) (by kernel_rfl) (all_cons l12r3v (all_nil))) (all_cons (loopOK_of (mk := 13000008) (sl := [1, 3, 4, 5, 53, 54, 55]) (ss := [([1, 3, 4, 5, 53, 54, 55], lsl12r8)]) (by kernel_rfl) (by kernel_rfl) (all_cons l12r8v (all_nil))) (all_cons (loopOK_of (mk := 13000033) (sl := [1, 3, 4, 163, 164, 165]) (ss := [([1, 3, 4, 163, 164, 165], lsl12r33)]) (by kernel_rfl) (by kernel_rfl) (all_cons l12r33v (all_nil))) (all_nil))))) (by kernel_rfl) h33.of
abbrev S12 : wS := []
theorem hS12 : SpecOK E (ofL S12) := specOK_nil
abbrev L12 : wL := [(13400002, [1, 3], none, lsj12r2)]
def sp12 : Sp := fun args τ K => asCons args fun a1 r1 => asD w1 a1 fun x1 => asNil r1 <| asNil τ <| c12 x1 (fun z1 z2 z3 z4 => K (.ptr 0 0 []) [.one w2 (.agg [.vec 1, .vec 2, .vec 3, .vec 4]), .deep .bool z1 [], .row .bool z2 false, .row .bool z3 false, .row (.arr 2 wI) z4 false])
theorem h12 : ∀ args τ K, sp12 args τ K → ACall E 12 args τ K := by
  intro args τ K h0
  unfold sp12 at h0
  obtain ⟨x1, r1, rfl, h2⟩ := cD h0
  obtain ⟨rfl, h3⟩ := cN h2
  obtain ⟨rfl, h4⟩ := cN h3
  exact ACall.spec2 (fn := Try.f12) (c := codeOf Try.f12) (S := ofL S12) (L := lofL L12) hS12 (by kernel_rfl) (by kernel_rfl) (inlOK _) (all_eq (by kernel_rfl : subsOf (E.info 12).keep (codeOf Try.f12) = [.join 4000002 (jbody Try.f12 4000002)]) (all_cons (joinOK_of (mk := 13400002) (sl := [1, 3]) (ss := [([1, 3], lsj12r2)]) (by kernel_rfl) (by kernel_rfl) (all_cons j12r2v (all_nil))) (all_nil))) (by kernel_rfl) h4.of
abbrev Sl18r3 : wS := []
theorem hSl18r3 : SpecOK E (ofL Sl18r3) := specOK_nil
abbrev Ll18r3 : wL := []
def lsl18r3 : LSp := fun vs σ K => asCons vs fun a1 r1 => asP (.ptr 0 0 []) a1 <| asCons r1 fun a2 r2 => asD wI a2 fun s1 => asCons r2 fun a3 r3 => asP (.vec 5) a3 <| asCons r3 fun a4 r4 => asD wI a4 fun s2 => asCons r4 fun a5 r5 => asD wI a5 fun s3 => asNil r5 <| asCons σ fun a6 r6 => asOne w2 a6 fun a7 => asAgL a7 fun l8 => asCons l8 fun a9 r9 => asP (.vec 1) a9 <| asCons r9 fun a10 r10 => asP (.vec 2) a10 <| asCons r10 fun a11 r11 => asP (.vec 3) a11 <| asCons r11 fun a12 r12 => asP (.vec 4) a12 <| asNil r12 <| asCons r6 fun a13 r13 => asDeep .bool a13 fun s4 l14 => asNil l14 <| asCons r13 fun a15 r15 => asRw .bool false a15 fun s5 => asCons r15 fun a16 r16 => asRw .bool false a16 fun s6 => asCons r16 fun a17 r17 => asRw (.arr 2 wI) false a17 fun s7 => asCons r17 fun a18 r18 => asRw wI false a18 fun s8 => asNil r18 <| l18r3 (fun z1 z2 z3 z4 z5 z6 => K (.exit 0) [(0, .ptr 0 0 []), (1, I z1), (5, .vec 5)] [.one w2 (.agg [.vec 1, .vec 2, .vec 3, .vec 4]), .deep .bool z2 [], .row .bool z3 false, .row .bool z4 false, .row (.arr 2 wI) z5 false, .row wI z6 false]) s1 s2 s3 s4 s5 s6 s7 s8
theorem l18r3v : LoopV E wF (E.info 18).keep 5 Try.f18.ntmps 19000003 (body Try.f18 3) ([0, 1, 5, 26, 27], lsl18r3) := by
  intro vs σ K (h0 : lsl18r3 vs σ K)
  unfold lsl18r3 at h0
  obtain ⟨r1, rfl, h2⟩ := cP h0
  obtain ⟨s1, r2, rfl, h4⟩ := cD h2
  obtain ⟨r3, rfl, h6⟩ := cP h4
  obtain ⟨s2, r4, rfl, h8⟩ := cD h6
  obtain ⟨s3, r5, rfl, h10⟩ := cD h8
  obtain ⟨rfl, h11⟩ := cN h10
  obtain ⟨a6, r6, rfl, h12⟩ := asCons_inv h11
  obtain ⟨a7, rfl, h13⟩ := asOne_inv h12
  obtain ⟨l8, rfl, h14⟩ := asAgL_inv h13
  obtain ⟨r9, rfl, h16⟩ := cP h14
  obtain ⟨r10, rfl, h18⟩ := cP h16
  obtain ⟨r11, rfl, h20⟩ := cP h18
  obtain ⟨r12, rfl, h22⟩ := cP h20
  obtain ⟨rfl, h23⟩ := cN h22
  obtain ⟨a13, r13, rfl, h24⟩ := asCons_inv h23
  obtain ⟨s4, l14, rfl, h25⟩ := asDeep_inv h24
  obtain ⟨rfl, h26⟩ := cN h25
  obtain ⟨s5, r15, rfl, h28⟩ := cR h26
  obtain ⟨s6, r16, rfl, h30⟩ := cR h28
  obtain ⟨s7, r17, rfl, h32⟩ := cR h30
  obtain ⟨s8, r18, rfl, h34⟩ := cR h32
  obtain ⟨rfl, h35⟩ := cN h34
  intro J hJ
  have hp : ∀ c' ∈ subsOf (E.info 18).keep (body Try.f18 3), SubOK E wF (E.info 18).keep 5 Try.f18.ntmps (lofL Ll18r3) c' := all_eq (by kernel_rfl : subsOf (E.info 18).keep (body Try.f18 3) = []) (all_nil)
  exact h35.of (fun s1 s2 s3 s4 s5 s6 s7 s8 => J [(19000003, .undef), (0, .ptr 0 0 []), (1, I s1), (5, .vec 5), (26, I s2), (27, I s3)] [.one w2 (.agg [.vec 1, .vec 2, .vec 3, .vec 4]), .deep .bool s4 [], .row .bool s5 false, .row .bool s6 false, .row (.arr 2 wI) s7 false, .row wI s8 false]) (fun s1 s2 s3 s4 s5 s6 s7 s8 hb => loop_round2 (S := ofL Sl18r3) (L := lofL Ll18r3) hSl18r3 (inlOK _) hp hJ (by kernel_rfl) hb)
abbrev Sl21r1 : wS := []
theorem hSl21r1 : SpecOK E (ofL Sl21r1) := specOK_nil
abbrev Ll21r1 : wL := []
def lsl21r1 : LSp := fun vs σ K => asCons vs fun a1 r1 => asD (.sl wI) a1 fun s1 => asCons r1 fun a2 r2 => asD wI a2 fun s2 => asNil r2 <| asNil σ <| l21r1 (fun z1 => K (.exit 0) [(1, I z1)] []) s1 s2
theorem l21r1v : LoopV E wF (E.info 21).keep 0 Try.f21.ntmps 22000001 (body Try.f21 1) ([0, 1], lsl21r1) := by
  intro vs σ K (h0 : lsl21r1 vs σ K)
  unfold lsl21r1 at h0
  obtain ⟨s1, r1, rfl, h2⟩ := cD h0
  obtain ⟨s2, r2, rfl, h4⟩ := cD h2
  obtain ⟨rfl, h5⟩ := cN h4
  obtain ⟨rfl, h6⟩ := cN h5
  intro J hJ
  have hp : ∀ c' ∈ subsOf (E.info 21).keep (body Try.f21 1), SubOK E wF (E.info 21).keep 0 Try.f21.ntmps (lofL Ll21r1) c' := all_eq (by kernel_rfl : subsOf (E.info 21).keep (body Try.f21 1) = []) (all_nil)
  exact h6.of (fun s1 s2 => J [(22000001, .undef), (0, .d (.sl wI) s1), (1, I s2)] []) (fun s1 s2 hb => loop_round2 (S := ofL Sl21r1) (L := lofL Ll21r1) hSl21r1 (inlOK _) hp hJ (by kernel_rfl) hb)
abbrev S21 : wS := []
theorem hS21 : SpecOK E (ofL S21) := specOK_nil
abbrev L21 : wL := [(22000001, [0, 1], none, lsl21r1)]
def sp21 : Sp := fun args τ K => asCons args fun a1 r1 => asD (.sl wI) a1 fun x1 => asCons r1 fun a2 r2 => asD wI a2 fun x2 => asNil r2 <| asNil τ <| c21 x1 x2 (fun z1 => K (I z1) [])
theorem h21 : ∀ args τ K, sp21 args τ K → ACall E 21 args τ K := by
  intro args τ K h0
  unfold sp21 at h0
  obtain ⟨x1, r1, rfl, h2⟩ := cD h0
  obtain ⟨x2, r2, rfl, h4⟩ := cD h2
  obtain ⟨rfl, h5⟩ := cN h4
  obtain ⟨rfl, h6⟩ := cN h5
  exact ACall.spec2 (fn := Try.f21) (c := codeOf Try.f21) (S := ofL S21) (L := lofL L21) hS21 (by kernel_rfl) (by kernel_rfl) (inlOK _) (all_eq (by kernel_rfl : subsOf (E.info 21).keep (codeOf Try.f21) = [.loop (body Try.f21 1)]) (all_cons (loopOK_of (mk := 22000001) (sl := [0, 1]) (ss := [([0, 1], lsl21r1)]) (by kernel_rfl) (by kernel_rfl) (all_cons l21r1v (all_nil))) (all_nil))) (by kernel_rfl) h6.of
abbrev S38 : wS := []
theorem hS38 : SpecOK E (ofL S38) := specOK_nil
abbrev L38 : wL := []
def sp38 : Sp := fun args τ K => asCons args fun a1 r1 => asD (.sl .bool) a1 fun x1 => asNil r1 <| asNil τ <| c38 x1 (fun z1 => K (.vec 0) [.row .bool z1 false])
theorem h38 : ∀ args τ K, sp38 args τ K → ACall E 38 args τ K := by
  intro args τ K h0
  unfold sp38 at h0
  obtain ⟨x1, r1, rfl, h2⟩ := cD h0
  obtain ⟨rfl, h3⟩ := cN h2
  obtain ⟨rfl, h4⟩ := cN h3
  exact ACall.spec2 (fn := Try.f38) (c := codeOf Try.f38) (S := ofL S38) (L := lofL L38) hS38 (by kernel_rfl) (by kernel_rfl) (inlOK _) (all_eq (by kernel_rfl : subsOf (E.info 38).keep (codeOf Try.f38) = []) (all_nil)) (by kernel_rfl) h4.of
abbrev S34v2 : wS := []
theorem hS34v2 : SpecOK E (ofL S34v2) := specOK_nil
abbrev L34v2 : wL := []
def sp34v2 : Sp := fun args τ K => asCons args fun a1 r1 => asP (.ptr 0 0 []) a1 <| asCons r1 fun a2 r2 => asD wI a2 fun x1 => asCons r2 fun a3 r3 => asD wI a3 fun x2 => asNil r3 <| asCons τ fun a4 r4 => asOne w2 a4 fun a5 => asAgL a5 fun l6 => asCons l6 fun a7 r7 => asP (.vec 1) a7 <| asCons r7 fun a8 r8 => asP (.vec 3) a8 <| asCons r8 fun a9 r9 => asP (.vec 4) a9 <| asCons r9 fun a10 r10 => asP (.vec 5) a10 <| asNil r10 <| asCons r4 fun a11 r11 => asDeep .bool a11 fun x3 l12 => asCons l12 fun a13 r13 => asHole 2 a13 fun x4 => asNil r13 <| asCons r11 fun a14 r14 => asRw .bool false a14 fun x5 => asCons r14 fun a15 r15 => asRw .bool false a15 fun x6 => asCons r15 fun a16 r16 => asRw .bool false a16 fun x7 => asCons r16 fun a17 r17 => asRw (.arr 2 wI) false a17 fun x8 => asNil r17 <| c34v2 x1 x2 x3 x4 x5 x6 x7 x8 (fun z1 z2 z3 z4 z5 z6 => K (.tup []) [.one w2 (.agg [.vec 1, .vec 3, .vec 4, .vec 5]), .deep .bool z1 [(z2, 2)], .row .bool z3 false, .row .bool z4 false, .row .bool z5 false, .row (.arr 2 wI) z6 false])
theorem h34v2 : ∀ args τ K, sp34v2 args τ K → ACall E 34 args τ K := by
  intro args τ K h0
  unfold sp34v2 at h0
  obtain ⟨r1, rfl, h2⟩ := cP h0
  obtain ⟨x1, r2, rfl, h4⟩ := cD h2
  obtain ⟨x2, r3, rfl, h6⟩ := cD h4
  obtain ⟨rfl, h7⟩ := cN h6
  obtain ⟨a4, r4, rfl, h8⟩ := asCons_inv h7
  obtain ⟨a5, rfl, h9⟩ := asOne_inv h8
  obtain ⟨l6, rfl, h10⟩ := asAgL_inv h9
  obtain ⟨r7, rfl, h12⟩ := cP h10
  obtain ⟨r8, rfl, h14⟩ := cP h12
  obtain ⟨r9, rfl, h16⟩ := cP h14
  obtain ⟨r10, rfl, h18⟩ := cP h16
  obtain ⟨rfl, h19⟩ := cN h18
  obtain ⟨a11, r11, rfl, h20⟩ := asCons_inv h19
  obtain ⟨x3, l12, rfl, h21⟩ := asDeep_inv h20
  obtain ⟨a13, r13, rfl, h22⟩ := asCons_inv h21
  obtain ⟨x4, rfl, h23⟩ := asHole_inv h22
  obtain ⟨rfl, h24⟩ := cN h23
  obtain ⟨x5, r14, rfl, h26⟩ := cR h24
  obtain ⟨x6, r15, rfl, h28⟩ := cR h26
  obtain ⟨x7, r16, rfl, h30⟩ := cR h28
  obtain ⟨x8, r17, rfl, h32⟩ := cR h30
  obtain ⟨rfl, h33⟩ := cN h32
  exact ACall.spec2 (fn := Try.f34) (c := codeOf Try.f34) (S := ofL S34v2) (L := lofL L34v2) hS34v2 (by kernel_rfl) (by kernel_rfl) (inlOK _) (all_eq (by kernel_rfl : subsOf (E.info 34).keep (codeOf Try.f34) = []) (all_nil)) (by kernel_rfl) h33.of
abbrev Sl18r14 : wS := [(34, none, sp34v2)]
theorem hSl18r14 : SpecOK E (ofL Sl18r14) := specOK_cons h34v2 (specOK_nil)
abbrev Ll18r14 : wL := []
def lsl18r14 : LSp := fun vs σ K => asCons vs fun a1 r1 => asP (.ptr 0 0 []) a1 <| asCons r1 fun a2 r2 => asD wI a2 fun s1 => asCons r2 fun a3 r3 => asP (.vec 6) a3 <| asCons r3 fun a4 r4 => asD wI a4 fun s2 => asCons r4 fun a5 r5 => asD wI a5 fun s3 => asCons r5 fun a6 r6 => asP (.vec 7) a6 <| asCons r6 fun a7 r7 => asP (.vec 4) a7 <| asCons r7 fun a8 r8 => asD wI a8 fun s4 => asCons r8 fun a9 r9 => asD wI a9 fun s5 => asCons r9 fun a10 r10 => asP (.vec 5) a10 <| asCons r10 fun a11 r11 => asD wI a11 fun s6 => asCons r11 fun a12 r12 => asD wI a12 fun s7 => asNil r12 <| asCons σ fun a13 r13 => asOne w2 a13 fun a14 => asAgL a14 fun l15 => asCons l15 fun a16 r16 => asP (.vec 1) a16 <| asCons r16 fun a17 r17 => asP (.vec 2) a17 <| asCons r17 fun a18 r18 => asP (.vec 3) a18 <| asCons r18 fun a19 r19 => asP (.vec 4) a19 <| asNil r19 <| asCons r13 fun a20 r20 => asDeep .bool a20 fun s8 l21 => asCons l21 fun a22 r22 => asHole 5 a22 fun s9 => asNil r22 <| asCons r20 fun a23 r23 => asRw .bool false a23 fun s10 => asCons r23 fun a24 r24 => asRw .bool false a24 fun s11 => asCons r24 fun a25 r25 => asRw (.arr 2 wI) false a25 fun s12 => asCons r25 fun a26 r26 => asRw .bool false a26 fun s13 => asCons r26 fun a27 r27 => asRw wI false a27 fun s14 => asCons r27 fun a28 r28 => asRw .bool false a28 fun s15 => asNil r28 <| l18r14 (fun z1 z2 z3 z4 z5 z6 z7 z8 z9 z10 z11 => K (.exit 4) [(0, .ptr 0 0 []), (1, I z1), (5, .vec 5), (9, I z2), (10, I z3), (11, .vec 6), (38, .vec 4), (39, I z4), (40, I z5)] [.one w2 (.agg [.vec 1, .vec 2, .vec 3, .vec 4]), .deep .bool z6 [], .row .bool z7 false, .row .bool z8 false, .row (.arr 2 wI) z9 false, .row wI z10 false, .row .bool z11 false]) s1 s2 s3 s4 s5 s6 s7 s8 s9 s10 s11 s12 s13 s14 s15
theorem l18r14v : LoopV E wF (E.info 18).keep 5 Try.f18.ntmps 19000014 (body Try.f18 14) ([0, 1, 5, 9, 10, 11, 38, 39, 40, 104, 105, 106], lsl18r14) := by
  intro vs σ K (h0 : lsl18r14 vs σ K)
  unfold lsl18r14 at h0
  obtain ⟨r1, rfl, h2⟩ := cP h0
  obtain ⟨s1, r2, rfl, h4⟩ := cD h2
  obtain ⟨r3, rfl, h6⟩ := cP h4
  obtain ⟨s2, r4, rfl, h8⟩ := cD h6
  obtain ⟨s3, r5, rfl, h10⟩ := cD h8
  obtain ⟨r6, rfl, h12⟩ := cP h10
  obtain ⟨r7, rfl, h14⟩ := cP h12
  obtain ⟨s4, r8, rfl, h16⟩ := cD h14
  obtain ⟨s5, r9, rfl, h18⟩ := cD h16
  obtain ⟨r10, rfl, h20⟩ := cP h18
  obtain ⟨s6, r11, rfl, h22⟩ := cD h20
  obtain ⟨s7, r12, rfl, h24⟩ := cD h22
  obtain ⟨rfl, h25⟩ := cN h24
  obtain ⟨a13, r13, rfl, h26⟩ := asCons_inv h25
  obtain ⟨a14, rfl, h27⟩ := asOne_inv h26
  obtain ⟨l15, rfl, h28⟩ := asAgL_inv h27
  obtain ⟨r16, rfl, h30⟩ := cP h28
  obtain ⟨r17, rfl, h32⟩ := cP h30
  obtain ⟨r18, rfl, h34⟩ := cP h32
  obtain ⟨r19, rfl, h36⟩ := cP h34
  obtain ⟨rfl, h37⟩ := cN h36
  obtain ⟨a20, r20, rfl, h38⟩ := asCons_inv h37
  obtain ⟨s8, l21, rfl, h39⟩ := asDeep_inv h38
  obtain ⟨a22, r22, rfl, h40⟩ := asCons_inv h39
  obtain ⟨s9, rfl, h41⟩ := asHole_inv h40
  obtain ⟨rfl, h42⟩ := cN h41
  obtain ⟨s10, r23, rfl, h44⟩ := cR h42
  obtain ⟨s11, r24, rfl, h46⟩ := cR h44
  obtain ⟨s12, r25, rfl, h48⟩ := cR h46
  obtain ⟨s13, r26, rfl, h50⟩ := cR h48
  obtain ⟨s14, r27, rfl, h52⟩ := cR h50
  obtain ⟨s15, r28, rfl, h54⟩ := cR h52
  obtain ⟨rfl, h55⟩ := cN h54
  intro J hJ
  have hp : ∀ c' ∈ subsOf (E.info 18).keep (body Try.f18 14), SubOK E wF (E.info 18).keep 5 Try.f18.ntmps (lofL Ll18r14) c' := all_eq (by kernel_rfl : subsOf (E.info 18).keep (body Try.f18 14) = []) (all_nil)
  exact h55.of (fun s1 s2 s3 s4 s5 s6 s7 s8 s9 s10 s11 s12 s13 s14 s15 => J [(19000014, .undef), (0, .ptr 0 0 []), (1, I s1), (5, .vec 6), (9, I s2), (10, I s3), (11, .vec 7), (38, .vec 4), (39, I s4), (40, I s5), (104, .vec 5), (105, I s6), (106, I s7)] [.one w2 (.agg [.vec 1, .vec 2, .vec 3, .vec 4]), .deep .bool s8 [(s9, 5)], .row .bool s10 false, .row .bool s11 false, .row (.arr 2 wI) s12 false, .row .bool s13 false, .row wI s14 false, .row .bool s15 false]) (fun s1 s2 s3 s4 s5 s6 s7 s8 s9 s10 s11 s12 s13 s14 s15 hb => loop_round2 (S := ofL Sl18r14) (L := lofL Ll18r14) hSl18r14 (inlOK _) hp hJ (by kernel_rfl) hb)
abbrev Sl50r3 : wS := []
theorem hSl50r3 : SpecOK E (ofL Sl50r3) := specOK_nil
abbrev Ll50r3 : wL := []
def lsl50r3 : LSp := fun vs σ K => asCons vs fun a1 r1 => asD wI a1 fun s1 => asCons r1 fun a2 r2 => asD (.sl .bool) a2 fun s2 => asCons r2 fun a3 r3 => asD wI a3 fun s3 => asCons r3 fun a4 r4 => asD wI a4 fun s4 => asNil r4 <| asNil σ <| l50r3 (fun z1 => K (.exit 0) [(3, I z1)] []) s1 s2 s3 s4
theorem l50r3v : LoopV E wF (E.info 50).keep 0 Try.f50.ntmps 51000003 (body Try.f50 3) ([3, 6, 7, 8], lsl50r3) := by
  intro vs σ K (h0 : lsl50r3 vs σ K)
  unfold lsl50r3 at h0
  obtain ⟨s1, r1, rfl, h2⟩ := cD h0
  obtain ⟨s2, r2, rfl, h4⟩ := cD h2
  obtain ⟨s3, r3, rfl, h6⟩ := cD h4
  obtain ⟨s4, r4, rfl, h8⟩ := cD h6
  obtain ⟨rfl, h9⟩ := cN h8
  obtain ⟨rfl, h10⟩ := cN h9
  intro J hJ
  have hp : ∀ c' ∈ subsOf (E.info 50).keep (body Try.f50 3), SubOK E wF (E.info 50).keep 0 Try.f50.ntmps (lofL Ll50r3) c' := all_eq (by kernel_rfl : subsOf (E.info 50).keep (body Try.f50 3) = []) (all_nil)
  exact h10.of (fun s1 s2 s3 s4 => J [(51000003, .undef), (3, I s1), (6, .d (.sl .bool) s2), (7, I s3), (8, I s4)] []) (fun s1 s2 s3 s4 hb => loop_round2 (S := ofL Sl50r3) (L := lofL Ll50r3) hSl50r3 (inlOK _) hp hJ (by kernel_rfl) hb)
abbrev S50 : wS := []
theorem hS50 : SpecOK E (ofL S50) := specOK_nil
abbrev L50 : wL := [(51000003, [3, 6, 7, 8], none, lsl50r3)]
def sp50 : Sp := fun args τ K => asCons args fun a1 r1 => asD (.sl .bool) a1 fun x1 => asNil r1 <| asNil τ <| c50 x1 (fun z1 => K (I z1) [])
theorem h50 : ∀ args τ K, sp50 args τ K → ACall E 50 args τ K := by
  intro args τ K h0
  unfold sp50 at h0
  obtain ⟨x1, r1, rfl, h2⟩ := cD h0
  obtain ⟨rfl, h3⟩ := cN h2
  obtain ⟨rfl, h4⟩ := cN h3
  exact ACall.spec2 (fn := Try.f50) (c := codeOf Try.f50) (S := ofL S50) (L := lofL L50) hS50 (by kernel_rfl) (by kernel_rfl) (inlOK _) (all_eq (by kernel_rfl : subsOf (E.info 50).keep (codeOf Try.f50) = [.loop (body Try.f50 3)]) (all_cons (loopOK_of (mk := 51000003) (sl := [3, 6, 7, 8]) (ss := [([3, 6, 7, 8], lsl50r3)]) (by kernel_rfl) (by kernel_rfl) (all_cons l50r3v (all_nil))) (all_nil))) (by kernel_rfl) h4.of
abbrev Sl39r2 : wS := [(50, none, sp50)]
theorem hSl39r2 : SpecOK E (ofL Sl39r2) := specOK_cons h50 (specOK_nil)
abbrev Ll39r2 : wL := []
def lsl39r2 : LSp := fun vs σ K => asCons vs fun a1 r1 => asP (.ptr 0 0 []) a1 <| asCons r1 fun a2 r2 => asD wI a2 fun s1 => asCons r2 fun a3 r3 => asD wI a3 fun s2 => asCons r3 fun a4 r4 => asD wI a4 fun s3 => asCons r4 fun a5 r5 => asP (.vec 5) a5 <| asCons r5 fun a6 r6 => asD wI a6 fun s4 => asCons r6 fun a7 r7 => asD wI a7 fun s5 => asNil r7 <| asCons σ fun a8 r8 => asOne w2 a8 fun a9 => asAgL a9 fun l10 => asCons l10 fun a11 r11 => asP (.vec 1) a11 <| asCons r11 fun a12 r12 => asP (.vec 2) a12 <| asCons r12 fun a13 r13 => asP (.vec 3) a13 <| asCons r13 fun a14 r14 => asP (.vec 4) a14 <| asNil r14 <| asCons r8 fun a15 r15 => asDeep .bool a15 fun s6 l16 => asCons l16 fun a17 r17 => asHole 5 a17 fun s7 => asNil r17 <| asCons r15 fun a18 r18 => asRw .bool false a18 fun s8 => asCons r18 fun a19 r19 => asRw .bool false a19 fun s9 => asCons r19 fun a20 r20 => asRw (.arr 2 wI) false a20 fun s10 => asCons r20 fun a21 r21 => asRw .bool false a21 fun s11 => asNil r21 <| l39r2 (fun z1 z2 z3 z4 z5 z6 => K (.exit 0) [(6, I z1), (7, I z2)] [.one w2 (.agg [.vec 1, .vec 2, .vec 3, .vec 4]), .deep .bool z3 [], .row .bool z4 false, .row .bool z5 false, .row (.arr 2 wI) z6 false]) s1 s2 s3 s4 s5 s6 s7 s8 s9 s10 s11
theorem l39r2v : LoopV E wF (E.info 39).keep 5 Try.f39.ntmps 40000002 (body Try.f39 2) ([0, 2, 6, 7, 16, 17, 18], lsl39r2) := by
  intro vs σ K (h0 : lsl39r2 vs σ K)
  unfold lsl39r2 at h0
  obtain ⟨r1, rfl, h2⟩ := cP h0
  obtain ⟨s1, r2, rfl, h4⟩ := cD h2
  obtain ⟨s2, r3, rfl, h6⟩ := cD h4
  obtain ⟨s3, r4, rfl, h8⟩ := cD h6
  obtain ⟨r5, rfl, h10⟩ := cP h8
  obtain ⟨s4, r6, rfl, h12⟩ := cD h10
  obtain ⟨s5, r7, rfl, h14⟩ := cD h12
  obtain ⟨rfl, h15⟩ := cN h14
  obtain ⟨a8, r8, rfl, h16⟩ := asCons_inv h15
  obtain ⟨a9, rfl, h17⟩ := asOne_inv h16
  obtain ⟨l10, rfl, h18⟩ := asAgL_inv h17
  obtain ⟨r11, rfl, h20⟩ := cP h18
  obtain ⟨r12, rfl, h22⟩ := cP h20
  obtain ⟨r13, rfl, h24⟩ := cP h22
  obtain ⟨r14, rfl, h26⟩ := cP h24
  obtain ⟨rfl, h27⟩ := cN h26
  obtain ⟨a15, r15, rfl, h28⟩ := asCons_inv h27
  obtain ⟨s6, l16, rfl, h29⟩ := asDeep_inv h28
  obtain ⟨a17, r17, rfl, h30⟩ := asCons_inv h29
  obtain ⟨s7, rfl, h31⟩ := asHole_inv h30
  obtain ⟨rfl, h32⟩ := cN h31
  obtain ⟨s8, r18, rfl, h34⟩ := cR h32
  obtain ⟨s9, r19, rfl, h36⟩ := cR h34
  obtain ⟨s10, r20, rfl, h38⟩ := cR h36
  obtain ⟨s11, r21, rfl, h40⟩ := cR h38
  obtain ⟨rfl, h41⟩ := cN h40
  intro J hJ
  have hp : ∀ c' ∈ subsOf (E.info 39).keep (body Try.f39 2), SubOK E wF (E.info 39).keep 5 Try.f39.ntmps (lofL Ll39r2) c' := all_eq (by kernel_rfl : subsOf (E.info 39).keep (body Try.f39 2) = []) (all_nil)
  exact h41.of (fun s1 s2 s3 s4 s5 s6 s7 s8 s9 s10 s11 => J [(40000002, .undef), (0, .ptr 0 0 []), (2, I s1), (6, I s2), (7, I s3), (16, .vec 5), (17, I s4), (18, I s5)] [.one w2 (.agg [.vec 1, .vec 2, .vec 3, .vec 4]), .deep .bool s6 [(s7, 5)], .row .bool s8 false, .row .bool s9 false, .row (.arr 2 wI) s10 false, .row .bool s11 false]) (fun s1 s2 s3 s4 s5 s6 s7 s8 s9 s10 s11 hb => loop_round2 (S := ofL Sl39r2) (L := lofL Ll39r2) hSl39r2 (inlOK _) hp hJ (by kernel_rfl) hb)
abbrev S39 : wS := []
theorem hS39 : SpecOK E (ofL S39) := specOK_nil
abbrev L39 : wL := [(40000002, [0, 2, 6, 7, 16, 17, 18], none, lsl39r2)]
def sp39 : Sp := fun args τ K => asCons args fun a1 r1 => asP (.ptr 0 0 []) a1 <| asCons r1 fun a2 r2 => asD wI a2 fun x1 => asCons r2 fun a3 r3 => asD wI a3 fun x2 => asNil r3 <| asCons τ fun a4 r4 => asOne w2 a4 fun a5 => asAgL a5 fun l6 => asCons l6 fun a7 r7 => asP (.vec 1) a7 <| asCons r7 fun a8 r8 => asP (.vec 2) a8 <| asCons r8 fun a9 r9 => asP (.vec 3) a9 <| asCons r9 fun a10 r10 => asP (.vec 4) a10 <| asNil r10 <| asCons r4 fun a11 r11 => asDeep .bool a11 fun x3 l12 => asNil l12 <| asCons r11 fun a13 r13 => asRw .bool false a13 fun x4 => asCons r13 fun a14 r14 => asRw .bool false a14 fun x5 => asCons r14 fun a15 r15 => asRw (.arr 2 wI) false a15 fun x6 => asNil r15 <| c39 x1 x2 x3 x4 x5 x6 (fun z1 z2 z3 z4 z5 z6 => K (.tup [I z1, I z2]) [.one w2 (.agg [.vec 1, .vec 2, .vec 3, .vec 4]), .deep .bool z3 [], .row .bool z4 false, .row .bool z5 false, .row (.arr 2 wI) z6 false])
theorem h39 : ∀ args τ K, sp39 args τ K → ACall E 39 args τ K := by
  intro args τ K h0
  unfold sp39 at h0
  obtain ⟨r1, rfl, h2⟩ := cP h0
  obtain ⟨x1, r2, rfl, h4⟩ := cD h2
  obtain ⟨x2, r3, rfl, h6⟩ := cD h4
  obtain ⟨rfl, h7⟩ := cN h6
  obtain ⟨a4, r4, rfl, h8⟩ := asCons_inv h7
  obtain ⟨a5, rfl, h9⟩ := asOne_inv h8
  obtain ⟨l6, rfl, h10⟩ := asAgL_inv h9
  obtain ⟨r7, rfl, h12⟩ := cP h10
  obtain ⟨r8, rfl, h14⟩ := cP h12
  obtain ⟨r9, rfl, h16⟩ := cP h14
  obtain ⟨r10, rfl, h18⟩ := cP h16
  obtain ⟨rfl, h19⟩ := cN h18
  obtain ⟨a11, r11, rfl, h20⟩ := asCons_inv h19
  obtain ⟨x3, l12, rfl, h21⟩ := asDeep_inv h20
  obtain ⟨rfl, h22⟩ := cN h21
  obtain ⟨x4, r13, rfl, h24⟩ := cR h22
  obtain ⟨x5, r14, rfl, h26⟩ := cR h24
  obtain ⟨x6, r15, rfl, h28⟩ := cR h26
  obtain ⟨rfl, h29⟩ := cN h28
  exact ACall.spec2 (fn := Try.f39) (c := codeOf Try.f39) (S := ofL S39) (L := lofL L39) hS39 (by kernel_rfl) (by kernel_rfl) (inlOK _) (all_eq (by kernel_rfl : subsOf (E.info 39).keep (codeOf Try.f39) = [.loop (body Try.f39 2)]) (all_cons (loopOK_of (mk := 40000002) (sl := [0, 2, 6, 7, 16, 17, 18]) (ss := [([0, 2, 6, 7, 16, 17, 18], lsl39r2)]) (by kernel_rfl) (by kernel_rfl) (all_cons l39r2v (all_nil))) (all_nil))) (by kernel_rfl) h29.of
end Go.Proofs.Ytcelldbjjlkcdad
