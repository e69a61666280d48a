/- The functions compute that (printed by a program). -/
import Derived.Test.YteeigkbjjoedoaaAD3
import Derived.Test.YteeigkbjjoedoaaAEnvC
import Derived.KernelRfl
namespace Go.Proofs.Yteeigkbjjoedoaa
open Go.Abs
set_option maxRecDepth 100000
set_option maxHeartbeats 4000000
set_option linter.unusedVariables false
abbrev wI : Ty := .int .i64
abbrev w0 : Ty := .pair (.sl wI) (.pair (.sl (.pair wI (.pair wI (.pair wI (.pair (.sl wI) .unit))))) (.pair (.pair wI (.pair wI (.pair wI (.pair (.sl wI) (.pair (.sl (.pair wI (.pair (.sl wI) .unit))) .unit))))) .unit))
abbrev w1 : Ty := .pair wI (.pair (.sl w0) .unit)
abbrev w2 : Ty := .pair wI (.pair (.sl wI) .unit)
abbrev w3 : Ty := .pair wI (.pair wI (.pair wI (.pair (.sl wI) (.pair (.sl w2) .unit))))
abbrev w4 : Ty := .pair wI (.pair wI .unit)
theorem cD {t : Ty} {l : List AV} {F : t.T → List AV → Prop} (h : asCons l fun a r => asD t a fun s => F s r) : ∃ s r, l = .d t s :: r ∧ F s r := by
  obtain ⟨a, r, rfl, h1⟩ := asCons_inv h
  obtain ⟨s, rfl, h2⟩ := asD_inv h1
  exact ⟨s, r, rfl, h2⟩
theorem cP {p : AV} {l : List AV} {F : List AV → Prop} (h : asCons l fun a r => asP p a <| F r) : ∃ r, l = p :: r ∧ F r := by
  obtain ⟨a, r, rfl, h1⟩ := asCons_inv h
  obtain ⟨rfl, h2⟩ := asP_inv h1
  exact ⟨r, rfl, h2⟩
theorem cR {t : Ty} {ex : Bool} {l : List Ob} {F : List t.T → List Ob → Prop} (h : asCons l fun a r => asRw t ex a fun s => F s r) : ∃ s r, l = .row t s ex :: r ∧ F s r := by
  obtain ⟨a, r, rfl, h1⟩ := asCons_inv h
  obtain ⟨s, rfl, h2⟩ := asRw_inv h1
  exact ⟨s, r, rfl, h2⟩
theorem oD {u t : Ty} {l : List Ob} {F : t.T → List Ob → Prop} (h : asCons l fun a r => asOne u a fun v => asD t v fun s => F s r) : ∃ s r, l = .one u (.d t s) :: r ∧ F s r := by
  obtain ⟨a, r, rfl, h1⟩ := asCons_inv h
  obtain ⟨v, rfl, h2⟩ := asOne_inv h1
  obtain ⟨s, rfl, h3⟩ := asD_inv h2
  exact ⟨s, r, rfl, h3⟩
theorem oP {u : Ty} {p : AV} {l : List Ob} {F : List Ob → Prop} (h : asCons l fun a r => asOne u a fun v => asP p v <| F r) : ∃ r, l = .one u p :: r ∧ F r := by
  obtain ⟨a, r, rfl, h1⟩ := asCons_inv h
  obtain ⟨v, rfl, h2⟩ := asOne_inv h1
  obtain ⟨rfl, h3⟩ := asP_inv h2
  exact ⟨r, rfl, h3⟩
theorem cN {α : Type} {l : List α} {F} (h : asNil l F) : l = [] ∧ F := asNil_inv h
abbrev wF := inlF (PA (ACall E)) E 8
abbrev wL := List (Nat × List Nat × Pat × LSp)
abbrev wS := List (Nat × Pat × Sp)
abbrev S14 : wS := []
theorem hS14 : SpecOK E (ofL S14) := specOK_nil
abbrev L14 : wL := []
def sp14 : Sp := fun args τ K => asNil args <| asNil τ <| c14  (fun z1 z2 => K (.agg [I z1, .vec 0]) [.row w0 z2 false])
theorem h14 : ∀ args τ K, sp14 args τ K → ACall E 14 args τ K := by
  intro args τ K h0
  unfold sp14 at h0
  obtain ⟨rfl, h1⟩ := cN h0
  obtain ⟨rfl, h2⟩ := cN h1
  exact ACall.spec2 (fn := Try.f14) (c := codeOf Try.f14) (S := ofL S14) (L := lofL L14) hS14 (by kernel_rfl) (by kernel_rfl) (inlOK _) (all_eq (by kernel_rfl : subsOf (E.info 14).keep (codeOf Try.f14) = []) (all_nil)) (by kernel_rfl) h2.of
abbrev Sl16r3 : wS := []
theorem hSl16r3 : SpecOK E (ofL Sl16r3) := specOK_nil
abbrev Ll16r3 : wL := []
def lsl16r3 : LSp := fun vs σ K => asCons vs fun a1 r1 => asP (.ptr 0 0 []) a1 <| asCons r1 fun a2 r2 => asD wI a2 fun s1 => asCons r2 fun a3 r3 => asD (.sl w0) a3 fun s2 => asCons r3 fun a4 r4 => asD wI a4 fun s3 => asCons r4 fun a5 r5 => asD wI a5 fun s4 => asNil r5 <| asCons σ fun a6 r6 => asOne w1 a6 fun a7 => asD w1 a7 fun s5 => asNil r6 <| l16r3 (fun z1 z2 => K (.exit 0) [(1, .ptr 0 0 []), (3, I z1)] [.one w1 (.d w1 z2)]) s1 s2 s3 s4 s5
theorem l16r3v : LoopV E wF (E.info 16).keep 0 Try.f16.ntmps 17000003 (body Try.f16 3) ([1, 3, 10, 11, 12], lsl16r3) := by
  intro vs σ K (h0 : lsl16r3 vs σ K)
  unfold lsl16r3 at h0
  obtain ⟨r1, rfl, h2⟩ := cP h0
  obtain ⟨s1, r2, rfl, h4⟩ := cD h2
  obtain ⟨s2, r3, rfl, h6⟩ := cD h4
  obtain ⟨s3, r4, rfl, h8⟩ := cD h6
  obtain ⟨s4, r5, rfl, h10⟩ := cD h8
  obtain ⟨rfl, h11⟩ := cN h10
  obtain ⟨s5, r6, rfl, h14⟩ := oD h11
  obtain ⟨rfl, h15⟩ := cN h14
  intro J hJ
  have hp : ∀ c' ∈ subsOf (E.info 16).keep (body Try.f16 3), SubOK E wF (E.info 16).keep 0 Try.f16.ntmps (lofL Ll16r3) c' := all_eq (by kernel_rfl : subsOf (E.info 16).keep (body Try.f16 3) = []) (all_nil)
  exact h15.of (fun s1 s2 s3 s4 s5 => J [(17000003, .undef), (1, .ptr 0 0 []), (3, I s1), (10, .d (.sl w0) s2), (11, I s3), (12, I s4)] [.one w1 (.d w1 s5)]) (fun s1 s2 s3 s4 s5 hb => loop_round2 (S := ofL Sl16r3) (L := lofL Ll16r3) hSl16r3 (inlOK _) hp hJ (by kernel_rfl) hb)
abbrev S26 : wS := []
theorem hS26 : SpecOK E (ofL S26) := specOK_nil
abbrev L26 : wL := []
def sp26 : Sp := fun args τ K => asCons args fun a1 r1 => asD wI a1 fun x1 => asCons r1 fun a2 r2 => asD wI a2 fun x2 => asCons r2 fun a3 r3 => asD wI a3 fun x3 => asNil r3 <| asNil τ <| c26 x1 x2 x3 (fun z1 => K (B z1) [])
theorem h26 : ∀ args τ K, sp26 args τ K → ACall E 26 args τ K := by
  intro args τ K h0
  unfold sp26 at h0
  obtain ⟨x1, r1, rfl, h2⟩ := cD h0
  obtain ⟨x2, r2, rfl, h4⟩ := cD h2
  obtain ⟨x3, r3, rfl, h6⟩ := cD h4
  obtain ⟨rfl, h7⟩ := cN h6
  obtain ⟨rfl, h8⟩ := cN h7
  exact ACall.spec2 (fn := Try.f26) (c := codeOf Try.f26) (S := ofL S26) (L := lofL L26) hS26 (by kernel_rfl) (by kernel_rfl) (inlOK _) (all_eq (by kernel_rfl : subsOf (E.info 26).keep (codeOf Try.f26) = []) (all_nil)) (by kernel_rfl) h8.of
abbrev S36 : wS := [(26, none, sp26)]
theorem hS36 : SpecOK E (ofL S36) := specOK_cons h26 (specOK_nil)
abbrev L36 : wL := []
def sp36 : Sp := fun args τ K => asCons args fun a1 r1 => asP (.ptr 0 0 []) a1 <| asCons r1 fun a2 r2 => asD wI a2 fun x1 => asCons r2 fun a3 r3 => asD w4 a3 fun x2 => asNil r3 <| asCons τ fun a4 r4 => asOne (.pair w1 (.pair (.opq .map) .unit)) a4 fun a5 => asAgL a5 fun l6 => asCons l6 fun a7 r7 => asD w1 a7 fun x3 => asCons r7 fun a8 r8 => asP (.mp 1) a8 <| asNil r8 <| asCons r4 fun a9 r9 => asKv w4 a9 fun x4 => asNil r9 <| c36 x1 x2 x3 x4 (fun z1 z2 z3 => K (I z1) [.one (.pair w1 (.pair (.opq .map) .unit)) (.agg [.d w1 z2, .mp 1]), .kv w4 z3])
theorem h36 : ∀ args τ K, sp36 args τ K → ACall E 36 args τ K := by
  intro args τ K h0
  unfold sp36 at h0
  obtain ⟨r1, rfl, h2⟩ := cP h0
  obtain ⟨x1, r2, rfl, h4⟩ := cD h2
  obtain ⟨x2, r3, rfl, h6⟩ := cD h4
  obtain ⟨rfl, h7⟩ := cN h6
  obtain ⟨a4, r4, rfl, h8⟩ := asCons_inv h7
  obtain ⟨a5, rfl, h9⟩ := asOne_inv h8
  obtain ⟨l6, rfl, h10⟩ := asAgL_inv h9
  obtain ⟨x3, r7, rfl, h12⟩ := cD h10
  obtain ⟨r8, rfl, h14⟩ := cP h12
  obtain ⟨rfl, h15⟩ := cN h14
  obtain ⟨a9, r9, rfl, h16⟩ := asCons_inv h15
  obtain ⟨x4, rfl, h17⟩ := asKv_inv h16
  obtain ⟨rfl, h18⟩ := cN h17
  exact ACall.spec2 (fn := Try.f36) (c := codeOf Try.f36) (S := ofL S36) (L := lofL L36) hS36 (by kernel_rfl) (by kernel_rfl) (inlOK _) (all_eq (by kernel_rfl : subsOf (E.info 36).keep (codeOf Try.f36) = []) (all_nil)) (by kernel_rfl) h18.of
abbrev Sl27r3 : wS := [(36, none, sp36)]
theorem hSl27r3 : SpecOK E (ofL Sl27r3) := specOK_cons h36 (specOK_nil)
abbrev Ll27r3 : wL := []
def lsl27r3 : LSp := fun vs σ K => asCons vs fun a1 r1 => asP (.ptr 0 0 []) a1 <| asCons r1 fun a2 r2 => asD wI a2 fun s1 => asCons r2 fun a3 r3 => asP (.ptr 2 0 []) a3 <| asCons r3 fun a4 r4 => asD (.sl wI) a4 fun s2 => asCons r4 fun a5 r5 => asD wI a5 fun s3 => asCons r5 fun a6 r6 => asD wI a6 fun s4 => asNil r6 <| asCons σ fun a7 r7 => asOne (.pair w1 (.pair (.opq .map) .unit)) a7 fun a8 => asAgL a8 fun l9 => asCons l9 fun a10 r10 => asD w1 a10 fun s5 => asCons r10 fun a11 r11 => asP (.mp 1) a11 <| asNil r11 <| asCons r7 fun a12 r12 => asKv w4 a12 fun s6 => asCons r12 fun a13 r13 => asOne w0 a13 fun a14 => asD w0 a14 fun s7 => asNil r13 <| l27r3 (fun z1 z2 z3 => K .ret [(0, .undef), (1, .undef), (4, I z1), (5, .undef)] [.one (.pair w1 (.pair (.opq .map) .unit)) (.agg [.d w1 z2, .mp 1]), .kv w4 z3]) (fun z1 z2 z3 z4 => K (.exit 0) [(0, .ptr 0 0 []), (1, I z1), (4, .undef), (5, .ptr 2 0 [])] [.one (.pair w1 (.pair (.opq .map) .unit)) (.agg [.d w1 z2, .mp 1]), .kv w4 z3, .one w0 (.d w0 z4)]) s1 s2 s3 s4 s5 s6 s7
theorem l27r3v : LoopV E wF (E.info 27).keep 2 Try.f27.ntmps 28000003 (body Try.f27 3) ([0, 1, 5, 22, 23, 24], lsl27r3) := by
  intro vs σ K (h0 : lsl27r3 vs σ K)
  unfold lsl27r3 at h0
  obtain ⟨r1, rfl, h2⟩ := cP h0
  obtain ⟨s1, r2, rfl, h4⟩ := cD h2
  obtain ⟨r3, rfl, h6⟩ := cP h4
  obtain ⟨s2, r4, rfl, h8⟩ := cD h6
  obtain ⟨s3, r5, rfl, h10⟩ := cD h8
  obtain ⟨s4, r6, rfl, h12⟩ := cD h10
  obtain ⟨rfl, h13⟩ := cN h12
  obtain ⟨a7, r7, rfl, h14⟩ := asCons_inv h13
  obtain ⟨a8, rfl, h15⟩ := asOne_inv h14
  obtain ⟨l9, rfl, h16⟩ := asAgL_inv h15
  obtain ⟨s5, r10, rfl, h18⟩ := cD h16
  obtain ⟨r11, rfl, h20⟩ := cP h18
  obtain ⟨rfl, h21⟩ := cN h20
  obtain ⟨a12, r12, rfl, h22⟩ := asCons_inv h21
  obtain ⟨s6, rfl, h23⟩ := asKv_inv h22
  obtain ⟨s7, r13, rfl, h26⟩ := oD h23
  obtain ⟨rfl, h27⟩ := cN h26
  intro J hJ
  have hp : ∀ c' ∈ subsOf (E.info 27).keep (body Try.f27 3), SubOK E wF (E.info 27).keep 2 Try.f27.ntmps (lofL Ll27r3) c' := all_eq (by kernel_rfl : subsOf (E.info 27).keep (body Try.f27 3) = []) (all_nil)
  exact h27.of (fun s1 s2 s3 s4 s5 s6 s7 => J [(28000003, .undef), (0, .ptr 0 0 []), (1, I s1), (5, .ptr 2 0 []), (22, .d (.sl wI) s2), (23, I s3), (24, I s4)] [.one (.pair w1 (.pair (.opq .map) .unit)) (.agg [.d w1 s5, .mp 1]), .kv w4 s6, .one w0 (.d w0 s7)]) (fun s1 s2 s3 s4 s5 s6 s7 hb => loop_round2 (S := ofL Sl27r3) (L := lofL Ll27r3) hSl27r3 (inlOK _) hp hJ (by kernel_rfl) hb)
abbrev S56 : wS := []
theorem hS56 : SpecOK E (ofL S56) := specOK_nil
abbrev L56 : wL := []
def sp56 : Sp := fun args τ K => asCons args fun a1 r1 => asD (.pair wI (.pair wI w2)) a1 fun x1 => asNil r1 <| asNil τ <| c56 x1 (fun z1 z2 => K (.tup [I z1, B z2]) [])
theorem h56 : ∀ args τ K, sp56 args τ K → ACall E 56 args τ K := by
  intro args τ K h0
  unfold sp56 at h0
  obtain ⟨x1, r1, rfl, h2⟩ := cD h0
  obtain ⟨rfl, h3⟩ := cN h2
  obtain ⟨rfl, h4⟩ := cN h3
  exact ACall.spec2 (fn := Try.f56) (c := codeOf Try.f56) (S := ofL S56) (L := lofL L56) hS56 (by kernel_rfl) (by kernel_rfl) (inlOK _) (all_eq (by kernel_rfl : subsOf (E.info 56).keep (codeOf Try.f56) = []) (all_nil)) (by kernel_rfl) h4.of
abbrev S59 : wS := [(26, none, sp26)]
theorem hS59 : SpecOK E (ofL S59) := specOK_cons h26 (specOK_nil)
abbrev L59 : wL := []
def sp59 : Sp := fun args τ K => asCons args fun a1 r1 => asD wI a1 fun x1 => asNil r1 <| asNil τ <| c59 x1 (fun z1 => K (B z1) [])
theorem h59 : ∀ args τ K, sp59 args τ K → ACall E 59 args τ K := by
  intro args τ K h0
  unfold sp59 at h0
  obtain ⟨x1, r1, rfl, h2⟩ := cD h0
  obtain ⟨rfl, h3⟩ := cN h2
  obtain ⟨rfl, h4⟩ := cN h3
  exact ACall.spec2 (fn := Try.f59) (c := codeOf Try.f59) (S := ofL S59) (L := lofL L59) hS59 (by kernel_rfl) (by kernel_rfl) (inlOK _) (all_eq (by kernel_rfl : subsOf (E.info 59).keep (codeOf Try.f59) = []) (all_nil)) (by kernel_rfl) h4.of
abbrev S57 : wS := [(59, none, sp59), (26, none, sp26)]
theorem hS57 : SpecOK E (ofL S57) := specOK_cons h59 (specOK_cons h26 (specOK_nil))
abbrev L57 : wL := []
def sp57 : Sp := fun args τ K => asCons args fun a1 r1 => asD (.pair wI (.pair wI w2)) a1 fun x1 => asNil r1 <| asNil τ <| c57 x1 (fun z1 => K (B z1) [])
theorem h57 : ∀ args τ K, sp57 args τ K → ACall E 57 args τ K := by
  intro args τ K h0
  unfold sp57 at h0
  obtain ⟨x1, r1, rfl, h2⟩ := cD h0
  obtain ⟨rfl, h3⟩ := cN h2
  obtain ⟨rfl, h4⟩ := cN h3
  exact ACall.spec2 (fn := Try.f57) (c := codeOf Try.f57) (S := ofL S57) (L := lofL L57) hS57 (by kernel_rfl) (by kernel_rfl) (inlOK _) (all_eq (by kernel_rfl : subsOf (E.info 57).keep (codeOf Try.f57) = []) (all_nil)) (by kernel_rfl) h4.of
abbrev Sj37s5 : wS := [(57, none, sp57)]
theorem hSj37s5 : SpecOK E (ofL Sj37s5) := specOK_cons h57 (specOK_nil)
abbrev Lj37s5 : wL := []
def lsj37s5 : LSp := fun vs σ K => asCons vs fun a1 r1 => asP (.ptr 0 0 []) a1 <| asCons r1 fun a2 r2 => asD .bool a2 fun s1 => asNil r2 <| asCons σ fun a3 r3 => asOne (.pair wI (.pair wI w2)) a3 fun a4 => asD (.pair wI (.pair wI w2)) a4 fun s2 => asNil r3 <| j37s5 (fun z1 => K .ret [(2, I z1)] []) (K .normal [(2, .undef)] []) s1 s2
theorem j37s5v : JoinV E wF (E.info 37).keep 0 Try.f37.ntmps 38500005 5000005 (jbody Try.f37 5000005) ([1, 35], lsj37s5) := by
  intro vs σ K (h0 : lsj37s5 vs σ K)
  unfold lsj37s5 at h0
  obtain ⟨r1, rfl, h2⟩ := cP h0
  obtain ⟨s1, r2, rfl, h4⟩ := cD h2
  obtain ⟨rfl, h5⟩ := cN h4
  obtain ⟨s2, r3, rfl, h8⟩ := oD h5
  obtain ⟨rfl, h9⟩ := cN h8
  exact join_round2 (S := ofL Sj37s5) (L := lofL Lj37s5) hSj37s5 (inlOK _) (all_eq (by kernel_rfl : subsOf (E.info 37).keep (jbody Try.f37 5000005) = []) (all_nil)) (by kernel_rfl) h9.of
abbrev Sj37s2 : wS := []
theorem hSj37s2 : SpecOK E (ofL Sj37s2) := specOK_nil
abbrev Lj37s2 : wL := [(38500005, [1, 35], none, lsj37s5)]
def lsj37s2 : LSp := fun vs σ K => asCons vs fun a1 r1 => asP (.ptr 0 0 []) a1 <| asCons r1 fun a2 r2 => asD .bool a2 fun s1 => asNil r2 <| asCons σ fun a3 r3 => asOne (.pair wI (.pair wI w2)) a3 fun a4 => asD (.pair wI (.pair wI w2)) a4 fun s2 => asNil r3 <| j37s2 (fun z1 => K .ret [(2, I z1)] []) (K .normal [(2, .undef)] []) s1 s2
theorem j37s2v : JoinV E wF (E.info 37).keep 0 Try.f37.ntmps 38500002 5000002 (jbody Try.f37 5000002) ([1, 10], lsj37s2) := by
  intro vs σ K (h0 : lsj37s2 vs σ K)
  unfold lsj37s2 at h0
  obtain ⟨r1, rfl, h2⟩ := cP h0
  obtain ⟨s1, r2, rfl, h4⟩ := cD h2
  obtain ⟨rfl, h5⟩ := cN h4
  obtain ⟨s2, r3, rfl, h8⟩ := oD h5
  obtain ⟨rfl, h9⟩ := cN h8
  exact join_round2 (S := ofL Sj37s2) (L := lofL Lj37s2) hSj37s2 (inlOK _) (all_eq (by kernel_rfl : subsOf (E.info 37).keep (jbody Try.f37 5000002) = [.join 5000005 (jbody Try.f37 5000005)]) (all_cons (joinOK_of (mk := 38500005) (sl := [1, 35]) (ss := [([1, 35], lsj37s5)]) (by kernel_rfl) (by kernel_rfl) (all_cons j37s5v (all_nil))) (all_nil))) (by kernel_rfl) h9.of
abbrev Sj37r9 : wS := []
theorem hSj37r9 : SpecOK E (ofL Sj37r9) := specOK_nil
abbrev Lj37r9 : wL := []
def lsj37r9 : LSp := fun vs σ K => asNil vs <| asNil σ <| j37r9 (fun z1 => K .ret [(2, I z1)] []) 
theorem j37r9v : JoinV E wF (E.info 37).keep 0 Try.f37.ntmps 38400009 4000009 (jbody Try.f37 4000009) ([], lsj37r9) := by
  intro vs σ K (h0 : lsj37r9 vs σ K)
  unfold lsj37r9 at h0
  obtain ⟨rfl, h1⟩ := cN h0
  obtain ⟨rfl, h2⟩ := cN h1
  exact join_round2 (S := ofL Sj37r9) (L := lofL Lj37r9) hSj37r9 (inlOK _) (all_eq (by kernel_rfl : subsOf (E.info 37).keep (jbody Try.f37 4000009) = []) (all_nil)) (by kernel_rfl) h2.of
abbrev S37 : wS := [(56, none, sp56)]
theorem hS37 : SpecOK E (ofL S37) := specOK_cons h56 (specOK_nil)
abbrev L37 : wL := [(38500002, [1, 10], none, lsj37s2), (38400009, [], none, lsj37r9)]
def sp37 : Sp := fun args τ K => asCons args fun a1 r1 => asD (.pair wI (.pair wI w2)) a1 fun x1 => asNil r1 <| asNil τ <| c37 x1 (fun z1 => K (I z1) [])
theorem h37 : ∀ args τ K, sp37 args τ K → ACall E 37 args τ K := by
  intro args τ K h0
  unfold sp37 at h0
  obtain ⟨x1, r1, rfl, h2⟩ := cD h0
  obtain ⟨rfl, h3⟩ := cN h2
  obtain ⟨rfl, h4⟩ := cN h3
  exact ACall.spec2 (fn := Try.f37) (c := codeOf Try.f37) (S := ofL S37) (L := lofL L37) hS37 (by kernel_rfl) (by kernel_rfl) (inlOK _) (all_eq (by kernel_rfl : subsOf (E.info 37).keep (codeOf Try.f37) = [.join 4000009 (jbody Try.f37 4000009), .join 5000002 (jbody Try.f37 5000002)]) (all_cons (joinOK_of (mk := 38400009) (sl := []) (ss := [([], lsj37r9)]) (by kernel_rfl) (by kernel_rfl) (all_cons j37r9v (all_nil))) (all_cons (joinOK_of (mk := 38500002) (sl := [1, 10]) (ss := [([1, 10], lsj37s2)]) (by kernel_rfl) (by kernel_rfl) (all_cons j37s2v (all_nil))) (all_nil)))) (by kernel_rfl) h4.of
abbrev Sl27r10 : wS := [(36, none, sp36), (37, none, sp37)]
theorem hSl27r10 : SpecOK E (ofL Sl27r10) := specOK_cons h36 (specOK_cons h37 (specOK_nil))
abbrev Ll27r10 : wL := []
def lsl27r10 : LSp := fun vs σ K => asCons vs fun a1 r1 => asP (.ptr 0 0 []) a1 <| asCons r1 fun a2 r2 => asD wI a2 fun s1 => asCons r2 fun a3 r3 => asP (.ptr 2 0 []) a3 <| asCons r3 fun a4 r4 => asD (.sl (.pair wI (.pair wI w2))) a4 fun s2 => asCons r4 fun a5 r5 => asD wI a5 fun s3 => asCons r5 fun a6 r6 => asD wI a6 fun s4 => asNil r6 <| asCons σ fun a7 r7 => asOne (.pair w1 (.pair (.opq .map) .unit)) a7 fun a8 => asAgL a8 fun l9 => asCons l9 fun a10 r10 => asD w1 a10 fun s5 => asCons r10 fun a11 r11 => asP (.mp 1) a11 <| asNil r11 <| asCons r7 fun a12 r12 => asKv w4 a12 fun s6 => asCons r12 fun a13 r13 => asOne w0 a13 fun a14 => asD w0 a14 fun s7 => asNil r13 <| l27r10 (fun z1 z2 z3 => K .ret [(0, .undef), (4, I z1), (5, .undef)] [.one (.pair w1 (.pair (.opq .map) .unit)) (.agg [.d w1 z2, .mp 1]), .kv w4 z3]) (fun z1 z2 z3 => K (.exit 2) [(0, .ptr 0 0 []), (4, .undef), (5, .ptr 2 0 [])] [.one (.pair w1 (.pair (.opq .map) .unit)) (.agg [.d w1 z1, .mp 1]), .kv w4 z2, .one w0 (.d w0 z3)]) s1 s2 s3 s4 s5 s6 s7
theorem l27r10v : LoopV E wF (E.info 27).keep 2 Try.f27.ntmps 28000010 (body Try.f27 10) ([0, 1, 5, 38, 39, 40], lsl27r10) := by
  intro vs σ K (h0 : lsl27r10 vs σ K)
  unfold lsl27r10 at h0
  obtain ⟨r1, rfl, h2⟩ := cP h0
  obtain ⟨s1, r2, rfl, h4⟩ := cD h2
  obtain ⟨r3, rfl, h6⟩ := cP h4
  obtain ⟨s2, r4, rfl, h8⟩ := cD h6
  obtain ⟨s3, r5, rfl, h10⟩ := cD h8
  obtain ⟨s4, r6, rfl, h12⟩ := cD h10
  obtain ⟨rfl, h13⟩ := cN h12
  obtain ⟨a7, r7, rfl, h14⟩ := asCons_inv h13
  obtain ⟨a8, rfl, h15⟩ := asOne_inv h14
  obtain ⟨l9, rfl, h16⟩ := asAgL_inv h15
  obtain ⟨s5, r10, rfl, h18⟩ := cD h16
  obtain ⟨r11, rfl, h20⟩ := cP h18
  obtain ⟨rfl, h21⟩ := cN h20
  obtain ⟨a12, r12, rfl, h22⟩ := asCons_inv h21
  obtain ⟨s6, rfl, h23⟩ := asKv_inv h22
  obtain ⟨s7, r13, rfl, h26⟩ := oD h23
  obtain ⟨rfl, h27⟩ := cN h26
  intro J hJ
  have hp : ∀ c' ∈ subsOf (E.info 27).keep (body Try.f27 10), SubOK E wF (E.info 27).keep 2 Try.f27.ntmps (lofL Ll27r10) c' := all_eq (by kernel_rfl : subsOf (E.info 27).keep (body Try.f27 10) = []) (all_nil)
  exact h27.of (fun s1 s2 s3 s4 s5 s6 s7 => J [(28000010, .undef), (0, .ptr 0 0 []), (1, I s1), (5, .ptr 2 0 []), (38, .d (.sl (.pair wI (.pair wI w2))) s2), (39, I s3), (40, I s4)] [.one (.pair w1 (.pair (.opq .map) .unit)) (.agg [.d w1 s5, .mp 1]), .kv w4 s6, .one w0 (.d w0 s7)]) (fun s1 s2 s3 s4 s5 s6 s7 hb => loop_round2 (S := ofL Sl27r10) (L := lofL Ll27r10) hSl27r10 (inlOK _) hp hJ (by kernel_rfl) hb)
abbrev Sj58r14 : wS := []
theorem hSj58r14 : SpecOK E (ofL Sj58r14) := specOK_nil
abbrev Lj58r14 : wL := []
def lsj58r14 : LSp := fun vs σ K => asCons vs fun a1 r1 => asP (.ptr 0 0 []) a1 <| asCons r1 fun a2 r2 => asD wI a2 fun s1 => asCons r2 fun a3 r3 => asD .bool a3 fun s2 => asCons r3 fun a4 r4 => asD .bool a4 fun s3 => asCons r4 fun a5 r5 => asD .bool a5 fun s4 => asNil r5 <| asCons σ fun a6 r6 => asOne w3 a6 fun a7 => asD w3 a7 fun s5 => asNil r6 <| j58r14 (fun z1 => K .ret [(2, B z1)] []) s1 s2 s3 s4 s5
theorem j58r14v : JoinV E wF (E.info 58).keep 0 Try.f58.ntmps 59400014 4000014 (jbody Try.f58 4000014) ([1, 3, 4, 5, 6], lsj58r14) := by
  intro vs σ K (h0 : lsj58r14 vs σ K)
  unfold lsj58r14 at h0
  obtain ⟨r1, rfl, h2⟩ := cP h0
  obtain ⟨s1, r2, rfl, h4⟩ := cD h2
  obtain ⟨s2, r3, rfl, h6⟩ := cD h4
  obtain ⟨s3, r4, rfl, h8⟩ := cD h6
  obtain ⟨s4, r5, rfl, h10⟩ := cD h8
  obtain ⟨rfl, h11⟩ := cN h10
  obtain ⟨s5, r6, rfl, h14⟩ := oD h11
  obtain ⟨rfl, h15⟩ := cN h14
  exact join_round2 (S := ofL Sj58r14) (L := lofL Lj58r14) hSj58r14 (inlOK _) (all_eq (by kernel_rfl : subsOf (E.info 58).keep (jbody Try.f58 4000014) = []) (all_nil)) (by kernel_rfl) h15.of
abbrev S58 : wS := []
theorem hS58 : SpecOK E (ofL S58) := specOK_nil
abbrev L58 : wL := [(59400014, [1, 3, 4, 5, 6], none, lsj58r14)]
def sp58 : Sp := fun args τ K => asCons args fun a1 r1 => asD w3 a1 fun x1 => asNil r1 <| asNil τ <| c58 x1 (fun z1 => K (B z1) [])
theorem h58 : ∀ args τ K, sp58 args τ K → ACall E 58 args τ K := by
  intro args τ K h0
  unfold sp58 at h0
  obtain ⟨x1, r1, rfl, h2⟩ := cD h0
  obtain ⟨rfl, h3⟩ := cN h2
  obtain ⟨rfl, h4⟩ := cN h3
  exact ACall.spec2 (fn := Try.f58) (c := codeOf Try.f58) (S := ofL S58) (L := lofL L58) hS58 (by kernel_rfl) (by kernel_rfl) (inlOK _) (all_eq (by kernel_rfl : subsOf (E.info 58).keep (codeOf Try.f58) = [.join 4000014 (jbody Try.f58 4000014)]) (all_cons (joinOK_of (mk := 59400014) (sl := [1, 3, 4, 5, 6]) (ss := [([1, 3, 4, 5, 6], lsj58r14)]) (by kernel_rfl) (by kernel_rfl) (all_cons j58r14v (all_nil))) (all_nil))) (by kernel_rfl) h4.of
abbrev Sl69r2 : wS := []
theorem hSl69r2 : SpecOK E (ofL Sl69r2) := specOK_nil
abbrev Ll69r2 : wL := []
def lsl69r2 : LSp := fun vs σ K => asCons vs fun a1 r1 => asD (.sl wI) a1 fun s1 => asCons r1 fun a2 r2 => asD wI a2 fun s2 => asCons r2 fun a3 r3 => asD wI a3 fun s3 => asCons r3 fun a4 r4 => asD wI a4 fun s4 => asNil r4 <| asNil σ <| l69r2 (fun z1 => K .ret [(4, I z1)] []) (K (.exit 0) [(4, .undef)] []) s1 s2 s3 s4
theorem l69r2v : LoopV E wF (E.info 69).keep 0 Try.f69.ntmps 70000002 (body Try.f69 2) ([0, 1, 7, 8], lsl69r2) := by
  intro vs σ K (h0 : lsl69r2 vs σ K)
  unfold lsl69r2 at h0
  obtain ⟨s1, r1, rfl, h2⟩ := cD h0
  obtain ⟨s2, r2, rfl, h4⟩ := cD h2
  obtain ⟨s3, r3, rfl, h6⟩ := cD h4
  obtain ⟨s4, r4, rfl, h8⟩ := cD h6
  obtain ⟨rfl, h9⟩ := cN h8
  obtain ⟨rfl, h10⟩ := cN h9
  intro J hJ
  have hp : ∀ c' ∈ subsOf (E.info 69).keep (body Try.f69 2), SubOK E wF (E.info 69).keep 0 Try.f69.ntmps (lofL Ll69r2) c' := all_eq (by kernel_rfl : subsOf (E.info 69).keep (body Try.f69 2) = []) (all_nil)
  exact h10.of (fun s1 s2 s3 s4 => J [(70000002, .undef), (0, .d (.sl wI) s1), (1, I s2), (7, I s3), (8, I s4)] []) (fun s1 s2 s3 s4 hb => loop_round2 (S := ofL Sl69r2) (L := lofL Ll69r2) hSl69r2 (inlOK _) hp hJ (by kernel_rfl) hb)
abbrev S69 : wS := []
theorem hS69 : SpecOK E (ofL S69) := specOK_nil
abbrev L69 : wL := [(70000002, [0, 1, 7, 8], none, lsl69r2)]
def sp69 : Sp := fun args τ K => asCons args fun a1 r1 => asD (.sl wI) a1 fun x1 => asCons r1 fun a2 r2 => asD wI a2 fun x2 => asNil r2 <| asNil τ <| c69 x1 x2 (fun z1 => K (I z1) [])
theorem h69 : ∀ args τ K, sp69 args τ K → ACall E 69 args τ K := by
  intro args τ K h0
  unfold sp69 at h0
  obtain ⟨x1, r1, rfl, h2⟩ := cD h0
  obtain ⟨x2, r2, rfl, h4⟩ := cD h2
  obtain ⟨rfl, h5⟩ := cN h4
  obtain ⟨rfl, h6⟩ := cN h5
  exact ACall.spec2 (fn := Try.f69) (c := codeOf Try.f69) (S := ofL S69) (L := lofL L69) hS69 (by kernel_rfl) (by kernel_rfl) (inlOK _) (all_eq (by kernel_rfl : subsOf (E.info 69).keep (codeOf Try.f69) = [.loop (body Try.f69 2)]) (all_cons (loopOK_of (mk := 70000002) (sl := [0, 1, 7, 8]) (ss := [([0, 1, 7, 8], lsl69r2)]) (by kernel_rfl) (by kernel_rfl) (all_cons l69r2v (all_nil))) (all_nil))) (by kernel_rfl) h6.of
abbrev S60 : wS := [(69, none, sp69)]
theorem hS60 : SpecOK E (ofL S60) := specOK_cons h69 (specOK_nil)
abbrev L60 : wL := []
def sp60 : Sp := fun args τ K => asCons args fun a1 r1 => asD (.sl wI) a1 fun x1 => asCons r1 fun a2 r2 => asD wI a2 fun x2 => asNil r2 <| asNil τ <| c60 x1 x2 (fun z1 => K (B z1) [])
theorem h60 : ∀ args τ K, sp60 args τ K → ACall E 60 args τ K := by
  intro args τ K h0
  unfold sp60 at h0
  obtain ⟨x1, r1, rfl, h2⟩ := cD h0
  obtain ⟨x2, r2, rfl, h4⟩ := cD h2
  obtain ⟨rfl, h5⟩ := cN h4
  obtain ⟨rfl, h6⟩ := cN h5
  exact ACall.spec2 (fn := Try.f60) (c := codeOf Try.f60) (S := ofL S60) (L := lofL L60) hS60 (by kernel_rfl) (by kernel_rfl) (inlOK _) (all_eq (by kernel_rfl : subsOf (E.info 60).keep (codeOf Try.f60) = []) (all_nil)) (by kernel_rfl) h6.of
abbrev Sl38r8 : wS := [(59, none, sp59), (60, none, sp60)]
theorem hSl38r8 : SpecOK E (ofL Sl38r8) := specOK_cons h59 (specOK_cons h60 (specOK_nil))
abbrev Ll38r8 : wL := []
def lsl38r8 : LSp := fun vs σ K => asCons vs fun a1 r1 => asP (.ptr 0 0 []) a1 <| asCons r1 fun a2 r2 => asP (.ptr 1 0 []) a2 <| asCons r2 fun a3 r3 => asD (.sl wI) a3 fun s1 => asCons r3 fun a4 r4 => asD wI a4 fun s2 => asCons r4 fun a5 r5 => asD wI a5 fun s3 => asNil r5 <| asCons σ fun a6 r6 => asOne w1 a6 fun a7 => asD w1 a7 fun s4 => asCons r6 fun a8 r8 => asOne w3 a8 fun a9 => asD w3 a9 fun s5 => asNil r8 <| l38r8 (fun z1 => K .ret [(2, .undef), (3, .undef), (4, I z1)] []) (fun z1 z2 => K (.exit 1) [(2, .ptr 0 0 []), (3, .ptr 1 0 []), (4, .undef)] [.one w1 (.d w1 z1), .one w3 (.d w3 z2)]) s1 s2 s3 s4 s5
theorem l38r8v : LoopV E wF (E.info 38).keep 0 Try.f38.ntmps 39000008 (body Try.f38 8) ([2, 3, 29, 30, 31], lsl38r8) := by
  intro vs σ K (h0 : lsl38r8 vs σ K)
  unfold lsl38r8 at h0
  obtain ⟨r1, rfl, h2⟩ := cP h0
  obtain ⟨r2, rfl, h4⟩ := cP h2
  obtain ⟨s1, r3, rfl, h6⟩ := cD h4
  obtain ⟨s2, r4, rfl, h8⟩ := cD h6
  obtain ⟨s3, r5, rfl, h10⟩ := cD h8
  obtain ⟨rfl, h11⟩ := cN h10
  obtain ⟨s4, r6, rfl, h14⟩ := oD h11
  obtain ⟨s5, r8, rfl, h17⟩ := oD h14
  obtain ⟨rfl, h18⟩ := cN h17
  intro J hJ
  have hp : ∀ c' ∈ subsOf (E.info 38).keep (body Try.f38 8), SubOK E wF (E.info 38).keep 0 Try.f38.ntmps (lofL Ll38r8) c' := all_eq (by kernel_rfl : subsOf (E.info 38).keep (body Try.f38 8) = []) (all_nil)
  exact h18.of (fun s1 s2 s3 s4 s5 => J [(39000008, .undef), (2, .ptr 0 0 []), (3, .ptr 1 0 []), (29, .d (.sl wI) s1), (30, I s2), (31, I s3)] [.one w1 (.d w1 s4), .one w3 (.d w3 s5)]) (fun s1 s2 s3 s4 s5 hb => loop_round2 (S := ofL Sl38r8) (L := lofL Ll38r8) hSl38r8 (inlOK _) hp hJ (by kernel_rfl) hb)
abbrev Sl38r16 : wS := [(26, none, sp26)]
theorem hSl38r16 : SpecOK E (ofL Sl38r16) := specOK_cons h26 (specOK_nil)
abbrev Ll38r16 : wL := []
def lsl38r16 : LSp := fun vs σ K => asCons vs fun a1 r1 => asP (.ptr 0 0 []) a1 <| asCons r1 fun a2 r2 => asD (.sl w2) a2 fun s1 => asCons r2 fun a3 r3 => asD wI a3 fun s2 => asCons r3 fun a4 r4 => asD wI a4 fun s3 => asNil r4 <| asCons σ fun a5 r5 => asOne w1 a5 fun a6 => asD w1 a6 fun s4 => asNil r5 <| l38r16 (fun z1 => K .ret [(4, I z1)] []) (K (.exit 4) [(4, .undef)] []) s1 s2 s3 s4
theorem l38r16v : LoopV E wF (E.info 38).keep 0 Try.f38.ntmps 39000016 (body Try.f38 16) ([2, 49, 50, 51], lsl38r16) := by
  intro vs σ K (h0 : lsl38r16 vs σ K)
  unfold lsl38r16 at h0
  obtain ⟨r1, rfl, h2⟩ := cP h0
  obtain ⟨s1, r2, rfl, h4⟩ := cD h2
  obtain ⟨s2, r3, rfl, h6⟩ := cD h4
  obtain ⟨s3, r4, rfl, h8⟩ := cD h6
  obtain ⟨rfl, h9⟩ := cN h8
  obtain ⟨s4, r5, rfl, h12⟩ := oD h9
  obtain ⟨rfl, h13⟩ := cN h12
  intro J hJ
  have hp : ∀ c' ∈ subsOf (E.info 38).keep (body Try.f38 16), SubOK E wF (E.info 38).keep 0 Try.f38.ntmps (lofL Ll38r16) c' := all_eq (by kernel_rfl : subsOf (E.info 38).keep (body Try.f38 16) = []) (all_nil)
  exact h13.of (fun s1 s2 s3 s4 => J [(39000016, .undef), (2, .ptr 0 0 []), (49, .d (.sl w2) s1), (50, I s2), (51, I s3)] [.one w1 (.d w1 s4)]) (fun s1 s2 s3 s4 hb => loop_round2 (S := ofL Sl38r16) (L := lofL Ll38r16) hSl38r16 (inlOK _) hp hJ (by kernel_rfl) hb)
abbrev S38 : wS := [(58, none, sp58), (26, none, sp26)]
theorem hS38 : SpecOK E (ofL S38) := specOK_cons h58 (specOK_cons h26 (specOK_nil))
abbrev L38 : wL := [(39000008, [2, 3, 29, 30, 31], none, lsl38r8), (39000016, [2, 49, 50, 51], none, lsl38r16)]
def sp38 : Sp := fun args τ K => asCons args fun a1 r1 => asD w1 a1 fun x1 => asCons r1 fun a2 r2 => asD w3 a2 fun x2 => asNil r2 <| asNil τ <| c38 x1 x2 (fun z1 => K (I z1) [])
theorem h38 : ∀ args τ K, sp38 args τ K → ACall E 38 args τ K := by
  intro args τ K h0
  unfold sp38 at h0
  obtain ⟨x1, r1, rfl, h2⟩ := cD h0
  obtain ⟨x2, r2, rfl, h4⟩ := cD h2
  obtain ⟨rfl, h5⟩ := cN h4
  obtain ⟨rfl, h6⟩ := cN h5
  exact ACall.spec2 (fn := Try.f38) (c := codeOf Try.f38) (S := ofL S38) (L := lofL L38) hS38 (by kernel_rfl) (by kernel_rfl) (inlOK _) (all_eq (by kernel_rfl : subsOf (E.info 38).keep (codeOf Try.f38) = [.loop (body Try.f38 8), .loop (body Try.f38 16)]) (all_cons (loopOK_of (mk := 39000008) (sl := [2, 3, 29, 30, 31]) (ss := [([2, 3, 29, 30, 31], lsl38r8)]) (by kernel_rfl) (by kernel_rfl) (all_cons l38r8v (all_nil))) (all_cons (loopOK_of (mk := 39000016) (sl := [2, 49, 50, 51]) (ss := [([2, 49, 50, 51], lsl38r16)]) (by kernel_rfl) (by kernel_rfl) (all_cons l38r16v (all_nil))) (all_nil)))) (by kernel_rfl) h6.of
abbrev S27 : wS := [(38, none, sp38)]
theorem hS27 : SpecOK E (ofL S27) := specOK_cons h38 (specOK_nil)
abbrev L27 : wL := [(28000003, [0, 1, 5, 22, 23, 24], none, lsl27r3), (28000010, [0, 1, 5, 38, 39, 40], none, lsl27r10)]
def sp27 : Sp := fun args τ K => asCons args fun a1 r1 => asP (.ptr 0 0 []) a1 <| asCons r1 fun a2 r2 => asD wI a2 fun x1 => asNil r2 <| asCons τ fun a3 r3 => asOne (.pair w1 (.pair (.opq .map) .unit)) a3 fun a4 => asAgL a4 fun l5 => asCons l5 fun a6 r6 => asD w1 a6 fun x2 => asCons r6 fun a7 r7 => asP (.mp 1) a7 <| asNil r7 <| asCons r3 fun a8 r8 => asKv w4 a8 fun x3 => asNil r8 <| c27 x1 x2 x3 (fun z1 z2 z3 => K (I z1) [.one (.pair w1 (.pair (.opq .map) .unit)) (.agg [.d w1 z2, .mp 1]), .kv w4 z3])
theorem h27 : ∀ args τ K, sp27 args τ K → ACall E 27 args τ K := by
  intro args τ K h0
  unfold sp27 at h0
  obtain ⟨r1, rfl, h2⟩ := cP h0
  obtain ⟨x1, r2, rfl, h4⟩ := cD h2
  obtain ⟨rfl, h5⟩ := cN h4
  obtain ⟨a3, r3, rfl, h6⟩ := asCons_inv h5
  obtain ⟨a4, rfl, h7⟩ := asOne_inv h6
  obtain ⟨l5, rfl, h8⟩ := asAgL_inv h7
  obtain ⟨x2, r6, rfl, h10⟩ := cD h8
  obtain ⟨r7, rfl, h12⟩ := cP h10
  obtain ⟨rfl, h13⟩ := cN h12
  obtain ⟨a8, r8, rfl, h14⟩ := asCons_inv h13
  obtain ⟨x3, rfl, h15⟩ := asKv_inv h14
  obtain ⟨rfl, h16⟩ := cN h15
  exact ACall.spec2 (fn := Try.f27) (c := codeOf Try.f27) (S := ofL S27) (L := lofL L27) hS27 (by kernel_rfl) (by kernel_rfl) (inlOK _) (all_eq (by kernel_rfl : subsOf (E.info 27).keep (codeOf Try.f27) = [.loop (body Try.f27 3), .loop (body Try.f27 10)]) (all_cons (loopOK_of (mk := 28000003) (sl := [0, 1, 5, 22, 23, 24]) (ss := [([0, 1, 5, 22, 23, 24], lsl27r3)]) (by kernel_rfl) (by kernel_rfl) (all_cons l27r3v (all_nil))) (all_cons (loopOK_of (mk := 28000010) (sl := [0, 1, 5, 38, 39, 40]) (ss := [([0, 1, 5, 38, 39, 40], lsl27r10)]) (by kernel_rfl) (by kernel_rfl) (all_cons l27r10v (all_nil))) (all_nil)))) (by kernel_rfl) h16.of
abbrev Sl16r15 : wS := [(27, none, sp27)]
theorem hSl16r15 : SpecOK E (ofL Sl16r15) := specOK_cons h27 (specOK_nil)
abbrev Ll16r15 : wL := []
def lsl16r15 : LSp := fun vs σ K => asCons vs fun a1 r1 => asP (.ptr 0 0 []) a1 <| asCons r1 fun a2 r2 => asD wI a2 fun s1 => asCons r2 fun a3 r3 => asD wI a3 fun s2 => asNil r3 <| asCons σ fun a4 r4 => asOne (.pair w1 (.pair (.opq .map) .unit)) a4 fun a5 => asAgL a5 fun l6 => asCons l6 fun a7 r7 => asD w1 a7 fun s3 => asCons r7 fun a8 r8 => asP (.mp 1) a8 <| asNil r8 <| asCons r4 fun a9 r9 => asKv w4 a9 fun s4 => asNil r9 <| l16r15 (fun z1 => K .ret [(2, I z1), (6, .undef)] []) (fun z1 z2 => K (.exit 3) [(2, .undef), (6, .ptr 0 0 [])] [.one (.pair w1 (.pair (.opq .map) .unit)) (.agg [.d w1 z1, .mp 1]), .kv w4 z2]) s1 s2 s3 s4
theorem l16r15v : LoopV E wF (E.info 16).keep 0 Try.f16.ntmps 17000015 (body Try.f16 15) ([6, 56, 57], lsl16r15) := by
  intro vs σ K (h0 : lsl16r15 vs σ K)
  unfold lsl16r15 at h0
  obtain ⟨r1, rfl, h2⟩ := cP h0
  obtain ⟨s1, r2, rfl, h4⟩ := cD h2
  obtain ⟨s2, r3, rfl, h6⟩ := cD h4
  obtain ⟨rfl, h7⟩ := cN h6
  obtain ⟨a4, r4, rfl, h8⟩ := asCons_inv h7
  obtain ⟨a5, rfl, h9⟩ := asOne_inv h8
  obtain ⟨l6, rfl, h10⟩ := asAgL_inv h9
  obtain ⟨s3, r7, rfl, h12⟩ := cD h10
  obtain ⟨r8, rfl, h14⟩ := cP h12
  obtain ⟨rfl, h15⟩ := cN h14
  obtain ⟨a9, r9, rfl, h16⟩ := asCons_inv h15
  obtain ⟨s4, rfl, h17⟩ := asKv_inv h16
  obtain ⟨rfl, h18⟩ := cN h17
  intro J hJ
  have hp : ∀ c' ∈ subsOf (E.info 16).keep (body Try.f16 15), SubOK E wF (E.info 16).keep 0 Try.f16.ntmps (lofL Ll16r15) c' := all_eq (by kernel_rfl : subsOf (E.info 16).keep (body Try.f16 15) = []) (all_nil)
  exact h18.of (fun s1 s2 s3 s4 => J [(17000015, .undef), (6, .ptr 0 0 []), (56, I s1), (57, I s2)] [.one (.pair w1 (.pair (.opq .map) .unit)) (.agg [.d w1 s3, .mp 1]), .kv w4 s4]) (fun s1 s2 s3 s4 hb => loop_round2 (S := ofL Sl16r15) (L := lofL Ll16r15) hSl16r15 (inlOK _) hp hJ (by kernel_rfl) hb)
abbrev S61 : wS := []
theorem hS61 : SpecOK E (ofL S61) := specOK_nil
abbrev L61 : wL := []
def sp61 : Sp := fun args τ K => asCons args fun a1 r1 => asD (.arr 2 (.int .u64)) a1 fun x1 => asCons r1 fun a2 r2 => asD wI a2 fun x2 => asNil r2 <| asNil τ <| c61 x1 x2 (fun z1 => K (.d (.arr 2 (.int .u64)) z1) [])
theorem h61 : ∀ args τ K, sp61 args τ K → ACall E 61 args τ K := by
  intro args τ K h0
  unfold sp61 at h0
  obtain ⟨x1, r1, rfl, h2⟩ := cD h0
  obtain ⟨x2, r2, rfl, h4⟩ := cD h2
  obtain ⟨rfl, h5⟩ := cN h4
  obtain ⟨rfl, h6⟩ := cN h5
  exact ACall.spec2 (fn := Try.f61) (c := codeOf Try.f61) (S := ofL S61) (L := lofL L61) hS61 (by kernel_rfl) (by kernel_rfl) (inlOK _) (all_eq (by kernel_rfl : subsOf (E.info 61).keep (codeOf Try.f61) = []) (all_nil)) (by kernel_rfl) h6.of
abbrev Sl39r3 : wS := [(61, none, sp61)]
theorem hSl39r3 : SpecOK E (ofL Sl39r3) := specOK_cons h61 (specOK_nil)
abbrev Ll39r3 : wL := []
def lsl39r3 : LSp := fun vs σ K => asCons vs fun a1 r1 => asP (.ptr 0 0 []) a1 <| asCons r1 fun a2 r2 => asP (.ptr 1 0 []) a2 <| asCons r2 fun a3 r3 => asP (.ptr 2 0 []) a3 <| asCons r3 fun a4 r4 => asD wI a4 fun s1 => asCons r4 fun a5 r5 => asD wI a5 fun s2 => asNil r5 <| asCons σ fun a6 r6 => asOne w1 a6 fun a7 => asD w1 a7 fun s3 => asCons r6 fun a8 r8 => asOne (.arr 2 (.int .u64)) a8 fun a9 => asD (.arr 2 (.int .u64)) a9 fun s4 => asCons r8 fun a10 r10 => asOne (.arr 2 (.int .u64)) a10 fun a11 => asD (.arr 2 (.int .u64)) a11 fun s5 => asNil r10 <| l39r3 (fun z1 z2 z3 => K (.exit 0) [(1, .ptr 0 0 []), (3, .ptr 1 0 []), (4, .ptr 2 0 [])] [.one w1 (.d w1 z1), .one (.arr 2 (.int .u64)) (.d (.arr 2 (.int .u64)) z2), .one (.arr 2 (.int .u64)) (.d (.arr 2 (.int .u64)) z3)]) s1 s2 s3 s4 s5
theorem l39r3v : LoopV E wF (E.info 39).keep 0 Try.f39.ntmps 40000003 (body Try.f39 3) ([1, 3, 4, 17, 18], lsl39r3) := by
  intro vs σ K (h0 : lsl39r3 vs σ K)
  unfold lsl39r3 at h0
  obtain ⟨r1, rfl, h2⟩ := cP h0
  obtain ⟨r2, rfl, h4⟩ := cP h2
  obtain ⟨r3, rfl, h6⟩ := cP h4
  obtain ⟨s1, r4, rfl, h8⟩ := cD h6
  obtain ⟨s2, r5, rfl, h10⟩ := cD h8
  obtain ⟨rfl, h11⟩ := cN h10
  obtain ⟨s3, r6, rfl, h14⟩ := oD h11
  obtain ⟨s4, r8, rfl, h17⟩ := oD h14
  obtain ⟨s5, r10, rfl, h20⟩ := oD h17
  obtain ⟨rfl, h21⟩ := cN h20
  intro J hJ
  have hp : ∀ c' ∈ subsOf (E.info 39).keep (body Try.f39 3), SubOK E wF (E.info 39).keep 0 Try.f39.ntmps (lofL Ll39r3) c' := all_eq (by kernel_rfl : subsOf (E.info 39).keep (body Try.f39 3) = []) (all_nil)
  exact h21.of (fun s1 s2 s3 s4 s5 => J [(40000003, .undef), (1, .ptr 0 0 []), (3, .ptr 1 0 []), (4, .ptr 2 0 []), (17, I s1), (18, I s2)] [.one w1 (.d w1 s3), .one (.arr 2 (.int .u64)) (.d (.arr 2 (.int .u64)) s4), .one (.arr 2 (.int .u64)) (.d (.arr 2 (.int .u64)) s5)]) (fun s1 s2 s3 s4 s5 hb => loop_round2 (S := ofL Sl39r3) (L := lofL Ll39r3) hSl39r3 (inlOK _) hp hJ (by kernel_rfl) hb)
abbrev Sl39r9 : wS := []
theorem hSl39r9 : SpecOK E (ofL Sl39r9) := specOK_nil
abbrev Ll39r9 : wL := []
def lsl39r9 : LSp := fun vs σ K => asCons vs fun a1 r1 => asP (.ptr 0 0 []) a1 <| asCons r1 fun a2 r2 => asP (.ptr 1 0 []) a2 <| asCons r2 fun a3 r3 => asP (.ptr 2 0 []) a3 <| asCons r3 fun a4 r4 => asP (.vec 3) a4 <| asCons r4 fun a5 r5 => asD wI a5 fun s1 => asCons r5 fun a6 r6 => asD wI a6 fun s2 => asNil r6 <| asCons σ fun a7 r7 => asOne w1 a7 fun a8 => asD w1 a8 fun s3 => asCons r7 fun a9 r9 => asOne (.arr 2 (.int .u64)) a9 fun a10 => asD (.arr 2 (.int .u64)) a10 fun s4 => asCons r9 fun a11 r11 => asOne (.arr 2 (.int .u64)) a11 fun a12 => asD (.arr 2 (.int .u64)) a12 fun s5 => asCons r11 fun a13 r13 => asRw (.arr 2 (.int .u64)) false a13 fun s6 => asNil r13 <| l39r9 (fun z1 z2 z3 => K (.exit 2) [(1, .ptr 0 0 []), (3, .ptr 1 0 []), (6, .vec 2)] [.one w1 (.d w1 z1), .one (.arr 2 (.int .u64)) (.d (.arr 2 (.int .u64)) z2), .row (.arr 2 (.int .u64)) z3 false]) s1 s2 s3 s4 s5 s6
theorem l39r9v : LoopV E wF (E.info 39).keep 0 Try.f39.ntmps 40000009 (body Try.f39 9) ([1, 3, 4, 6, 30, 31], lsl39r9) := by
  intro vs σ K (h0 : lsl39r9 vs σ K)
  unfold lsl39r9 at h0
  obtain ⟨r1, rfl, h2⟩ := cP h0
  obtain ⟨r2, rfl, h4⟩ := cP h2
  obtain ⟨r3, rfl, h6⟩ := cP h4
  obtain ⟨r4, rfl, h8⟩ := cP h6
  obtain ⟨s1, r5, rfl, h10⟩ := cD h8
  obtain ⟨s2, r6, rfl, h12⟩ := cD h10
  obtain ⟨rfl, h13⟩ := cN h12
  obtain ⟨s3, r7, rfl, h16⟩ := oD h13
  obtain ⟨s4, r9, rfl, h19⟩ := oD h16
  obtain ⟨s5, r11, rfl, h22⟩ := oD h19
  obtain ⟨s6, r13, rfl, h24⟩ := cR h22
  obtain ⟨rfl, h25⟩ := cN h24
  intro J hJ
  have hp : ∀ c' ∈ subsOf (E.info 39).keep (body Try.f39 9), SubOK E wF (E.info 39).keep 0 Try.f39.ntmps (lofL Ll39r9) c' := all_eq (by kernel_rfl : subsOf (E.info 39).keep (body Try.f39 9) = []) (all_nil)
  exact h25.of (fun s1 s2 s3 s4 s5 s6 => J [(40000009, .undef), (1, .ptr 0 0 []), (3, .ptr 1 0 []), (4, .ptr 2 0 []), (6, .vec 3), (30, I s1), (31, I s2)] [.one w1 (.d w1 s3), .one (.arr 2 (.int .u64)) (.d (.arr 2 (.int .u64)) s4), .one (.arr 2 (.int .u64)) (.d (.arr 2 (.int .u64)) s5), .row (.arr 2 (.int .u64)) s6 false]) (fun s1 s2 s3 s4 s5 s6 hb => loop_round2 (S := ofL Sl39r9) (L := lofL Ll39r9) hSl39r9 (inlOK _) hp hJ (by kernel_rfl) hb)
abbrev S41 : wS := []
theorem hS41 : SpecOK E (ofL S41) := specOK_nil
abbrev L41 : wL := []
def sp41 : Sp := fun args τ K => asCons args fun a1 r1 => asD (.arr 2 (.int .u64)) a1 fun x1 => asCons r1 fun a2 r2 => asD wI a2 fun x2 => asNil r2 <| asNil τ <| c41 x1 x2 (fun z1 => K (B z1) [])
theorem h41 : ∀ args τ K, sp41 args τ K → ACall E 41 args τ K := by
  intro args τ K h0
  unfold sp41 at h0
  obtain ⟨x1, r1, rfl, h2⟩ := cD h0
  obtain ⟨x2, r2, rfl, h4⟩ := cD h2
  obtain ⟨rfl, h5⟩ := cN h4
  obtain ⟨rfl, h6⟩ := cN h5
  exact ACall.spec2 (fn := Try.f41) (c := codeOf Try.f41) (S := ofL S41) (L := lofL L41) hS41 (by kernel_rfl) (by kernel_rfl) (inlOK _) (all_eq (by kernel_rfl : subsOf (E.info 41).keep (codeOf Try.f41) = []) (all_nil)) (by kernel_rfl) h6.of
abbrev S62 : wS := []
theorem hS62 : SpecOK E (ofL S62) := specOK_nil
abbrev L62 : wL := []
def sp62 : Sp := fun args τ K => asCons args fun a1 r1 => asD (.arr 2 (.int .u64)) a1 fun x1 => asCons r1 fun a2 r2 => asD (.arr 2 (.int .u64)) a2 fun x2 => asNil r2 <| asNil τ <| c62 x1 x2 (fun z1 => K (.d (.arr 2 (.int .u64)) z1) [])
theorem h62 : ∀ args τ K, sp62 args τ K → ACall E 62 args τ K := by
  intro args τ K h0
  unfold sp62 at h0
  obtain ⟨x1, r1, rfl, h2⟩ := cD h0
  obtain ⟨x2, r2, rfl, h4⟩ := cD h2
  obtain ⟨rfl, h5⟩ := cN h4
  obtain ⟨rfl, h6⟩ := cN h5
  exact ACall.spec2 (fn := Try.f62) (c := codeOf Try.f62) (S := ofL S62) (L := lofL L62) hS62 (by kernel_rfl) (by kernel_rfl) (inlOK _) (all_eq (by kernel_rfl : subsOf (E.info 62).keep (codeOf Try.f62) = []) (all_nil)) (by kernel_rfl) h6.of
abbrev Sj39r26 : wS := [(61, none, sp61), (41, none, sp41)]
theorem hSj39r26 : SpecOK E (ofL Sj39r26) := specOK_cons h61 (specOK_cons h41 (specOK_nil))
abbrev Lj39r26 : wL := []
def lsj39r26 : LSp := fun vs σ K => asCons vs fun a1 r1 => asP (.ptr 0 0 []) a1 <| asCons r1 fun a2 r2 => asP (.ptr 1 0 []) a2 <| asCons r2 fun a3 r3 => asP (.vec 2) a3 <| asCons r3 fun a4 r4 => asP (.ptr 3 0 []) a4 <| asCons r4 fun a5 r5 => asD .bool a5 fun s1 => asCons r5 fun a6 r6 => asD wI a6 fun s2 => asCons r6 fun a7 r7 => asP (.ptr 4 0 []) a7 <| asCons r7 fun a8 r8 => asP (.ptr 5 0 []) a8 <| asCons r8 fun a9 r9 => asD (.sl w0) a9 fun s3 => asCons r9 fun a10 r10 => asD wI a10 fun s4 => asCons r10 fun a11 r11 => asD wI a11 fun s5 => asCons r11 fun a12 r12 => asD (.sl w2) a12 fun s6 => asCons r12 fun a13 r13 => asD wI a13 fun s7 => asCons r13 fun a14 r14 => asD wI a14 fun s8 => asNil r14 <| asCons σ fun a15 r15 => asOne w1 a15 fun a16 => asD w1 a16 fun s9 => asCons r15 fun a17 r17 => asOne (.arr 2 (.int .u64)) a17 fun a18 => asD (.arr 2 (.int .u64)) a18 fun s10 => asCons r17 fun a19 r19 => asRw (.arr 2 (.int .u64)) false a19 fun s11 => asCons r19 fun a20 r20 => asOne (.arr 2 (.int .u64)) a20 fun a21 => asD (.arr 2 (.int .u64)) a21 fun s12 => asCons r20 fun a22 r22 => asOne w2 a22 fun a23 => asD w2 a23 fun s13 => asCons r22 fun a24 r24 => asOne (.arr 2 (.int .u64)) a24 fun a25 => asD (.arr 2 (.int .u64)) a25 fun s14 => asNil r24 <| j39r26 (fun z1 z2 z3 z4 z5 z6 z7 z8 z9 z10 z11 z12 => K .normal [(1, .ptr 0 0 []), (3, .ptr 1 0 []), (6, .vec 2), (8, .ptr 3 0 []), (9, B z1), (10, I z2), (47, .d (.sl w0) z3), (48, I z4), (49, I z5), (60, .d (.sl w2) z6), (61, I z7), (62, I z8)] [.one w1 (.d w1 z9), .one (.arr 2 (.int .u64)) (.d (.arr 2 (.int .u64)) z10), .row (.arr 2 (.int .u64)) z11 false, .one (.arr 2 (.int .u64)) (.d (.arr 2 (.int .u64)) z12)]) s1 s2 s3 s4 s5 s6 s7 s8 s9 s10 s11 s12 s13 s14
theorem j39r26v : JoinV E wF (E.info 39).keep 0 Try.f39.ntmps 40400026 4000026 (jbody Try.f39 4000026) ([1, 3, 6, 8, 9, 10, 13, 14, 47, 48, 49, 60, 61, 62], lsj39r26) := by
  intro vs σ K (h0 : lsj39r26 vs σ K)
  unfold lsj39r26 at h0
  obtain ⟨r1, rfl, h2⟩ := cP h0
  obtain ⟨r2, rfl, h4⟩ := cP h2
  obtain ⟨r3, rfl, h6⟩ := cP h4
  obtain ⟨r4, rfl, h8⟩ := cP h6
  obtain ⟨s1, r5, rfl, h10⟩ := cD h8
  obtain ⟨s2, r6, rfl, h12⟩ := cD h10
  obtain ⟨r7, rfl, h14⟩ := cP h12
  obtain ⟨r8, rfl, h16⟩ := cP h14
  obtain ⟨s3, r9, rfl, h18⟩ := cD h16
  obtain ⟨s4, r10, rfl, h20⟩ := cD h18
  obtain ⟨s5, r11, rfl, h22⟩ := cD h20
  obtain ⟨s6, r12, rfl, h24⟩ := cD h22
  obtain ⟨s7, r13, rfl, h26⟩ := cD h24
  obtain ⟨s8, r14, rfl, h28⟩ := cD h26
  obtain ⟨rfl, h29⟩ := cN h28
  obtain ⟨s9, r15, rfl, h32⟩ := oD h29
  obtain ⟨s10, r17, rfl, h35⟩ := oD h32
  obtain ⟨s11, r19, rfl, h37⟩ := cR h35
  obtain ⟨s12, r20, rfl, h40⟩ := oD h37
  obtain ⟨s13, r22, rfl, h43⟩ := oD h40
  obtain ⟨s14, r24, rfl, h46⟩ := oD h43
  obtain ⟨rfl, h47⟩ := cN h46
  exact join_round2 (S := ofL Sj39r26) (L := lofL Lj39r26) hSj39r26 (inlOK _) (all_eq (by kernel_rfl : subsOf (E.info 39).keep (jbody Try.f39 4000026) = []) (all_nil)) (by kernel_rfl) h47.of
abbrev Sl39r23 : wS := [(62, none, sp62), (61, none, sp61)]
theorem hSl39r23 : SpecOK E (ofL Sl39r23) := specOK_cons h62 (specOK_cons h61 (specOK_nil))
abbrev Ll39r23 : wL := [(40400026, [1, 3, 6, 8, 9, 10, 13, 14, 47, 48, 49, 60, 61, 62], none, lsj39r26)]
def lsl39r23 : LSp := fun vs σ K => asCons vs fun a1 r1 => asP (.ptr 0 0 []) a1 <| asCons r1 fun a2 r2 => asP (.ptr 1 0 []) a2 <| asCons r2 fun a3 r3 => asP (.vec 2) a3 <| asCons r3 fun a4 r4 => asP (.ptr 3 0 []) a4 <| asCons r4 fun a5 r5 => asD .bool a5 fun s1 => asCons r5 fun a6 r6 => asD wI a6 fun s2 => asCons r6 fun a7 r7 => asD (.sl w0) a7 fun s3 => asCons r7 fun a8 r8 => asD wI a8 fun s4 => asCons r8 fun a9 r9 => asD wI a9 fun s5 => asCons r9 fun a10 r10 => asD (.sl w2) a10 fun s6 => asCons r10 fun a11 r11 => asD wI a11 fun s7 => asCons r11 fun a12 r12 => asD wI a12 fun s8 => asNil r12 <| asCons σ fun a13 r13 => asOne w1 a13 fun a14 => asD w1 a14 fun s9 => asCons r13 fun a15 r15 => asOne (.arr 2 (.int .u64)) a15 fun a16 => asD (.arr 2 (.int .u64)) a16 fun s10 => asCons r15 fun a17 r17 => asRw (.arr 2 (.int .u64)) false a17 fun s11 => asCons r17 fun a18 r18 => asOne (.arr 2 (.int .u64)) a18 fun a19 => asD (.arr 2 (.int .u64)) a19 fun s12 => asNil r18 <| l39r23 (fun z1 z2 z3 z4 z5 z6 z7 z8 => K (.exit 8) [(1, .ptr 0 0 []), (3, .ptr 1 0 []), (6, .vec 2), (8, .ptr 3 0 []), (9, B z1), (47, .d (.sl w0) z2), (48, I z3), (49, I z4)] [.one w1 (.d w1 z5), .one (.arr 2 (.int .u64)) (.d (.arr 2 (.int .u64)) z6), .row (.arr 2 (.int .u64)) z7 false, .one (.arr 2 (.int .u64)) (.d (.arr 2 (.int .u64)) z8)]) s1 s2 s3 s4 s5 s6 s7 s8 s9 s10 s11 s12
theorem l39r23v : LoopV E wF (E.info 39).keep 0 Try.f39.ntmps 40000023 (body Try.f39 23) ([1, 3, 6, 8, 9, 10, 47, 48, 49, 60, 61, 62], lsl39r23) := by
  intro vs σ K (h0 : lsl39r23 vs σ K)
  unfold lsl39r23 at h0
  obtain ⟨r1, rfl, h2⟩ := cP h0
  obtain ⟨r2, rfl, h4⟩ := cP h2
  obtain ⟨r3, rfl, h6⟩ := cP h4
  obtain ⟨r4, rfl, h8⟩ := cP h6
  obtain ⟨s1, r5, rfl, h10⟩ := cD h8
  obtain ⟨s2, r6, rfl, h12⟩ := cD h10
  obtain ⟨s3, r7, rfl, h14⟩ := cD h12
  obtain ⟨s4, r8, rfl, h16⟩ := cD h14
  obtain ⟨s5, r9, rfl, h18⟩ := cD h16
  obtain ⟨s6, r10, rfl, h20⟩ := cD h18
  obtain ⟨s7, r11, rfl, h22⟩ := cD h20
  obtain ⟨s8, r12, rfl, h24⟩ := cD h22
  obtain ⟨rfl, h25⟩ := cN h24
  obtain ⟨s9, r13, rfl, h28⟩ := oD h25
  obtain ⟨s10, r15, rfl, h31⟩ := oD h28
  obtain ⟨s11, r17, rfl, h33⟩ := cR h31
  obtain ⟨s12, r18, rfl, h36⟩ := oD h33
  obtain ⟨rfl, h37⟩ := cN h36
  intro J hJ
  have hp : ∀ c' ∈ subsOf (E.info 39).keep (body Try.f39 23), SubOK E wF (E.info 39).keep 0 Try.f39.ntmps (lofL Ll39r23) c' := all_eq (by kernel_rfl : subsOf (E.info 39).keep (body Try.f39 23) = [.join 4000026 (jbody Try.f39 4000026)]) (all_cons (joinOK_of (mk := 40400026) (sl := [1, 3, 6, 8, 9, 10, 13, 14, 47, 48, 49, 60, 61, 62]) (ss := [([1, 3, 6, 8, 9, 10, 13, 14, 47, 48, 49, 60, 61, 62], lsj39r26)]) (by kernel_rfl) (by kernel_rfl) (all_cons j39r26v (all_nil))) (all_nil))
  exact h37.of (fun s1 s2 s3 s4 s5 s6 s7 s8 s9 s10 s11 s12 => J [(40000023, .undef), (1, .ptr 0 0 []), (3, .ptr 1 0 []), (6, .vec 2), (8, .ptr 3 0 []), (9, B s1), (10, I s2), (47, .d (.sl w0) s3), (48, I s4), (49, I s5), (60, .d (.sl w2) s6), (61, I s7), (62, I s8)] [.one w1 (.d w1 s9), .one (.arr 2 (.int .u64)) (.d (.arr 2 (.int .u64)) s10), .row (.arr 2 (.int .u64)) s11 false, .one (.arr 2 (.int .u64)) (.d (.arr 2 (.int .u64)) s12)]) (fun s1 s2 s3 s4 s5 s6 s7 s8 s9 s10 s11 s12 hb => loop_round2 (S := ofL Sl39r23) (L := lofL Ll39r23) hSl39r23 (inlOK _) hp hJ (by kernel_rfl) hb)
abbrev Sl39r19 : wS := [(41, none, sp41)]
theorem hSl39r19 : SpecOK E (ofL Sl39r19) := specOK_cons h41 (specOK_nil)
abbrev Ll39r19 : wL := [(40000023, [1, 3, 6, 8, 9, 10, 47, 48, 49, 60, 61, 62], none, lsl39r23)]
def lsl39r19 : LSp := fun vs σ K => asCons vs fun a1 r1 => asP (.ptr 0 0 []) a1 <| asCons r1 fun a2 r2 => asP (.ptr 1 0 []) a2 <| asCons r2 fun a3 r3 => asP (.vec 2) a3 <| asCons r3 fun a4 r4 => asP (.ptr 3 0 []) a4 <| asCons r4 fun a5 r5 => asD .bool a5 fun s1 => asCons r5 fun a6 r6 => asD (.sl w0) a6 fun s2 => asCons r6 fun a7 r7 => asD wI a7 fun s3 => asCons r7 fun a8 r8 => asD wI a8 fun s4 => asNil r8 <| asCons σ fun a9 r9 => asOne w1 a9 fun a10 => asD w1 a10 fun s5 => asCons r9 fun a11 r11 => asOne (.arr 2 (.int .u64)) a11 fun a12 => asD (.arr 2 (.int .u64)) a12 fun s6 => asCons r11 fun a13 r13 => asRw (.arr 2 (.int .u64)) false a13 fun s7 => asCons r13 fun a14 r14 => asOne (.arr 2 (.int .u64)) a14 fun a15 => asD (.arr 2 (.int .u64)) a15 fun s8 => asNil r14 <| l39r19 (fun z1 z2 z3 z4 z5 => K (.exit 6) [(1, .ptr 0 0 []), (3, .ptr 1 0 []), (6, .vec 2), (8, .ptr 3 0 []), (9, B z1)] [.one w1 (.d w1 z2), .one (.arr 2 (.int .u64)) (.d (.arr 2 (.int .u64)) z3), .row (.arr 2 (.int .u64)) z4 false, .one (.arr 2 (.int .u64)) (.d (.arr 2 (.int .u64)) z5)]) s1 s2 s3 s4 s5 s6 s7 s8
theorem l39r19v : LoopV E wF (E.info 39).keep 0 Try.f39.ntmps 40000019 (body Try.f39 19) ([1, 3, 6, 8, 9, 47, 48, 49], lsl39r19) := by
  intro vs σ K (h0 : lsl39r19 vs σ K)
  unfold lsl39r19 at h0
  obtain ⟨r1, rfl, h2⟩ := cP h0
  obtain ⟨r2, rfl, h4⟩ := cP h2
  obtain ⟨r3, rfl, h6⟩ := cP h4
  obtain ⟨r4, rfl, h8⟩ := cP h6
  obtain ⟨s1, r5, rfl, h10⟩ := cD h8
  obtain ⟨s2, r6, rfl, h12⟩ := cD h10
  obtain ⟨s3, r7, rfl, h14⟩ := cD h12
  obtain ⟨s4, r8, rfl, h16⟩ := cD h14
  obtain ⟨rfl, h17⟩ := cN h16
  obtain ⟨s5, r9, rfl, h20⟩ := oD h17
  obtain ⟨s6, r11, rfl, h23⟩ := oD h20
  obtain ⟨s7, r13, rfl, h25⟩ := cR h23
  obtain ⟨s8, r14, rfl, h28⟩ := oD h25
  obtain ⟨rfl, h29⟩ := cN h28
  intro J hJ
  have hp : ∀ c' ∈ subsOf (E.info 39).keep (body Try.f39 19), SubOK E wF (E.info 39).keep 0 Try.f39.ntmps (lofL Ll39r19) c' := all_eq (by kernel_rfl : subsOf (E.info 39).keep (body Try.f39 19) = [.loop (body Try.f39 23)]) (all_cons (loopOK_of (mk := 40000023) (sl := [1, 3, 6, 8, 9, 10, 47, 48, 49, 60, 61, 62]) (ss := [([1, 3, 6, 8, 9, 10, 47, 48, 49, 60, 61, 62], lsl39r23)]) (by kernel_rfl) (by kernel_rfl) (all_cons l39r23v (all_nil))) (all_nil))
  exact h29.of (fun s1 s2 s3 s4 s5 s6 s7 s8 => J [(40000019, .undef), (1, .ptr 0 0 []), (3, .ptr 1 0 []), (6, .vec 2), (8, .ptr 3 0 []), (9, B s1), (47, .d (.sl w0) s2), (48, I s3), (49, I s4)] [.one w1 (.d w1 s5), .one (.arr 2 (.int .u64)) (.d (.arr 2 (.int .u64)) s6), .row (.arr 2 (.int .u64)) s7 false, .one (.arr 2 (.int .u64)) (.d (.arr 2 (.int .u64)) s8)]) (fun s1 s2 s3 s4 s5 s6 s7 s8 hb => loop_round2 (S := ofL Sl39r19) (L := lofL Ll39r19) hSl39r19 (inlOK _) hp hJ (by kernel_rfl) hb)
abbrev Sl39r16 : wS := []
theorem hSl39r16 : SpecOK E (ofL Sl39r16) := specOK_nil
abbrev Ll39r16 : wL := [(40000019, [1, 3, 6, 8, 9, 47, 48, 49], none, lsl39r19)]
def lsl39r16 : LSp := fun vs σ K => asCons vs fun a1 r1 => asP (.ptr 0 0 []) a1 <| asCons r1 fun a2 r2 => asP (.ptr 1 0 []) a2 <| asCons r2 fun a3 r3 => asP (.vec 2) a3 <| asCons r3 fun a4 r4 => asP (.ptr 3 0 []) a4 <| asCons r4 fun a5 r5 => asD .bool a5 fun s1 => asNil r5 <| asCons σ fun a6 r6 => asOne w1 a6 fun a7 => asD w1 a7 fun s2 => asCons r6 fun a8 r8 => asOne (.arr 2 (.int .u64)) a8 fun a9 => asD (.arr 2 (.int .u64)) a9 fun s3 => asCons r8 fun a10 r10 => asRw (.arr 2 (.int .u64)) false a10 fun s4 => asCons r10 fun a11 r11 => asOne (.arr 2 (.int .u64)) a11 fun a12 => asD (.arr 2 (.int .u64)) a12 fun s5 => asNil r11 <| l39r16 (fun z1 z2 z3 => K (.exit 4) [(3, .ptr 0 0 []), (6, .vec 1), (8, .ptr 2 0 [])] [.one (.arr 2 (.int .u64)) (.d (.arr 2 (.int .u64)) z1), .row (.arr 2 (.int .u64)) z2 false, .one (.arr 2 (.int .u64)) (.d (.arr 2 (.int .u64)) z3)]) s1 s2 s3 s4 s5
theorem l39r16v : LoopV E wF (E.info 39).keep 0 Try.f39.ntmps 40000016 (body Try.f39 16) ([1, 3, 6, 8, 9], lsl39r16) := by
  intro vs σ K (h0 : lsl39r16 vs σ K)
  unfold lsl39r16 at h0
  obtain ⟨r1, rfl, h2⟩ := cP h0
  obtain ⟨r2, rfl, h4⟩ := cP h2
  obtain ⟨r3, rfl, h6⟩ := cP h4
  obtain ⟨r4, rfl, h8⟩ := cP h6
  obtain ⟨s1, r5, rfl, h10⟩ := cD h8
  obtain ⟨rfl, h11⟩ := cN h10
  obtain ⟨s2, r6, rfl, h14⟩ := oD h11
  obtain ⟨s3, r8, rfl, h17⟩ := oD h14
  obtain ⟨s4, r10, rfl, h19⟩ := cR h17
  obtain ⟨s5, r11, rfl, h22⟩ := oD h19
  obtain ⟨rfl, h23⟩ := cN h22
  intro J hJ
  have hp : ∀ c' ∈ subsOf (E.info 39).keep (body Try.f39 16), SubOK E wF (E.info 39).keep 0 Try.f39.ntmps (lofL Ll39r16) c' := all_eq (by kernel_rfl : subsOf (E.info 39).keep (body Try.f39 16) = [.loop (body Try.f39 19)]) (all_cons (loopOK_of (mk := 40000019) (sl := [1, 3, 6, 8, 9, 47, 48, 49]) (ss := [([1, 3, 6, 8, 9, 47, 48, 49], lsl39r19)]) (by kernel_rfl) (by kernel_rfl) (all_cons l39r19v (all_nil))) (all_nil))
  exact h23.of (fun s1 s2 s3 s4 s5 => J [(40000016, .undef), (1, .ptr 0 0 []), (3, .ptr 1 0 []), (6, .vec 2), (8, .ptr 3 0 []), (9, B s1)] [.one w1 (.d w1 s2), .one (.arr 2 (.int .u64)) (.d (.arr 2 (.int .u64)) s3), .row (.arr 2 (.int .u64)) s4 false, .one (.arr 2 (.int .u64)) (.d (.arr 2 (.int .u64)) s5)]) (fun s1 s2 s3 s4 s5 hb => loop_round2 (S := ofL Sl39r16) (L := lofL Ll39r16) hSl39r16 (inlOK _) hp hJ (by kernel_rfl) hb)
abbrev S39 : wS := [(61, none, sp61)]
theorem hS39 : SpecOK E (ofL S39) := specOK_cons h61 (specOK_nil)
abbrev L39 : wL := [(40000003, [1, 3, 4, 17, 18], none, lsl39r3), (40000009, [1, 3, 4, 6, 30, 31], none, lsl39r9), (40000016, [1, 3, 6, 8, 9], none, lsl39r16)]
def sp39 : Sp := fun args τ K => asCons args fun a1 r1 => asD w1 a1 fun x1 => asNil r1 <| asNil τ <| c39 x1 (fun z1 z2 => K (.tup [.vec 0, .d (.arr 2 (.int .u64)) z1]) [.row (.arr 2 (.int .u64)) z2 false])
theorem h39 : ∀ args τ K, sp39 args τ K → ACall E 39 args τ K := by
  intro args τ K h0
  unfold sp39 at h0
  obtain ⟨x1, r1, rfl, h2⟩ := cD h0
  obtain ⟨rfl, h3⟩ := cN h2
  obtain ⟨rfl, h4⟩ := cN h3
  exact ACall.spec2 (fn := Try.f39) (c := codeOf Try.f39) (S := ofL S39) (L := lofL L39) hS39 (by kernel_rfl) (by kernel_rfl) (inlOK _) (all_eq (by kernel_rfl : subsOf (E.info 39).keep (codeOf Try.f39) = [.loop (body Try.f39 3), .loop (body Try.f39 9), .loop (body Try.f39 16)]) (all_cons (loopOK_of (mk := 40000003) (sl := [1, 3, 4, 17, 18]) (ss := [([1, 3, 4, 17, 18], lsl39r3)]) (by kernel_rfl) (by kernel_rfl) (all_cons l39r3v (all_nil))) (all_cons (loopOK_of (mk := 40000009) (sl := [1, 3, 4, 6, 30, 31]) (ss := [([1, 3, 4, 6, 30, 31], lsl39r9)]) (by kernel_rfl) (by kernel_rfl) (all_cons l39r9v (all_nil))) (all_cons (loopOK_of (mk := 40000016) (sl := [1, 3, 6, 8, 9]) (ss := [([1, 3, 6, 8, 9], lsl39r16)]) (by kernel_rfl) (by kernel_rfl) (all_cons l39r16v (all_nil))) (all_nil))))) (by kernel_rfl) h4.of
abbrev S40 : wS := [(41, none, sp41)]
theorem hS40 : SpecOK E (ofL S40) := specOK_cons h41 (specOK_nil)
abbrev L40 : wL := []
def sp40 : Sp := fun args τ K => asCons args fun a1 r1 => asD wI a1 fun x1 => asCons r1 fun a2 r2 => asP (.ptr 0 0 []) a2 <| asCons r2 fun a3 r3 => asP (.ptr 3 0 []) a3 <| asCons r3 fun a4 r4 => asP (.ptr 4 0 []) a4 <| asCons r4 fun a5 r5 => asP (.ptr 5 0 []) a5 <| asCons r5 fun a6 r6 => asP (.ptr 7 0 []) a6 <| asNil r6 <| asCons τ fun a7 r7 => asOne (.opq .ptr) a7 fun a8 => asP (.ptr 1 0 []) a8 <| asCons r7 fun a9 r9 => asOne (.pair w1 (.pair (.opq .map) .unit)) a9 fun a10 => asAgL a10 fun l11 => asCons l11 fun a12 r12 => asD w1 a12 fun x2 => asCons r12 fun a13 r13 => asP (.mp 2) a13 <| asNil r13 <| asCons r9 fun a14 r14 => asKv w4 a14 fun x3 => asCons r14 fun a15 r15 => asOne wI a15 fun a16 => asD wI a16 fun x4 => asCons r15 fun a17 r17 => asOne wI a17 fun a18 => asD wI a18 fun x5 => asCons r17 fun a19 r19 => asOne (.sl (.arr 2 (.int .u64))) a19 fun a20 => asP (.vec 6) a20 <| asCons r19 fun a21 r21 => asRw (.arr 2 (.int .u64)) false a21 fun x6 => asCons r21 fun a22 r22 => asOne (.arr 2 (.int .u64)) a22 fun a23 => asD (.arr 2 (.int .u64)) a23 fun x7 => asNil r22 <| c40 x1 x2 x3 x4 x5 x6 x7 (fun z1 z2 z3 z4 z5 z6 z7 => K (B z1) [.one (.opq .ptr) (.ptr 1 0 []), .one (.pair w1 (.pair (.opq .map) .unit)) (.agg [.d w1 z2, .mp 2]), .kv w4 z3, .one wI (I z4), .one wI (I z5), .one (.sl (.arr 2 (.int .u64))) (.vec 6), .row (.arr 2 (.int .u64)) z6 false, .one (.arr 2 (.int .u64)) (.d (.arr 2 (.int .u64)) z7)])
theorem h40 : ∀ args τ K, sp40 args τ K → ACall E 40 args τ K := by
  intro args τ K h0
  unfold sp40 at h0
  obtain ⟨x1, r1, rfl, h2⟩ := cD h0
  obtain ⟨r2, rfl, h4⟩ := cP h2
  obtain ⟨r3, rfl, h6⟩ := cP h4
  obtain ⟨r4, rfl, h8⟩ := cP h6
  obtain ⟨r5, rfl, h10⟩ := cP h8
  obtain ⟨r6, rfl, h12⟩ := cP h10
  obtain ⟨rfl, h13⟩ := cN h12
  obtain ⟨r7, rfl, h16⟩ := oP h13
  obtain ⟨a9, r9, rfl, h17⟩ := asCons_inv h16
  obtain ⟨a10, rfl, h18⟩ := asOne_inv h17
  obtain ⟨l11, rfl, h19⟩ := asAgL_inv h18
  obtain ⟨x2, r12, rfl, h21⟩ := cD h19
  obtain ⟨r13, rfl, h23⟩ := cP h21
  obtain ⟨rfl, h24⟩ := cN h23
  obtain ⟨a14, r14, rfl, h25⟩ := asCons_inv h24
  obtain ⟨x3, rfl, h26⟩ := asKv_inv h25
  obtain ⟨x4, r15, rfl, h29⟩ := oD h26
  obtain ⟨x5, r17, rfl, h32⟩ := oD h29
  obtain ⟨r19, rfl, h35⟩ := oP h32
  obtain ⟨x6, r21, rfl, h37⟩ := cR h35
  obtain ⟨x7, r22, rfl, h40⟩ := oD h37
  obtain ⟨rfl, h41⟩ := cN h40
  exact ACall.spec2 (fn := Try.f40) (c := codeOf Try.f40) (S := ofL S40) (L := lofL L40) hS40 (by kernel_rfl) (by kernel_rfl) (inlOK _) (all_eq (by kernel_rfl : subsOf (E.info 40).keep (codeOf Try.f40) = []) (all_nil)) (by kernel_rfl) h41.of
abbrev Sl28r12 : wS := [(40, none, sp40)]
theorem hSl28r12 : SpecOK E (ofL Sl28r12) := specOK_cons h40 (specOK_nil)
abbrev Ll28r12 : wL := []
def lsl28r12 : LSp := fun vs σ K => asCons vs fun a1 r1 => asP (.ptr 2 0 []) a1 <| asCons r1 fun a2 r2 => asP (.ptr 3 0 []) a2 <| asCons r2 fun a3 r3 => asP (.ptr 5 0 []) a3 <| asCons r3 fun a4 r4 => asP (.ptr 6 0 []) a4 <| asCons r4 fun a5 r5 => asP (.ptr 7 0 []) a5 <| asCons r5 fun a6 r6 => asFn 40 a6 fun l7 l8 => asNil l7 <| asCons l8 fun a9 r9 => asP (.ptr 2 0 []) a9 <| asCons r9 fun a10 r10 => asP (.ptr 8 0 []) a10 <| asCons r10 fun a11 r11 => asP (.ptr 7 0 []) a11 <| asCons r11 fun a12 r12 => asP (.ptr 3 0 []) a12 <| asCons r12 fun a13 r13 => asP (.ptr 5 0 []) a13 <| asNil r13 <| asCons r6 fun a14 r14 => asD (.sl w0) a14 fun s1 => asCons r14 fun a15 r15 => asD wI a15 fun s2 => asCons r15 fun a16 r16 => asD wI a16 fun s3 => asCons r16 fun a17 r17 => asD (.sl (.pair wI (.pair wI w2))) a17 fun s4 => asCons r17 fun a18 r18 => asD wI a18 fun s5 => asCons r18 fun a19 r19 => asD wI a19 fun s6 => asCons r19 fun a20 r20 => asD (.sl wI) a20 fun s7 => asCons r20 fun a21 r21 => asD wI a21 fun s8 => asCons r21 fun a22 r22 => asD wI a22 fun s9 => asNil r22 <| asCons σ fun a23 r23 => asOne (.pair w1 (.pair (.opq .map) .unit)) a23 fun a24 => asAgL a24 fun l25 => asCons l25 fun a26 r26 => asD w1 a26 fun s10 => asCons r26 fun a27 r27 => asP (.mp 1) a27 <| asNil r27 <| asCons r23 fun a28 r28 => asKv w4 a28 fun s11 => asCons r28 fun a29 r29 => asOne (.opq .ptr) a29 fun a30 => asP (.ptr 0 0 []) a30 <| asCons r29 fun a31 r31 => asOne (.sl (.arr 2 (.int .u64))) a31 fun a32 => asP (.vec 4) a32 <| asCons r31 fun a33 r33 => asRw (.arr 2 (.int .u64)) false a33 fun s12 => asCons r33 fun a34 r34 => asOne (.arr 2 (.int .u64)) a34 fun a35 => asD (.arr 2 (.int .u64)) a35 fun s13 => asCons r34 fun a36 r36 => asOne w0 a36 fun a37 => asD w0 a37 fun s14 => asCons r36 fun a38 r38 => asOne wI a38 fun a39 => asD wI a39 fun s15 => asCons r38 fun a40 r40 => asOne wI a40 fun a41 => asD wI a41 fun s16 => asNil r40 <| l28r12 (fun z1 z2 z3 => K .ret [(1, .undef), (2, I z1), (3, .undef), (4, .undef), (6, .undef), (7, .undef), (8, .undef), (25, .undef), (26, .undef), (27, .undef), (34, .undef), (35, .undef), (36, .undef)] [.one (.pair w1 (.pair (.opq .map) .unit)) (.agg [.d w1 z2, .mp 1]), .kv w4 z3]) (fun z1 z2 z3 z4 z5 z6 z7 z8 z9 z10 z11 z12 z13 => K (.exit 4) [(1, .ptr 2 0 []), (2, .undef), (3, .ptr 3 0 []), (4, .ptr 5 0 []), (6, .ptr 6 0 []), (7, .ptr 7 0 []), (8, .fn 40 [] [.ptr 2 0 [], .ptr 8 0 [], .ptr 7 0 [], .ptr 3 0 [], .ptr 5 0 []]), (25, .d (.sl w0) z1), (26, I z2), (27, I z3), (34, .d (.sl (.pair wI (.pair wI w2))) z4), (35, I z5), (36, I z6)] [.one (.pair w1 (.pair (.opq .map) .unit)) (.agg [.d w1 z7, .mp 1]), .kv w4 z8, .one (.opq .ptr) (.ptr 0 0 []), .one (.sl (.arr 2 (.int .u64))) (.vec 4), .row (.arr 2 (.int .u64)) z9 false, .one (.arr 2 (.int .u64)) (.d (.arr 2 (.int .u64)) z10), .one w0 (.d w0 z11), .one wI (I z12), .one wI (I z13)]) s1 s2 s3 s4 s5 s6 s7 s8 s9 s10 s11 s12 s13 s14 s15 s16
theorem l28r12v : LoopV E wF (E.info 28).keep 2 Try.f28.ntmps 29000012 (body Try.f28 12) ([1, 3, 4, 6, 7, 8, 25, 26, 27, 34, 35, 36, 43, 44, 45], lsl28r12) := by
  intro vs σ K (h0 : lsl28r12 vs σ K)
  unfold lsl28r12 at h0
  obtain ⟨r1, rfl, h2⟩ := cP h0
  obtain ⟨r2, rfl, h4⟩ := cP h2
  obtain ⟨r3, rfl, h6⟩ := cP h4
  obtain ⟨r4, rfl, h8⟩ := cP h6
  obtain ⟨r5, rfl, h10⟩ := cP h8
  obtain ⟨a6, r6, rfl, h11⟩ := asCons_inv h10
  obtain ⟨l7, l8, rfl, h12⟩ := asFn_inv h11
  obtain ⟨rfl, h13⟩ := cN h12
  obtain ⟨r9, rfl, h15⟩ := cP h13
  obtain ⟨r10, rfl, h17⟩ := cP h15
  obtain ⟨r11, rfl, h19⟩ := cP h17
  obtain ⟨r12, rfl, h21⟩ := cP h19
  obtain ⟨r13, rfl, h23⟩ := cP h21
  obtain ⟨rfl, h24⟩ := cN h23
  obtain ⟨s1, r14, rfl, h26⟩ := cD h24
  obtain ⟨s2, r15, rfl, h28⟩ := cD h26
  obtain ⟨s3, r16, rfl, h30⟩ := cD h28
  obtain ⟨s4, r17, rfl, h32⟩ := cD h30
  obtain ⟨s5, r18, rfl, h34⟩ := cD h32
  obtain ⟨s6, r19, rfl, h36⟩ := cD h34
  obtain ⟨s7, r20, rfl, h38⟩ := cD h36
  obtain ⟨s8, r21, rfl, h40⟩ := cD h38
  obtain ⟨s9, r22, rfl, h42⟩ := cD h40
  obtain ⟨rfl, h43⟩ := cN h42
  obtain ⟨a23, r23, rfl, h44⟩ := asCons_inv h43
  obtain ⟨a24, rfl, h45⟩ := asOne_inv h44
  obtain ⟨l25, rfl, h46⟩ := asAgL_inv h45
  obtain ⟨s10, r26, rfl, h48⟩ := cD h46
  obtain ⟨r27, rfl, h50⟩ := cP h48
  obtain ⟨rfl, h51⟩ := cN h50
  obtain ⟨a28, r28, rfl, h52⟩ := asCons_inv h51
  obtain ⟨s11, rfl, h53⟩ := asKv_inv h52
  obtain ⟨r29, rfl, h56⟩ := oP h53
  obtain ⟨r31, rfl, h59⟩ := oP h56
  obtain ⟨s12, r33, rfl, h61⟩ := cR h59
  obtain ⟨s13, r34, rfl, h64⟩ := oD h61
  obtain ⟨s14, r36, rfl, h67⟩ := oD h64
  obtain ⟨s15, r38, rfl, h70⟩ := oD h67
  obtain ⟨s16, r40, rfl, h73⟩ := oD h70
  obtain ⟨rfl, h74⟩ := cN h73
  intro J hJ
  have hp : ∀ c' ∈ subsOf (E.info 28).keep (body Try.f28 12), SubOK E wF (E.info 28).keep 2 Try.f28.ntmps (lofL Ll28r12) c' := all_eq (by kernel_rfl : subsOf (E.info 28).keep (body Try.f28 12) = []) (all_nil)
  exact h74.of (fun s1 s2 s3 s4 s5 s6 s7 s8 s9 s10 s11 s12 s13 s14 s15 s16 => J [(29000012, .undef), (1, .ptr 2 0 []), (3, .ptr 3 0 []), (4, .ptr 5 0 []), (6, .ptr 6 0 []), (7, .ptr 7 0 []), (8, .fn 40 [] [.ptr 2 0 [], .ptr 8 0 [], .ptr 7 0 [], .ptr 3 0 [], .ptr 5 0 []]), (25, .d (.sl w0) s1), (26, I s2), (27, I s3), (34, .d (.sl (.pair wI (.pair wI w2))) s4), (35, I s5), (36, I s6), (43, .d (.sl wI) s7), (44, I s8), (45, I s9)] [.one (.pair w1 (.pair (.opq .map) .unit)) (.agg [.d w1 s10, .mp 1]), .kv w4 s11, .one (.opq .ptr) (.ptr 0 0 []), .one (.sl (.arr 2 (.int .u64))) (.vec 4), .row (.arr 2 (.int .u64)) s12 false, .one (.arr 2 (.int .u64)) (.d (.arr 2 (.int .u64)) s13), .one w0 (.d w0 s14), .one wI (I s15), .one wI (I s16)]) (fun s1 s2 s3 s4 s5 s6 s7 s8 s9 s10 s11 s12 s13 s14 s15 s16 hb => loop_round2 (S := ofL Sl28r12) (L := lofL Ll28r12) hSl28r12 (inlOK _) hp hJ (by kernel_rfl) hb)
abbrev Sl28r8 : wS := []
theorem hSl28r8 : SpecOK E (ofL Sl28r8) := specOK_nil
abbrev Ll28r8 : wL := [(29000012, [1, 3, 4, 6, 7, 8, 25, 26, 27, 34, 35, 36, 43, 44, 45], none, lsl28r12)]
def lsl28r8 : LSp := fun vs σ K => asCons vs fun a1 r1 => asP (.ptr 2 0 []) a1 <| asCons r1 fun a2 r2 => asP (.ptr 3 0 []) a2 <| asCons r2 fun a3 r3 => asP (.ptr 5 0 []) a3 <| asCons r3 fun a4 r4 => asP (.ptr 6 0 []) a4 <| asCons r4 fun a5 r5 => asP (.ptr 7 0 []) a5 <| asCons r5 fun a6 r6 => asFn 40 a6 fun l7 l8 => asNil l7 <| asCons l8 fun a9 r9 => asP (.ptr 2 0 []) a9 <| asCons r9 fun a10 r10 => asP (.ptr 8 0 []) a10 <| asCons r10 fun a11 r11 => asP (.ptr 7 0 []) a11 <| asCons r11 fun a12 r12 => asP (.ptr 3 0 []) a12 <| asCons r12 fun a13 r13 => asP (.ptr 5 0 []) a13 <| asNil r13 <| asCons r6 fun a14 r14 => asD (.sl w0) a14 fun s1 => asCons r14 fun a15 r15 => asD wI a15 fun s2 => asCons r15 fun a16 r16 => asD wI a16 fun s3 => asCons r16 fun a17 r17 => asD (.sl (.pair wI (.pair wI w2))) a17 fun s4 => asCons r17 fun a18 r18 => asD wI a18 fun s5 => asCons r18 fun a19 r19 => asD wI a19 fun s6 => asNil r19 <| asCons σ fun a20 r20 => asOne (.pair w1 (.pair (.opq .map) .unit)) a20 fun a21 => asAgL a21 fun l22 => asCons l22 fun a23 r23 => asD w1 a23 fun s7 => asCons r23 fun a24 r24 => asP (.mp 1) a24 <| asNil r24 <| asCons r20 fun a25 r25 => asKv w4 a25 fun s8 => asCons r25 fun a26 r26 => asOne (.opq .ptr) a26 fun a27 => asP (.ptr 0 0 []) a27 <| asCons r26 fun a28 r28 => asOne (.sl (.arr 2 (.int .u64))) a28 fun a29 => asP (.vec 4) a29 <| asCons r28 fun a30 r30 => asRw (.arr 2 (.int .u64)) false a30 fun s9 => asCons r30 fun a31 r31 => asOne (.arr 2 (.int .u64)) a31 fun a32 => asD (.arr 2 (.int .u64)) a32 fun s10 => asCons r31 fun a33 r33 => asOne w0 a33 fun a34 => asD w0 a34 fun s11 => asCons r33 fun a35 r35 => asOne wI a35 fun a36 => asD wI a36 fun s12 => asCons r35 fun a37 r37 => asOne wI a37 fun a38 => asD wI a38 fun s13 => asNil r37 <| l28r8 (fun z1 z2 z3 => K .ret [(1, .undef), (2, I z1), (3, .undef), (4, .undef), (6, .undef), (7, .undef), (8, .undef), (25, .undef), (26, .undef), (27, .undef)] [.one (.pair w1 (.pair (.opq .map) .unit)) (.agg [.d w1 z2, .mp 1]), .kv w4 z3]) (fun z1 z2 z3 z4 z5 z6 z7 z8 z9 z10 => K (.exit 2) [(1, .ptr 2 0 []), (2, .undef), (3, .ptr 3 0 []), (4, .ptr 5 0 []), (6, .ptr 6 0 []), (7, .ptr 7 0 []), (8, .fn 40 [] [.ptr 2 0 [], .ptr 8 0 [], .ptr 7 0 [], .ptr 3 0 [], .ptr 5 0 []]), (25, .d (.sl w0) z1), (26, I z2), (27, I z3)] [.one (.pair w1 (.pair (.opq .map) .unit)) (.agg [.d w1 z4, .mp 1]), .kv w4 z5, .one (.opq .ptr) (.ptr 0 0 []), .one (.sl (.arr 2 (.int .u64))) (.vec 4), .row (.arr 2 (.int .u64)) z6 false, .one (.arr 2 (.int .u64)) (.d (.arr 2 (.int .u64)) z7), .one w0 (.d w0 z8), .one wI (I z9), .one wI (I z10)]) s1 s2 s3 s4 s5 s6 s7 s8 s9 s10 s11 s12 s13
theorem l28r8v : LoopV E wF (E.info 28).keep 2 Try.f28.ntmps 29000008 (body Try.f28 8) ([1, 3, 4, 6, 7, 8, 25, 26, 27, 34, 35, 36], lsl28r8) := by
  intro vs σ K (h0 : lsl28r8 vs σ K)
  unfold lsl28r8 at h0
  obtain ⟨r1, rfl, h2⟩ := cP h0
  obtain ⟨r2, rfl, h4⟩ := cP h2
  obtain ⟨r3, rfl, h6⟩ := cP h4
  obtain ⟨r4, rfl, h8⟩ := cP h6
  obtain ⟨r5, rfl, h10⟩ := cP h8
  obtain ⟨a6, r6, rfl, h11⟩ := asCons_inv h10
  obtain ⟨l7, l8, rfl, h12⟩ := asFn_inv h11
  obtain ⟨rfl, h13⟩ := cN h12
  obtain ⟨r9, rfl, h15⟩ := cP h13
  obtain ⟨r10, rfl, h17⟩ := cP h15
  obtain ⟨r11, rfl, h19⟩ := cP h17
  obtain ⟨r12, rfl, h21⟩ := cP h19
  obtain ⟨r13, rfl, h23⟩ := cP h21
  obtain ⟨rfl, h24⟩ := cN h23
  obtain ⟨s1, r14, rfl, h26⟩ := cD h24
  obtain ⟨s2, r15, rfl, h28⟩ := cD h26
  obtain ⟨s3, r16, rfl, h30⟩ := cD h28
  obtain ⟨s4, r17, rfl, h32⟩ := cD h30
  obtain ⟨s5, r18, rfl, h34⟩ := cD h32
  obtain ⟨s6, r19, rfl, h36⟩ := cD h34
  obtain ⟨rfl, h37⟩ := cN h36
  obtain ⟨a20, r20, rfl, h38⟩ := asCons_inv h37
  obtain ⟨a21, rfl, h39⟩ := asOne_inv h38
  obtain ⟨l22, rfl, h40⟩ := asAgL_inv h39
  obtain ⟨s7, r23, rfl, h42⟩ := cD h40
  obtain ⟨r24, rfl, h44⟩ := cP h42
  obtain ⟨rfl, h45⟩ := cN h44
  obtain ⟨a25, r25, rfl, h46⟩ := asCons_inv h45
  obtain ⟨s8, rfl, h47⟩ := asKv_inv h46
  obtain ⟨r26, rfl, h50⟩ := oP h47
  obtain ⟨r28, rfl, h53⟩ := oP h50
  obtain ⟨s9, r30, rfl, h55⟩ := cR h53
  obtain ⟨s10, r31, rfl, h58⟩ := oD h55
  obtain ⟨s11, r33, rfl, h61⟩ := oD h58
  obtain ⟨s12, r35, rfl, h64⟩ := oD h61
  obtain ⟨s13, r37, rfl, h67⟩ := oD h64
  obtain ⟨rfl, h68⟩ := cN h67
  intro J hJ
  have hp : ∀ c' ∈ subsOf (E.info 28).keep (body Try.f28 8), SubOK E wF (E.info 28).keep 2 Try.f28.ntmps (lofL Ll28r8) c' := all_eq (by kernel_rfl : subsOf (E.info 28).keep (body Try.f28 8) = [.loop (body Try.f28 12)]) (all_cons (loopOK_of (mk := 29000012) (sl := [1, 3, 4, 6, 7, 8, 25, 26, 27, 34, 35, 36, 43, 44, 45]) (ss := [([1, 3, 4, 6, 7, 8, 25, 26, 27, 34, 35, 36, 43, 44, 45], lsl28r12)]) (by kernel_rfl) (by kernel_rfl) (all_cons l28r12v (all_nil))) (all_nil))
  exact h68.of (fun s1 s2 s3 s4 s5 s6 s7 s8 s9 s10 s11 s12 s13 => J [(29000008, .undef), (1, .ptr 2 0 []), (3, .ptr 3 0 []), (4, .ptr 5 0 []), (6, .ptr 6 0 []), (7, .ptr 7 0 []), (8, .fn 40 [] [.ptr 2 0 [], .ptr 8 0 [], .ptr 7 0 [], .ptr 3 0 [], .ptr 5 0 []]), (25, .d (.sl w0) s1), (26, I s2), (27, I s3), (34, .d (.sl (.pair wI (.pair wI w2))) s4), (35, I s5), (36, I s6)] [.one (.pair w1 (.pair (.opq .map) .unit)) (.agg [.d w1 s7, .mp 1]), .kv w4 s8, .one (.opq .ptr) (.ptr 0 0 []), .one (.sl (.arr 2 (.int .u64))) (.vec 4), .row (.arr 2 (.int .u64)) s9 false, .one (.arr 2 (.int .u64)) (.d (.arr 2 (.int .u64)) s10), .one w0 (.d w0 s11), .one wI (I s12), .one wI (I s13)]) (fun s1 s2 s3 s4 s5 s6 s7 s8 s9 s10 s11 s12 s13 hb => loop_round2 (S := ofL Sl28r8) (L := lofL Ll28r8) hSl28r8 (inlOK _) hp hJ (by kernel_rfl) hb)
abbrev Sl42r7 : wS := [(40, none, sp40)]
theorem hSl42r7 : SpecOK E (ofL Sl42r7) := specOK_cons h40 (specOK_nil)
abbrev Ll42r7 : wL := []
def lsl42r7 : LSp := fun vs σ K => asCons vs fun a1 r1 => asFn 40 a1 fun l2 l3 => asNil l2 <| asCons l3 fun a4 r4 => asP (.ptr 0 0 []) a4 <| asCons r4 fun a5 r5 => asP (.ptr 3 0 []) a5 <| asCons r5 fun a6 r6 => asP (.ptr 4 0 []) a6 <| asCons r6 fun a7 r7 => asP (.ptr 5 0 []) a7 <| asCons r7 fun a8 r8 => asP (.ptr 7 0 []) a8 <| asNil r8 <| asCons r1 fun a9 r9 => asD (.sl w2) a9 fun s1 => asCons r9 fun a10 r10 => asD wI a10 fun s2 => asCons r10 fun a11 r11 => asD wI a11 fun s3 => asCons r11 fun a12 r12 => asD (.sl wI) a12 fun s4 => asCons r12 fun a13 r13 => asD wI a13 fun s5 => asCons r13 fun a14 r14 => asD wI a14 fun s6 => asNil r14 <| asCons σ fun a15 r15 => asOne (.opq .ptr) a15 fun a16 => asP (.ptr 1 0 []) a16 <| asCons r15 fun a17 r17 => asOne (.pair w1 (.pair (.opq .map) .unit)) a17 fun a18 => asAgL a18 fun l19 => asCons l19 fun a20 r20 => asD w1 a20 fun s7 => asCons r20 fun a21 r21 => asP (.mp 2) a21 <| asNil r21 <| asCons r17 fun a22 r22 => asKv w4 a22 fun s8 => asCons r22 fun a23 r23 => asOne wI a23 fun a24 => asD wI a24 fun s9 => asCons r23 fun a25 r25 => asOne wI a25 fun a26 => asD wI a26 fun s10 => asCons r25 fun a27 r27 => asOne (.sl (.arr 2 (.int .u64))) a27 fun a28 => asP (.vec 6) a28 <| asCons r27 fun a29 r29 => asRw (.arr 2 (.int .u64)) false a29 fun s11 => asCons r29 fun a30 r30 => asOne (.arr 2 (.int .u64)) a30 fun a31 => asD (.arr 2 (.int .u64)) a31 fun s12 => asNil r30 <| l42r7 (fun z1 z2 z3 z4 z5 z6 z7 => K .ret [(1, .undef), (4, B z1), (25, .undef), (26, .undef), (27, .undef)] [.one (.opq .ptr) (.ptr 1 0 []), .one (.pair w1 (.pair (.opq .map) .unit)) (.agg [.d w1 z2, .mp 2]), .kv w4 z3, .one wI (I z4), .one wI (I z5), .one (.sl (.arr 2 (.int .u64))) (.vec 6), .row (.arr 2 (.int .u64)) z6 false, .one (.arr 2 (.int .u64)) (.d (.arr 2 (.int .u64)) z7)]) (fun z1 z2 z3 z4 z5 z6 z7 z8 z9 => K (.exit 2) [(1, .fn 40 [] [.ptr 0 0 [], .ptr 3 0 [], .ptr 4 0 [], .ptr 5 0 [], .ptr 7 0 []]), (4, .undef), (25, .d (.sl w2) z1), (26, I z2), (27, I z3)] [.one (.opq .ptr) (.ptr 1 0 []), .one (.pair w1 (.pair (.opq .map) .unit)) (.agg [.d w1 z4, .mp 2]), .kv w4 z5, .one wI (I z6), .one wI (I z7), .one (.sl (.arr 2 (.int .u64))) (.vec 6), .row (.arr 2 (.int .u64)) z8 false, .one (.arr 2 (.int .u64)) (.d (.arr 2 (.int .u64)) z9)]) s1 s2 s3 s4 s5 s6 s7 s8 s9 s10 s11 s12
theorem l42r7v : LoopV E wF (E.info 42).keep 8 Try.f42.ntmps 43000007 (body Try.f42 7) ([1, 25, 26, 27, 32, 33, 34], lsl42r7) := by
  intro vs σ K (h0 : lsl42r7 vs σ K)
  unfold lsl42r7 at h0
  obtain ⟨a1, r1, rfl, h1⟩ := asCons_inv h0
  obtain ⟨l2, l3, rfl, h2⟩ := asFn_inv h1
  obtain ⟨rfl, h3⟩ := cN h2
  obtain ⟨r4, rfl, h5⟩ := cP h3
  obtain ⟨r5, rfl, h7⟩ := cP h5
  obtain ⟨r6, rfl, h9⟩ := cP h7
  obtain ⟨r7, rfl, h11⟩ := cP h9
  obtain ⟨r8, rfl, h13⟩ := cP h11
  obtain ⟨rfl, h14⟩ := cN h13
  obtain ⟨s1, r9, rfl, h16⟩ := cD h14
  obtain ⟨s2, r10, rfl, h18⟩ := cD h16
  obtain ⟨s3, r11, rfl, h20⟩ := cD h18
  obtain ⟨s4, r12, rfl, h22⟩ := cD h20
  obtain ⟨s5, r13, rfl, h24⟩ := cD h22
  obtain ⟨s6, r14, rfl, h26⟩ := cD h24
  obtain ⟨rfl, h27⟩ := cN h26
  obtain ⟨r15, rfl, h30⟩ := oP h27
  obtain ⟨a17, r17, rfl, h31⟩ := asCons_inv h30
  obtain ⟨a18, rfl, h32⟩ := asOne_inv h31
  obtain ⟨l19, rfl, h33⟩ := asAgL_inv h32
  obtain ⟨s7, r20, rfl, h35⟩ := cD h33
  obtain ⟨r21, rfl, h37⟩ := cP h35
  obtain ⟨rfl, h38⟩ := cN h37
  obtain ⟨a22, r22, rfl, h39⟩ := asCons_inv h38
  obtain ⟨s8, rfl, h40⟩ := asKv_inv h39
  obtain ⟨s9, r23, rfl, h43⟩ := oD h40
  obtain ⟨s10, r25, rfl, h46⟩ := oD h43
  obtain ⟨r27, rfl, h49⟩ := oP h46
  obtain ⟨s11, r29, rfl, h51⟩ := cR h49
  obtain ⟨s12, r30, rfl, h54⟩ := oD h51
  obtain ⟨rfl, h55⟩ := cN h54
  intro J hJ
  have hp : ∀ c' ∈ subsOf (E.info 42).keep (body Try.f42 7), SubOK E wF (E.info 42).keep 8 Try.f42.ntmps (lofL Ll42r7) c' := all_eq (by kernel_rfl : subsOf (E.info 42).keep (body Try.f42 7) = []) (all_nil)
  exact h55.of (fun s1 s2 s3 s4 s5 s6 s7 s8 s9 s10 s11 s12 => J [(43000007, .undef), (1, .fn 40 [] [.ptr 0 0 [], .ptr 3 0 [], .ptr 4 0 [], .ptr 5 0 [], .ptr 7 0 []]), (25, .d (.sl w2) s1), (26, I s2), (27, I s3), (32, .d (.sl wI) s4), (33, I s5), (34, I s6)] [.one (.opq .ptr) (.ptr 1 0 []), .one (.pair w1 (.pair (.opq .map) .unit)) (.agg [.d w1 s7, .mp 2]), .kv w4 s8, .one wI (I s9), .one wI (I s10), .one (.sl (.arr 2 (.int .u64))) (.vec 6), .row (.arr 2 (.int .u64)) s11 false, .one (.arr 2 (.int .u64)) (.d (.arr 2 (.int .u64)) s12)]) (fun s1 s2 s3 s4 s5 s6 s7 s8 s9 s10 s11 s12 hb => loop_round2 (S := ofL Sl42r7) (L := lofL Ll42r7) hSl42r7 (inlOK _) hp hJ (by kernel_rfl) hb)
abbrev Sl42r4 : wS := []
theorem hSl42r4 : SpecOK E (ofL Sl42r4) := specOK_nil
abbrev Ll42r4 : wL := [(43000007, [1, 25, 26, 27, 32, 33, 34], none, lsl42r7)]
def lsl42r4 : LSp := fun vs σ K => asCons vs fun a1 r1 => asFn 40 a1 fun l2 l3 => asNil l2 <| asCons l3 fun a4 r4 => asP (.ptr 0 0 []) a4 <| asCons r4 fun a5 r5 => asP (.ptr 3 0 []) a5 <| asCons r5 fun a6 r6 => asP (.ptr 4 0 []) a6 <| asCons r6 fun a7 r7 => asP (.ptr 5 0 []) a7 <| asCons r7 fun a8 r8 => asP (.ptr 7 0 []) a8 <| asNil r8 <| asCons r1 fun a9 r9 => asD (.sl w2) a9 fun s1 => asCons r9 fun a10 r10 => asD wI a10 fun s2 => asCons r10 fun a11 r11 => asD wI a11 fun s3 => asNil r11 <| asCons σ fun a12 r12 => asOne (.opq .ptr) a12 fun a13 => asP (.ptr 1 0 []) a13 <| asCons r12 fun a14 r14 => asOne (.pair w1 (.pair (.opq .map) .unit)) a14 fun a15 => asAgL a15 fun l16 => asCons l16 fun a17 r17 => asD w1 a17 fun s4 => asCons r17 fun a18 r18 => asP (.mp 2) a18 <| asNil r18 <| asCons r14 fun a19 r19 => asKv w4 a19 fun s5 => asCons r19 fun a20 r20 => asOne wI a20 fun a21 => asD wI a21 fun s6 => asCons r20 fun a22 r22 => asOne wI a22 fun a23 => asD wI a23 fun s7 => asCons r22 fun a24 r24 => asOne (.sl (.arr 2 (.int .u64))) a24 fun a25 => asP (.vec 6) a25 <| asCons r24 fun a26 r26 => asRw (.arr 2 (.int .u64)) false a26 fun s8 => asCons r26 fun a27 r27 => asOne (.arr 2 (.int .u64)) a27 fun a28 => asD (.arr 2 (.int .u64)) a28 fun s9 => asNil r27 <| l42r4 (fun z1 z2 z3 z4 z5 z6 z7 => K .ret [(4, B z1)] [.one (.opq .ptr) (.ptr 1 0 []), .one (.pair w1 (.pair (.opq .map) .unit)) (.agg [.d w1 z2, .mp 2]), .kv w4 z3, .one wI (I z4), .one wI (I z5), .one (.sl (.arr 2 (.int .u64))) (.vec 6), .row (.arr 2 (.int .u64)) z6 false, .one (.arr 2 (.int .u64)) (.d (.arr 2 (.int .u64)) z7)]) (fun z1 z2 z3 z4 z5 z6 => K (.exit 0) [(4, .undef)] [.one (.opq .ptr) (.ptr 1 0 []), .one (.pair w1 (.pair (.opq .map) .unit)) (.agg [.d w1 z1, .mp 2]), .kv w4 z2, .one wI (I z3), .one wI (I z4), .one (.sl (.arr 2 (.int .u64))) (.vec 6), .row (.arr 2 (.int .u64)) z5 false, .one (.arr 2 (.int .u64)) (.d (.arr 2 (.int .u64)) z6)]) s1 s2 s3 s4 s5 s6 s7 s8 s9
theorem l42r4v : LoopV E wF (E.info 42).keep 8 Try.f42.ntmps 43000004 (body Try.f42 4) ([1, 25, 26, 27], lsl42r4) := by
  intro vs σ K (h0 : lsl42r4 vs σ K)
  unfold lsl42r4 at h0
  obtain ⟨a1, r1, rfl, h1⟩ := asCons_inv h0
  obtain ⟨l2, l3, rfl, h2⟩ := asFn_inv h1
  obtain ⟨rfl, h3⟩ := cN h2
  obtain ⟨r4, rfl, h5⟩ := cP h3
  obtain ⟨r5, rfl, h7⟩ := cP h5
  obtain ⟨r6, rfl, h9⟩ := cP h7
  obtain ⟨r7, rfl, h11⟩ := cP h9
  obtain ⟨r8, rfl, h13⟩ := cP h11
  obtain ⟨rfl, h14⟩ := cN h13
  obtain ⟨s1, r9, rfl, h16⟩ := cD h14
  obtain ⟨s2, r10, rfl, h18⟩ := cD h16
  obtain ⟨s3, r11, rfl, h20⟩ := cD h18
  obtain ⟨rfl, h21⟩ := cN h20
  obtain ⟨r12, rfl, h24⟩ := oP h21
  obtain ⟨a14, r14, rfl, h25⟩ := asCons_inv h24
  obtain ⟨a15, rfl, h26⟩ := asOne_inv h25
  obtain ⟨l16, rfl, h27⟩ := asAgL_inv h26
  obtain ⟨s4, r17, rfl, h29⟩ := cD h27
  obtain ⟨r18, rfl, h31⟩ := cP h29
  obtain ⟨rfl, h32⟩ := cN h31
  obtain ⟨a19, r19, rfl, h33⟩ := asCons_inv h32
  obtain ⟨s5, rfl, h34⟩ := asKv_inv h33
  obtain ⟨s6, r20, rfl, h37⟩ := oD h34
  obtain ⟨s7, r22, rfl, h40⟩ := oD h37
  obtain ⟨r24, rfl, h43⟩ := oP h40
  obtain ⟨s8, r26, rfl, h45⟩ := cR h43
  obtain ⟨s9, r27, rfl, h48⟩ := oD h45
  obtain ⟨rfl, h49⟩ := cN h48
  intro J hJ
  have hp : ∀ c' ∈ subsOf (E.info 42).keep (body Try.f42 4), SubOK E wF (E.info 42).keep 8 Try.f42.ntmps (lofL Ll42r4) c' := all_eq (by kernel_rfl : subsOf (E.info 42).keep (body Try.f42 4) = [.loop (body Try.f42 7)]) (all_cons (loopOK_of (mk := 43000007) (sl := [1, 25, 26, 27, 32, 33, 34]) (ss := [([1, 25, 26, 27, 32, 33, 34], lsl42r7)]) (by kernel_rfl) (by kernel_rfl) (all_cons l42r7v (all_nil))) (all_nil))
  exact h49.of (fun s1 s2 s3 s4 s5 s6 s7 s8 s9 => J [(43000004, .undef), (1, .fn 40 [] [.ptr 0 0 [], .ptr 3 0 [], .ptr 4 0 [], .ptr 5 0 [], .ptr 7 0 []]), (25, .d (.sl w2) s1), (26, I s2), (27, I s3)] [.one (.opq .ptr) (.ptr 1 0 []), .one (.pair w1 (.pair (.opq .map) .unit)) (.agg [.d w1 s4, .mp 2]), .kv w4 s5, .one wI (I s6), .one wI (I s7), .one (.sl (.arr 2 (.int .u64))) (.vec 6), .row (.arr 2 (.int .u64)) s8 false, .one (.arr 2 (.int .u64)) (.d (.arr 2 (.int .u64)) s9)]) (fun s1 s2 s3 s4 s5 s6 s7 s8 s9 hb => loop_round2 (S := ofL Sl42r4) (L := lofL Ll42r4) hSl42r4 (inlOK _) hp hJ (by kernel_rfl) hb)
abbrev S42 : wS := [(40, none, sp40)]
theorem hS42 : SpecOK E (ofL S42) := specOK_cons h40 (specOK_nil)
abbrev L42 : wL := [(43000004, [1, 25, 26, 27], none, lsl42r4)]
def sp42 : Sp := fun args τ K => asCons args fun a1 r1 => asD w3 a1 fun x1 => asCons r1 fun a2 r2 => asFn 40 a2 fun l3 l4 => asNil l3 <| asCons l4 fun a5 r5 => asP (.ptr 0 0 []) a5 <| asCons r5 fun a6 r6 => asP (.ptr 3 0 []) a6 <| asCons r6 fun a7 r7 => asP (.ptr 4 0 []) a7 <| asCons r7 fun a8 r8 => asP (.ptr 5 0 []) a8 <| asCons r8 fun a9 r9 => asP (.ptr 7 0 []) a9 <| asNil r9 <| asNil r2 <| asCons τ fun a10 r10 => asOne (.opq .ptr) a10 fun a11 => asP (.ptr 1 0 []) a11 <| asCons r10 fun a12 r12 => asOne (.pair w1 (.pair (.opq .map) .unit)) a12 fun a13 => asAgL a13 fun l14 => asCons l14 fun a15 r15 => asD w1 a15 fun x2 => asCons r15 fun a16 r16 => asP (.mp 2) a16 <| asNil r16 <| asCons r12 fun a17 r17 => asKv w4 a17 fun x3 => asCons r17 fun a18 r18 => asOne wI a18 fun a19 => asD wI a19 fun x4 => asCons r18 fun a20 r20 => asOne wI a20 fun a21 => asD wI a21 fun x5 => asCons r20 fun a22 r22 => asOne (.sl (.arr 2 (.int .u64))) a22 fun a23 => asP (.vec 6) a23 <| asCons r22 fun a24 r24 => asRw (.arr 2 (.int .u64)) false a24 fun x6 => asCons r24 fun a25 r25 => asOne (.arr 2 (.int .u64)) a25 fun a26 => asD (.arr 2 (.int .u64)) a26 fun x7 => asNil r25 <| c42 x1 x2 x3 x4 x5 x6 x7 (fun z1 z2 z3 z4 z5 z6 z7 => K (B z1) [.one (.opq .ptr) (.ptr 1 0 []), .one (.pair w1 (.pair (.opq .map) .unit)) (.agg [.d w1 z2, .mp 2]), .kv w4 z3, .one wI (I z4), .one wI (I z5), .one (.sl (.arr 2 (.int .u64))) (.vec 6), .row (.arr 2 (.int .u64)) z6 false, .one (.arr 2 (.int .u64)) (.d (.arr 2 (.int .u64)) z7)])
theorem h42 : ∀ args τ K, sp42 args τ K → ACall E 42 args τ K := by
  intro args τ K h0
  unfold sp42 at h0
  obtain ⟨x1, r1, rfl, h2⟩ := cD h0
  obtain ⟨a2, r2, rfl, h3⟩ := asCons_inv h2
  obtain ⟨l3, l4, rfl, h4⟩ := asFn_inv h3
  obtain ⟨rfl, h5⟩ := cN h4
  obtain ⟨r5, rfl, h7⟩ := cP h5
  obtain ⟨r6, rfl, h9⟩ := cP h7
  obtain ⟨r7, rfl, h11⟩ := cP h9
  obtain ⟨r8, rfl, h13⟩ := cP h11
  obtain ⟨r9, rfl, h15⟩ := cP h13
  obtain ⟨rfl, h16⟩ := cN h15
  obtain ⟨rfl, h17⟩ := cN h16
  obtain ⟨r10, rfl, h20⟩ := oP h17
  obtain ⟨a12, r12, rfl, h21⟩ := asCons_inv h20
  obtain ⟨a13, rfl, h22⟩ := asOne_inv h21
  obtain ⟨l14, rfl, h23⟩ := asAgL_inv h22
  obtain ⟨x2, r15, rfl, h25⟩ := cD h23
  obtain ⟨r16, rfl, h27⟩ := cP h25
  obtain ⟨rfl, h28⟩ := cN h27
  obtain ⟨a17, r17, rfl, h29⟩ := asCons_inv h28
  obtain ⟨x3, rfl, h30⟩ := asKv_inv h29
  obtain ⟨x4, r18, rfl, h33⟩ := oD h30
  obtain ⟨x5, r20, rfl, h36⟩ := oD h33
  obtain ⟨r22, rfl, h39⟩ := oP h36
  obtain ⟨x6, r24, rfl, h41⟩ := cR h39
  obtain ⟨x7, r25, rfl, h44⟩ := oD h41
  obtain ⟨rfl, h45⟩ := cN h44
  exact ACall.spec2 (fn := Try.f42) (c := codeOf Try.f42) (S := ofL S42) (L := lofL L42) hS42 (by kernel_rfl) (by kernel_rfl) (inlOK _) (all_eq (by kernel_rfl : subsOf (E.info 42).keep (codeOf Try.f42) = [.loop (body Try.f42 4)]) (all_cons (loopOK_of (mk := 43000004) (sl := [1, 25, 26, 27]) (ss := [([1, 25, 26, 27], lsl42r4)]) (by kernel_rfl) (by kernel_rfl) (all_cons l42r4v (all_nil))) (all_nil))) (by kernel_rfl) h45.of
abbrev Sl28r3 : wS := [(42, none, sp42)]
theorem hSl28r3 : SpecOK E (ofL Sl28r3) := specOK_cons h42 (specOK_nil)
abbrev Ll28r3 : wL := [(29000008, [1, 3, 4, 6, 7, 8, 25, 26, 27, 34, 35, 36], none, lsl28r8)]
def lsl28r3 : LSp := fun vs σ K => asCons vs fun a1 r1 => asP (.ptr 2 0 []) a1 <| asCons r1 fun a2 r2 => asP (.ptr 3 0 []) a2 <| asCons r2 fun a3 r3 => asP (.ptr 5 0 []) a3 <| asCons r3 fun a4 r4 => asD (.sl w0) a4 fun s1 => asCons r4 fun a5 r5 => asD wI a5 fun s2 => asCons r5 fun a6 r6 => asD wI a6 fun s3 => asNil r6 <| asCons σ fun a7 r7 => asOne (.pair w1 (.pair (.opq .map) .unit)) a7 fun a8 => asAgL a8 fun l9 => asCons l9 fun a10 r10 => asD w1 a10 fun s4 => asCons r10 fun a11 r11 => asP (.mp 1) a11 <| asNil r11 <| asCons r7 fun a12 r12 => asKv w4 a12 fun s5 => asCons r12 fun a13 r13 => asOne (.opq .ptr) a13 fun a14 => asP (.ptr 0 0 []) a14 <| asCons r13 fun a15 r15 => asOne (.sl (.arr 2 (.int .u64))) a15 fun a16 => asP (.vec 4) a16 <| asCons r15 fun a17 r17 => asRw (.arr 2 (.int .u64)) false a17 fun s6 => asCons r17 fun a18 r18 => asOne (.arr 2 (.int .u64)) a18 fun a19 => asD (.arr 2 (.int .u64)) a19 fun s7 => asNil r18 <| l28r3 (fun z1 z2 z3 => K .ret [(2, I z1)] [.one (.pair w1 (.pair (.opq .map) .unit)) (.agg [.d w1 z2, .mp 1]), .kv w4 z3]) (fun z1 z2 => K (.exit 0) [(2, .undef)] [.one (.pair w1 (.pair (.opq .map) .unit)) (.agg [.d w1 z1, .mp 1]), .kv w4 z2]) s1 s2 s3 s4 s5 s6 s7
theorem l28r3v : LoopV E wF (E.info 28).keep 2 Try.f28.ntmps 29000003 (body Try.f28 3) ([1, 3, 4, 25, 26, 27], lsl28r3) := by
  intro vs σ K (h0 : lsl28r3 vs σ K)
  unfold lsl28r3 at h0
  obtain ⟨r1, rfl, h2⟩ := cP h0
  obtain ⟨r2, rfl, h4⟩ := cP h2
  obtain ⟨r3, rfl, h6⟩ := cP h4
  obtain ⟨s1, r4, rfl, h8⟩ := cD h6
  obtain ⟨s2, r5, rfl, h10⟩ := cD h8
  obtain ⟨s3, r6, rfl, h12⟩ := cD h10
  obtain ⟨rfl, h13⟩ := cN h12
  obtain ⟨a7, r7, rfl, h14⟩ := asCons_inv h13
  obtain ⟨a8, rfl, h15⟩ := asOne_inv h14
  obtain ⟨l9, rfl, h16⟩ := asAgL_inv h15
  obtain ⟨s4, r10, rfl, h18⟩ := cD h16
  obtain ⟨r11, rfl, h20⟩ := cP h18
  obtain ⟨rfl, h21⟩ := cN h20
  obtain ⟨a12, r12, rfl, h22⟩ := asCons_inv h21
  obtain ⟨s5, rfl, h23⟩ := asKv_inv h22
  obtain ⟨r13, rfl, h26⟩ := oP h23
  obtain ⟨r15, rfl, h29⟩ := oP h26
  obtain ⟨s6, r17, rfl, h31⟩ := cR h29
  obtain ⟨s7, r18, rfl, h34⟩ := oD h31
  obtain ⟨rfl, h35⟩ := cN h34
  intro J hJ
  have hp : ∀ c' ∈ subsOf (E.info 28).keep (body Try.f28 3), SubOK E wF (E.info 28).keep 2 Try.f28.ntmps (lofL Ll28r3) c' := all_eq (by kernel_rfl : subsOf (E.info 28).keep (body Try.f28 3) = [.loop (body Try.f28 8)]) (all_cons (loopOK_of (mk := 29000008) (sl := [1, 3, 4, 6, 7, 8, 25, 26, 27, 34, 35, 36]) (ss := [([1, 3, 4, 6, 7, 8, 25, 26, 27, 34, 35, 36], lsl28r8)]) (by kernel_rfl) (by kernel_rfl) (all_cons l28r8v (all_nil))) (all_nil))
  exact h35.of (fun s1 s2 s3 s4 s5 s6 s7 => J [(29000003, .undef), (1, .ptr 2 0 []), (3, .ptr 3 0 []), (4, .ptr 5 0 []), (25, .d (.sl w0) s1), (26, I s2), (27, I s3)] [.one (.pair w1 (.pair (.opq .map) .unit)) (.agg [.d w1 s4, .mp 1]), .kv w4 s5, .one (.opq .ptr) (.ptr 0 0 []), .one (.sl (.arr 2 (.int .u64))) (.vec 4), .row (.arr 2 (.int .u64)) s6 false, .one (.arr 2 (.int .u64)) (.d (.arr 2 (.int .u64)) s7)]) (fun s1 s2 s3 s4 s5 s6 s7 hb => loop_round2 (S := ofL Sl28r3) (L := lofL Ll28r3) hSl28r3 (inlOK _) hp hJ (by kernel_rfl) hb)
abbrev S28 : wS := [(39, none, sp39)]
theorem hS28 : SpecOK E (ofL S28) := specOK_cons h39 (specOK_nil)
abbrev L28 : wL := [(29000003, [1, 3, 4, 25, 26, 27], none, lsl28r3)]
def sp28 : Sp := fun args τ K => asCons args fun a1 r1 => asP (.ptr 0 0 []) a1 <| asNil r1 <| asCons τ fun a2 r2 => asOne (.pair w1 (.pair (.opq .map) .unit)) a2 fun a3 => asAgL a3 fun l4 => asCons l4 fun a5 r5 => asD w1 a5 fun x1 => asCons r5 fun a6 r6 => asP (.mp 1) a6 <| asNil r6 <| asCons r2 fun a7 r7 => asKv w4 a7 fun x2 => asNil r7 <| c28 x1 x2 (fun z1 z2 z3 => K (I z1) [.one (.pair w1 (.pair (.opq .map) .unit)) (.agg [.d w1 z2, .mp 1]), .kv w4 z3])
theorem h28 : ∀ args τ K, sp28 args τ K → ACall E 28 args τ K := by
  intro args τ K h0
  unfold sp28 at h0
  obtain ⟨r1, rfl, h2⟩ := cP h0
  obtain ⟨rfl, h3⟩ := cN h2
  obtain ⟨a2, r2, rfl, h4⟩ := asCons_inv h3
  obtain ⟨a3, rfl, h5⟩ := asOne_inv h4
  obtain ⟨l4, rfl, h6⟩ := asAgL_inv h5
  obtain ⟨x1, r5, rfl, h8⟩ := cD h6
  obtain ⟨r6, rfl, h10⟩ := cP h8
  obtain ⟨rfl, h11⟩ := cN h10
  obtain ⟨a7, r7, rfl, h12⟩ := asCons_inv h11
  obtain ⟨x2, rfl, h13⟩ := asKv_inv h12
  obtain ⟨rfl, h14⟩ := cN h13
  exact ACall.spec2 (fn := Try.f28) (c := codeOf Try.f28) (S := ofL S28) (L := lofL L28) hS28 (by kernel_rfl) (by kernel_rfl) (inlOK _) (all_eq (by kernel_rfl : subsOf (E.info 28).keep (codeOf Try.f28) = [.loop (body Try.f28 3)]) (all_cons (loopOK_of (mk := 29000003) (sl := [1, 3, 4, 25, 26, 27]) (ss := [([1, 3, 4, 25, 26, 27], lsl28r3)]) (by kernel_rfl) (by kernel_rfl) (all_cons l28r3v (all_nil))) (all_nil))) (by kernel_rfl) h14.of
abbrev S16 : wS := [(26, none, sp26), (28, none, sp28)]
theorem hS16 : SpecOK E (ofL S16) := specOK_cons h26 (specOK_cons h28 (specOK_nil))
abbrev L16 : wL := [(17000003, [1, 3, 10, 11, 12], none, lsl16r3), (17000015, [6, 56, 57], none, lsl16r15)]
def sp16 : Sp := fun args τ K => asCons args fun a1 r1 => asD w1 a1 fun x1 => asNil r1 <| asNil τ <| c16 x1 (fun z1 => K (I z1) [])
theorem h16 : ∀ args τ K, sp16 args τ K → ACall E 16 args τ K := by
  intro args τ K h0
  unfold sp16 at h0
  obtain ⟨x1, r1, rfl, h2⟩ := cD h0
  obtain ⟨rfl, h3⟩ := cN h2
  obtain ⟨rfl, h4⟩ := cN h3
  exact ACall.spec2 (fn := Try.f16) (c := codeOf Try.f16) (S := ofL S16) (L := lofL L16) hS16 (by kernel_rfl) (by kernel_rfl) (inlOK _) (all_eq (by kernel_rfl : subsOf (E.info 16).keep (codeOf Try.f16) = [.loop (body Try.f16 3), .loop (body Try.f16 15)]) (all_cons (loopOK_of (mk := 17000003) (sl := [1, 3, 10, 11, 12]) (ss := [([1, 3, 10, 11, 12], lsl16r3)]) (by kernel_rfl) (by kernel_rfl) (all_cons l16r3v (all_nil))) (all_cons (loopOK_of (mk := 17000015) (sl := [6, 56, 57]) (ss := [([6, 56, 57], lsl16r15)]) (by kernel_rfl) (by kernel_rfl) (all_cons l16r15v (all_nil))) (all_nil)))) (by kernel_rfl) h4.of
abbrev S19 : wS := []
theorem hS19 : SpecOK E (ofL S19) := specOK_nil
abbrev L19 : wL := []
def sp19 : Sp := fun args τ K => asCons args fun a1 r1 => asD wI a1 fun x1 => asCons r1 fun a2 r2 => asP (.ptr 0 0 []) a2 <| asNil r2 <| asCons τ fun a3 r3 => asOne (.sl wI) a3 fun a4 => asP (.vec 1) a4 <| asCons r3 fun a5 r5 => asRw wI false a5 fun x2 => asNil r5 <| c19 x1 x2 (fun z1 => K (.tup []) [.one (.sl wI) (.vec 2), .dead, .row wI z1 false])
theorem h19 : ∀ args τ K, sp19 args τ K → ACall E 19 args τ K := by
  intro args τ K h0
  unfold sp19 at h0
  obtain ⟨x1, r1, rfl, h2⟩ := cD h0
  obtain ⟨r2, rfl, h4⟩ := cP h2
  obtain ⟨rfl, h5⟩ := cN h4
  obtain ⟨r3, rfl, h8⟩ := oP h5
  obtain ⟨x2, r5, rfl, h10⟩ := cR h8
  obtain ⟨rfl, h11⟩ := cN h10
  exact ACall.spec2 (fn := Try.f19) (c := codeOf Try.f19) (S := ofL S19) (L := lofL L19) hS19 (by kernel_rfl) (by kernel_rfl) (inlOK _) (all_eq (by kernel_rfl : subsOf (E.info 19).keep (codeOf Try.f19) = []) (all_nil)) (by kernel_rfl) h11.of
abbrev Sl18r4 : wS := [(19, none, sp19)]
theorem hSl18r4 : SpecOK E (ofL Sl18r4) := specOK_cons h19 (specOK_nil)
abbrev Ll18r4 : wL := []
def lsl18r4 : LSp := fun vs σ K => asCons vs fun a1 r1 => asFn 19 a1 fun l2 l3 => asNil l2 <| asCons l3 fun a4 r4 => asP (.ptr 0 0 []) a4 <| asNil r4 <| asCons r1 fun a5 r5 => asP (.ptr 2 0 []) a5 <| asCons r5 fun a6 r6 => asP (.vec 3) a6 <| asCons r6 fun a7 r7 => asP (.vec 4) a7 <| asNil r7 <| asCons σ fun a8 r8 => asOne (.sl wI) a8 fun a9 => asP (.vec 1) a9 <| asCons r8 fun a10 r10 => asRw wI false a10 fun s1 => asCons r10 fun a11 r11 => asOne w1 a11 fun a12 => asD w1 a12 fun s2 => asCons r11 fun a13 r13 => asRw .bool false a13 fun s3 => asCons r13 fun a14 r14 => asRw w4 false a14 fun s4 => asNil r14 <| l18r4 (fun z1 => K (.exit 0) [] [.one (.sl wI) (.vec 1), .row wI z1 false]) (fun z1 => K (.exit 0) [] [.one (.sl wI) (.vec 2), .dead, .row wI z1 false]) s1 s2 s3 s4
theorem l18r4v : LoopV E wF (E.info 18).keep 2 Try.f18.ntmps 19000004 (body Try.f18 4) ([1, 2, 4, 5], lsl18r4) := by
  intro vs σ K (h0 : lsl18r4 vs σ K)
  unfold lsl18r4 at h0
  obtain ⟨a1, r1, rfl, h1⟩ := asCons_inv h0
  obtain ⟨l2, l3, rfl, h2⟩ := asFn_inv h1
  obtain ⟨rfl, h3⟩ := cN h2
  obtain ⟨r4, rfl, h5⟩ := cP h3
  obtain ⟨rfl, h6⟩ := cN h5
  obtain ⟨r5, rfl, h8⟩ := cP h6
  obtain ⟨r6, rfl, h10⟩ := cP h8
  obtain ⟨r7, rfl, h12⟩ := cP h10
  obtain ⟨rfl, h13⟩ := cN h12
  obtain ⟨r8, rfl, h16⟩ := oP h13
  obtain ⟨s1, r10, rfl, h18⟩ := cR h16
  obtain ⟨s2, r11, rfl, h21⟩ := oD h18
  obtain ⟨s3, r13, rfl, h23⟩ := cR h21
  obtain ⟨s4, r14, rfl, h25⟩ := cR h23
  obtain ⟨rfl, h26⟩ := cN h25
  intro J hJ
  have hp : ∀ c' ∈ subsOf (E.info 18).keep (body Try.f18 4), SubOK E wF (E.info 18).keep 2 Try.f18.ntmps (lofL Ll18r4) c' := all_eq (by kernel_rfl : subsOf (E.info 18).keep (body Try.f18 4) = []) (all_nil)
  exact h26.of (fun s1 s2 s3 s4 => J [(19000004, .undef), (1, .fn 19 [] [.ptr 0 0 []]), (2, .ptr 2 0 []), (4, .vec 3), (5, .vec 4)] [.one (.sl wI) (.vec 1), .row wI s1 false, .one w1 (.d w1 s2), .row .bool s3 false, .row w4 s4 false]) (fun s16 s17 s18 s19 s20 s21 s22 => J [(19000004, .undef), (1, .fn 19 [] [.ptr 0 0 []]), (2, .ptr 3 0 []), (4, .vec 4), (5, .sl 5 s16 s17 s18 false)] [.one (.sl wI) (.vec 2), .dead, .row wI s19 false, .one w1 (.d w1 s20), .row .bool s21 false, .row w4 s22 false]) (fun s34 s35 s36 s37 => J [(19000004, .undef), (1, .fn 19 [] [.ptr 0 0 []]), (2, .ptr 3 0 []), (4, .vec 4), (5, .vec 5)] [.one (.sl wI) (.vec 2), .dead, .row wI s34 false, .one w1 (.d w1 s35), .row .bool s36 false, .row w4 s37 false]) (fun s1 s2 s3 s4 hb => loop_round2 (S := ofL Sl18r4) (L := lofL Ll18r4) hSl18r4 (inlOK _) hp hJ (by kernel_rfl) hb) (fun s16 s17 s18 s19 s20 s21 s22 hb => loop_round2 (S := ofL Sl18r4) (L := lofL Ll18r4) hSl18r4 (inlOK _) hp hJ (by kernel_rfl) hb) (fun s34 s35 s36 s37 hb => loop_round2 (S := ofL Sl18r4) (L := lofL Ll18r4) hSl18r4 (inlOK _) hp hJ (by kernel_rfl) hb)
abbrev S18 : wS := []
theorem hS18 : SpecOK E (ofL S18) := specOK_nil
abbrev L18 : wL := [(19000004, [1, 2, 4, 5], none, lsl18r4)]
def sp18 : Sp := fun args τ K => asCons args fun a1 r1 => asD w1 a1 fun x1 => asCons r1 fun a2 r2 => asFn 19 a2 fun l3 l4 => asNil l3 <| asCons l4 fun a5 r5 => asP (.ptr 0 0 []) a5 <| asNil r5 <| asNil r2 <| asCons τ fun a6 r6 => asOne (.sl wI) a6 fun a7 => asP (.vec 1) a7 <| asCons r6 fun a8 r8 => asRw wI false a8 fun x2 => asNil r8 <| c18 x1 x2 (fun z1 => K (.tup []) [.one (.sl wI) (.vec 1), .row wI z1 false]) (fun z1 => K (.tup []) [.one (.sl wI) (.vec 2), .dead, .row wI z1 false])
theorem h18 : ∀ args τ K, sp18 args τ K → ACall E 18 args τ K := by
  intro args τ K h0
  unfold sp18 at h0
  obtain ⟨x1, r1, rfl, h2⟩ := cD h0
  obtain ⟨a2, r2, rfl, h3⟩ := asCons_inv h2
  obtain ⟨l3, l4, rfl, h4⟩ := asFn_inv h3
  obtain ⟨rfl, h5⟩ := cN h4
  obtain ⟨r5, rfl, h7⟩ := cP h5
  obtain ⟨rfl, h8⟩ := cN h7
  obtain ⟨rfl, h9⟩ := cN h8
  obtain ⟨r6, rfl, h12⟩ := oP h9
  obtain ⟨x2, r8, rfl, h14⟩ := cR h12
  obtain ⟨rfl, h15⟩ := cN h14
  exact ACall.spec2 (fn := Try.f18) (c := codeOf Try.f18) (S := ofL S18) (L := lofL L18) hS18 (by kernel_rfl) (by kernel_rfl) (inlOK _) (all_eq (by kernel_rfl : subsOf (E.info 18).keep (codeOf Try.f18) = [.loop (body Try.f18 4)]) (all_cons (loopOK_of (mk := 19000004) (sl := [1, 2, 4, 5]) (ss := [([1, 2, 4, 5], lsl18r4)]) (by kernel_rfl) (by kernel_rfl) (all_cons l18r4v (all_nil))) (all_nil))) (by kernel_rfl) h15.of
abbrev Sl20r1 : wS := []
theorem hSl20r1 : SpecOK E (ofL Sl20r1) := specOK_nil
abbrev Ll20r1 : wL := []
def lsl20r1 : LSp := fun vs σ K => asCons vs fun a1 r1 => asP (.vec 0) a1 <| asCons r1 fun a2 r2 => asD wI a2 fun s1 => asCons r2 fun a3 r3 => asD wI a3 fun s2 => asNil r3 <| asCons σ fun a4 r4 => asRw wI false a4 fun s3 => asNil r4 <| l20r1 (fun z1 => K (.exit 0) [] [.row wI z1 false]) s1 s2 s3
theorem l20r1v : LoopV E wF (E.info 20).keep 1 Try.f20.ntmps 21000001 (body Try.f20 1) ([0, 2, 3], lsl20r1) := by
  intro vs σ K (h0 : lsl20r1 vs σ K)
  unfold lsl20r1 at h0
  obtain ⟨r1, rfl, h2⟩ := cP h0
  obtain ⟨s1, r2, rfl, h4⟩ := cD h2
  obtain ⟨s2, r3, rfl, h6⟩ := cD h4
  obtain ⟨rfl, h7⟩ := cN h6
  obtain ⟨s3, r4, rfl, h9⟩ := cR h7
  obtain ⟨rfl, h10⟩ := cN h9
  intro J hJ
  have hp : ∀ c' ∈ subsOf (E.info 20).keep (body Try.f20 1), SubOK E wF (E.info 20).keep 1 Try.f20.ntmps (lofL Ll20r1) c' := all_eq (by kernel_rfl : subsOf (E.info 20).keep (body Try.f20 1) = []) (all_nil)
  exact h10.of (fun s1 s2 s3 => J [(21000001, .undef), (0, .vec 0), (2, I s1), (3, I s2)] [.row wI s3 false]) (fun s1 s2 s3 hb => loop_round2 (S := ofL Sl20r1) (L := lofL Ll20r1) hSl20r1 (inlOK _) hp hJ (by kernel_rfl) hb)
abbrev S20 : wS := []
theorem hS20 : SpecOK E (ofL S20) := specOK_nil
abbrev L20 : wL := [(21000001, [0, 2, 3], none, lsl20r1)]
def sp20 : Sp := fun args τ K => asCons args fun a1 r1 => asP (.vec 0) a1 <| asNil r1 <| asCons τ fun a2 r2 => asRw wI false a2 fun x1 => asNil r2 <| c20 x1 (fun z1 => K (.tup []) [.row wI z1 false])
theorem h20 : ∀ args τ K, sp20 args τ K → ACall E 20 args τ K := by
  intro args τ K h0
  unfold sp20 at h0
  obtain ⟨r1, rfl, h2⟩ := cP h0
  obtain ⟨rfl, h3⟩ := cN h2
  obtain ⟨x1, r2, rfl, h5⟩ := cR h3
  obtain ⟨rfl, h6⟩ := cN h5
  exact ACall.spec2 (fn := Try.f20) (c := codeOf Try.f20) (S := ofL S20) (L := lofL L20) hS20 (by kernel_rfl) (by kernel_rfl) (inlOK _) (all_eq (by kernel_rfl : subsOf (E.info 20).keep (codeOf Try.f20) = [.loop (body Try.f20 1)]) (all_cons (loopOK_of (mk := 21000001) (sl := [0, 2, 3]) (ss := [([0, 2, 3], lsl20r1)]) (by kernel_rfl) (by kernel_rfl) (all_cons l20r1v (all_nil))) (all_nil))) (by kernel_rfl) h6.of
abbrev S8 : wS := [(16, none, sp16), (18, none, sp18), (20, none, sp20)]
theorem hS8 : SpecOK E (ofL S8) := specOK_cons h16 (specOK_cons h18 (specOK_cons h20 (specOK_nil)))
abbrev L8 : wL := []
def sp8 : Sp := fun args τ K => asCons args fun a1 r1 => asD w1 a1 fun x1 => asNil r1 <| asNil τ <| c8 x1 (fun z1 z2 => K (.tup [.vec 0, I z1]) [.row wI z2 false])
theorem h8 : ∀ args τ K, sp8 args τ K → ACall E 8 args τ K := by
  intro args τ K h0
  unfold sp8 at h0
  obtain ⟨x1, r1, rfl, h2⟩ := cD h0
  obtain ⟨rfl, h3⟩ := cN h2
  obtain ⟨rfl, h4⟩ := cN h3
  exact ACall.spec2 (fn := Try.f8) (c := codeOf Try.f8) (S := ofL S8) (L := lofL L8) hS8 (by kernel_rfl) (by kernel_rfl) (inlOK _) (all_eq (by kernel_rfl : subsOf (E.info 8).keep (codeOf Try.f8) = []) (all_nil)) (by kernel_rfl) h4.of
abbrev Sl6r9 : wS := []
theorem hSl6r9 : SpecOK E (ofL Sl6r9) := specOK_nil
abbrev Ll6r9 : wL := []
def lsl6r9 : LSp := fun vs σ K => asCons vs fun a1 r1 => asP (.vec 0) a1 <| asCons r1 fun a2 r2 => asD wI a2 fun s1 => asCons r2 fun a3 r3 => asD (.sl w0) a3 fun s2 => asCons r3 fun a4 r4 => asD wI a4 fun s3 => asCons r4 fun a5 r5 => asD wI a5 fun s4 => asCons r5 fun a6 r6 => asD (.sl w2) a6 fun s5 => asCons r6 fun a7 r7 => asD wI a7 fun s6 => asCons r7 fun a8 r8 => asD wI a8 fun s7 => asNil r8 <| asCons σ fun a9 r9 => asDeep wI a9 fun s8 l10 => asNil l10 <| asNil r9 <| l6r9 (fun z1 z2 z3 z4 => K (.exit 2) [(5, .vec 0), (20, .d (.sl w0) z1), (21, I z2), (22, I z3)] [.deep wI z4 []]) s1 s2 s3 s4 s5 s6 s7 s8
theorem l6r9v : LoopV E wF (E.info 6).keep 0 Try.f6.ntmps 7000009 (body Try.f6 9) ([5, 6, 20, 21, 22, 29, 30, 31], lsl6r9) := by
  intro vs σ K (h0 : lsl6r9 vs σ K)
  unfold lsl6r9 at h0
  obtain ⟨r1, rfl, h2⟩ := cP h0
  obtain ⟨s1, r2, rfl, h4⟩ := cD h2
  obtain ⟨s2, r3, rfl, h6⟩ := cD h4
  obtain ⟨s3, r4, rfl, h8⟩ := cD h6
  obtain ⟨s4, r5, rfl, h10⟩ := cD h8
  obtain ⟨s5, r6, rfl, h12⟩ := cD h10
  obtain ⟨s6, r7, rfl, h14⟩ := cD h12
  obtain ⟨s7, r8, rfl, h16⟩ := cD h14
  obtain ⟨rfl, h17⟩ := cN h16
  obtain ⟨a9, r9, rfl, h18⟩ := asCons_inv h17
  obtain ⟨s8, l10, rfl, h19⟩ := asDeep_inv h18
  obtain ⟨rfl, h20⟩ := cN h19
  obtain ⟨rfl, h21⟩ := cN h20
  intro J hJ
  have hp : ∀ c' ∈ subsOf (E.info 6).keep (body Try.f6 9), SubOK E wF (E.info 6).keep 0 Try.f6.ntmps (lofL Ll6r9) c' := all_eq (by kernel_rfl : subsOf (E.info 6).keep (body Try.f6 9) = []) (all_nil)
  exact h21.of (fun s1 s2 s3 s4 s5 s6 s7 s8 => J [(7000009, .undef), (5, .vec 0), (6, I s1), (20, .d (.sl w0) s2), (21, I s3), (22, I s4), (29, .d (.sl w2) s5), (30, I s6), (31, I s7)] [.deep wI s8 []]) (fun s1 s2 s3 s4 s5 s6 s7 s8 hb => loop_round2 (S := ofL Sl6r9) (L := lofL Ll6r9) hSl6r9 (inlOK _) hp hJ (by kernel_rfl) hb)
abbrev Sl6r6 : wS := []
theorem hSl6r6 : SpecOK E (ofL Sl6r6) := specOK_nil
abbrev Ll6r6 : wL := [(7000009, [5, 6, 20, 21, 22, 29, 30, 31], none, lsl6r9)]
def lsl6r6 : LSp := fun vs σ K => asCons vs fun a1 r1 => asP (.vec 0) a1 <| asCons r1 fun a2 r2 => asD (.sl w0) a2 fun s1 => asCons r2 fun a3 r3 => asD wI a3 fun s2 => asCons r3 fun a4 r4 => asD wI a4 fun s3 => asNil r4 <| asCons σ fun a5 r5 => asDeep wI a5 fun s4 l6 => asNil l6 <| asNil r5 <| l6r6 (fun z1 => K (.exit 0) [(5, .vec 0)] [.deep wI z1 []]) s1 s2 s3 s4
theorem l6r6v : LoopV E wF (E.info 6).keep 0 Try.f6.ntmps 7000006 (body Try.f6 6) ([5, 20, 21, 22], lsl6r6) := by
  intro vs σ K (h0 : lsl6r6 vs σ K)
  unfold lsl6r6 at h0
  obtain ⟨r1, rfl, h2⟩ := cP h0
  obtain ⟨s1, r2, rfl, h4⟩ := cD h2
  obtain ⟨s2, r3, rfl, h6⟩ := cD h4
  obtain ⟨s3, r4, rfl, h8⟩ := cD h6
  obtain ⟨rfl, h9⟩ := cN h8
  obtain ⟨a5, r5, rfl, h10⟩ := asCons_inv h9
  obtain ⟨s4, l6, rfl, h11⟩ := asDeep_inv h10
  obtain ⟨rfl, h12⟩ := cN h11
  obtain ⟨rfl, h13⟩ := cN h12
  intro J hJ
  have hp : ∀ c' ∈ subsOf (E.info 6).keep (body Try.f6 6), SubOK E wF (E.info 6).keep 0 Try.f6.ntmps (lofL Ll6r6) c' := all_eq (by kernel_rfl : subsOf (E.info 6).keep (body Try.f6 6) = [.loop (body Try.f6 9)]) (all_cons (loopOK_of (mk := 7000009) (sl := [5, 6, 20, 21, 22, 29, 30, 31]) (ss := [([5, 6, 20, 21, 22, 29, 30, 31], lsl6r9)]) (by kernel_rfl) (by kernel_rfl) (all_cons l6r9v (all_nil))) (all_nil))
  exact h13.of (fun s1 s2 s3 s4 => J [(7000006, .undef), (5, .vec 0), (20, .d (.sl w0) s1), (21, I s2), (22, I s3)] [.deep wI s4 []]) (fun s1 s2 s3 s4 hb => loop_round2 (S := ofL Sl6r6) (L := lofL Ll6r6) hSl6r6 (inlOK _) hp hJ (by kernel_rfl) hb)
abbrev S6 : wS := [(16, none, sp16)]
theorem hS6 : SpecOK E (ofL S6) := specOK_cons h16 (specOK_nil)
abbrev L6 : wL := [(7000006, [5, 20, 21, 22], none, lsl6r6)]
def sp6 : Sp := fun args τ K => asCons args fun a1 r1 => asD w1 a1 fun x1 => asNil r1 <| asNil τ <| c6 x1 (fun z1 z2 => K (.tup [.vec 0, I z1]) [.deep wI z2 []])
theorem h6 : ∀ args τ K, sp6 args τ K → ACall E 6 args τ K := by
  intro args τ K h0
  unfold sp6 at h0
  obtain ⟨x1, r1, rfl, h2⟩ := cD h0
  obtain ⟨rfl, h3⟩ := cN h2
  obtain ⟨rfl, h4⟩ := cN h3
  exact ACall.spec2 (fn := Try.f6) (c := codeOf Try.f6) (S := ofL S6) (L := lofL L6) hS6 (by kernel_rfl) (by kernel_rfl) (inlOK _) (all_eq (by kernel_rfl : subsOf (E.info 6).keep (codeOf Try.f6) = [.loop (body Try.f6 6)]) (all_cons (loopOK_of (mk := 7000006) (sl := [5, 20, 21, 22]) (ss := [([5, 20, 21, 22], lsl6r6)]) (by kernel_rfl) (by kernel_rfl) (all_cons l6r6v (all_nil))) (all_nil))) (by kernel_rfl) h4.of
abbrev Sl11r4 : wS := []
theorem hSl11r4 : SpecOK E (ofL Sl11r4) := specOK_nil
abbrev Ll11r4 : wL := []
def lsl11r4 : LSp := fun vs σ K => asCons vs fun a1 r1 => asD (.sl wI) a1 fun s1 => asCons r1 fun a2 r2 => asD (.sl wI) a2 fun s2 => asCons r2 fun a3 r3 => asD wI a3 fun s3 => asCons r3 fun a4 r4 => asD wI a4 fun s4 => asNil r4 <| asNil σ <| l11r4 (fun z1 => K .ret [(4, B z1)] []) (K (.exit 0) [(4, .undef)] []) s1 s2 s3 s4
theorem l11r4v : LoopV E wF (E.info 11).keep 0 Try.f11.ntmps 12000004 (body Try.f11 4) ([1, 12, 13, 14], lsl11r4) := by
  intro vs σ K (h0 : lsl11r4 vs σ K)
  unfold lsl11r4 at h0
  obtain ⟨s1, r1, rfl, h2⟩ := cD h0
  obtain ⟨s2, r2, rfl, h4⟩ := cD h2
  obtain ⟨s3, r3, rfl, h6⟩ := cD h4
  obtain ⟨s4, r4, rfl, h8⟩ := cD h6
  obtain ⟨rfl, h9⟩ := cN h8
  obtain ⟨rfl, h10⟩ := cN h9
  intro J hJ
  have hp : ∀ c' ∈ subsOf (E.info 11).keep (body Try.f11 4), SubOK E wF (E.info 11).keep 0 Try.f11.ntmps (lofL Ll11r4) c' := all_eq (by kernel_rfl : subsOf (E.info 11).keep (body Try.f11 4) = []) (all_nil)
  exact h10.of (fun s1 s2 s3 s4 => J [(12000004, .undef), (1, .d (.sl wI) s1), (12, .d (.sl wI) s2), (13, I s3), (14, I s4)] []) (fun s1 s2 s3 s4 hb => loop_round2 (S := ofL Sl11r4) (L := lofL Ll11r4) hSl11r4 (inlOK _) hp hJ (by kernel_rfl) hb)
abbrev S11 : wS := []
theorem hS11 : SpecOK E (ofL S11) := specOK_nil
abbrev L11 : wL := [(12000004, [1, 12, 13, 14], none, lsl11r4)]
def sp11 : Sp := fun args τ K => asCons args fun a1 r1 => asD (.sl wI) a1 fun x1 => asCons r1 fun a2 r2 => asD (.sl wI) a2 fun x2 => asNil r2 <| asNil τ <| c11 x1 x2 (fun z1 => K (B z1) [])
theorem h11 : ∀ args τ K, sp11 args τ K → ACall E 11 args τ K := by
  intro args τ K h0
  unfold sp11 at h0
  obtain ⟨x1, r1, rfl, h2⟩ := cD h0
  obtain ⟨x2, r2, rfl, h4⟩ := cD h2
  obtain ⟨rfl, h5⟩ := cN h4
  obtain ⟨rfl, h6⟩ := cN h5
  exact ACall.spec2 (fn := Try.f11) (c := codeOf Try.f11) (S := ofL S11) (L := lofL L11) hS11 (by kernel_rfl) (by kernel_rfl) (inlOK _) (all_eq (by kernel_rfl : subsOf (E.info 11).keep (codeOf Try.f11) = [.loop (body Try.f11 4)]) (all_cons (loopOK_of (mk := 12000004) (sl := [1, 12, 13, 14]) (ss := [([1, 12, 13, 14], lsl11r4)]) (by kernel_rfl) (by kernel_rfl) (all_cons l11r4v (all_nil))) (all_nil))) (by kernel_rfl) h6.of
abbrev S4 : wS := [(14, none, sp14), (8, none, sp8), (6, none, sp6), (11, none, sp11)]
theorem hS4 : SpecOK E (ofL S4) := specOK_cons h14 (specOK_cons h8 (specOK_cons h6 (specOK_cons h11 (specOK_nil))))
abbrev L4 : wL := []
def sp4 : Sp := fun args τ K => asNil args <| asNil τ <| c4  (fun z1 => K (B z1) [])
theorem h4 : ∀ args τ K, sp4 args τ K → ACall E 4 args τ K := by
  intro args τ K h0
  unfold sp4 at h0
  obtain ⟨rfl, h1⟩ := cN h0
  obtain ⟨rfl, h2⟩ := cN h1
  exact ACall.spec2 (fn := Try.f4) (c := codeOf Try.f4) (S := ofL S4) (L := lofL L4) hS4 (by kernel_rfl) (by kernel_rfl) (inlOK _) (all_eq (by kernel_rfl : subsOf (E.info 4).keep (codeOf Try.f4) = []) (all_nil)) (by kernel_rfl) h2.of
abbrev Sl15r6 : wS := []
theorem hSl15r6 : SpecOK E (ofL Sl15r6) := specOK_nil
abbrev Ll15r6 : wL := []
def lsl15r6 : LSp := fun vs σ K => asCons vs fun a1 r1 => asD wI a1 fun s1 => asCons r1 fun a2 r2 => asP (.ptr 0 0 []) a2 <| asCons r2 fun a3 r3 => asD (.sl w0) a3 fun s2 => asCons r3 fun a4 r4 => asD wI a4 fun s3 => asCons r4 fun a5 r5 => asD wI a5 fun s4 => asCons r5 fun a6 r6 => asD (.sl wI) a6 fun s5 => asCons r6 fun a7 r7 => asD wI a7 fun s6 => asCons r7 fun a8 r8 => asD wI a8 fun s7 => asNil r8 <| asCons σ fun a9 r9 => asOne w0 a9 fun a10 => asD w0 a10 fun s8 => asNil r9 <| l15r6 (fun z1 z2 z3 z4 z5 => K (.exit 2) [(3, I z1), (5, .ptr 0 0 []), (11, .d (.sl w0) z2), (12, I z3), (13, I z4)] [.one w0 (.d w0 z5)]) s1 s2 s3 s4 s5 s6 s7 s8
theorem l15r6v : LoopV E wF (E.info 15).keep 0 Try.f15.ntmps 16000006 (body Try.f15 6) ([3, 5, 11, 12, 13, 18, 19, 20], lsl15r6) := by
  intro vs σ K (h0 : lsl15r6 vs σ K)
  unfold lsl15r6 at h0
  obtain ⟨s1, r1, rfl, h2⟩ := cD h0
  obtain ⟨r2, rfl, h4⟩ := cP h2
  obtain ⟨s2, r3, rfl, h6⟩ := cD h4
  obtain ⟨s3, r4, rfl, h8⟩ := cD h6
  obtain ⟨s4, r5, rfl, h10⟩ := cD h8
  obtain ⟨s5, r6, rfl, h12⟩ := cD h10
  obtain ⟨s6, r7, rfl, h14⟩ := cD h12
  obtain ⟨s7, r8, rfl, h16⟩ := cD h14
  obtain ⟨rfl, h17⟩ := cN h16
  obtain ⟨s8, r9, rfl, h20⟩ := oD h17
  obtain ⟨rfl, h21⟩ := cN h20
  intro J hJ
  have hp : ∀ c' ∈ subsOf (E.info 15).keep (body Try.f15 6), SubOK E wF (E.info 15).keep 0 Try.f15.ntmps (lofL Ll15r6) c' := all_eq (by kernel_rfl : subsOf (E.info 15).keep (body Try.f15 6) = []) (all_nil)
  exact h21.of (fun s1 s2 s3 s4 s5 s6 s7 s8 => J [(16000006, .undef), (3, I s1), (5, .ptr 0 0 []), (11, .d (.sl w0) s2), (12, I s3), (13, I s4), (18, .d (.sl wI) s5), (19, I s6), (20, I s7)] [.one w0 (.d w0 s8)]) (fun s1 s2 s3 s4 s5 s6 s7 s8 hb => loop_round2 (S := ofL Sl15r6) (L := lofL Ll15r6) hSl15r6 (inlOK _) hp hJ (by kernel_rfl) hb)
abbrev Sl15r11 : wS := []
theorem hSl15r11 : SpecOK E (ofL Sl15r11) := specOK_nil
abbrev Ll15r11 : wL := []
def lsl15r11 : LSp := fun vs σ K => asCons vs fun a1 r1 => asD wI a1 fun s1 => asCons r1 fun a2 r2 => asD (.sl w0) a2 fun s2 => asCons r2 fun a3 r3 => asD wI a3 fun s3 => asCons r3 fun a4 r4 => asD wI a4 fun s4 => asCons r4 fun a5 r5 => asD (.sl (.pair wI (.pair wI w2))) a5 fun s5 => asCons r5 fun a6 r6 => asD wI a6 fun s6 => asCons r6 fun a7 r7 => asD wI a7 fun s7 => asNil r7 <| asNil σ <| l15r11 (fun z1 z2 z3 z4 => K (.exit 4) [(3, I z1), (11, .d (.sl w0) z2), (12, I z3), (13, I z4)] []) s1 s2 s3 s4 s5 s6 s7
theorem l15r11v : LoopV E wF (E.info 15).keep 0 Try.f15.ntmps 16000011 (body Try.f15 11) ([3, 11, 12, 13, 30, 31, 32], lsl15r11) := by
  intro vs σ K (h0 : lsl15r11 vs σ K)
  unfold lsl15r11 at h0
  obtain ⟨s1, r1, rfl, h2⟩ := cD h0
  obtain ⟨s2, r2, rfl, h4⟩ := cD h2
  obtain ⟨s3, r3, rfl, h6⟩ := cD h4
  obtain ⟨s4, r4, rfl, h8⟩ := cD h6
  obtain ⟨s5, r5, rfl, h10⟩ := cD h8
  obtain ⟨s6, r6, rfl, h12⟩ := cD h10
  obtain ⟨s7, r7, rfl, h14⟩ := cD h12
  obtain ⟨rfl, h15⟩ := cN h14
  obtain ⟨rfl, h16⟩ := cN h15
  intro J hJ
  have hp : ∀ c' ∈ subsOf (E.info 15).keep (body Try.f15 11), SubOK E wF (E.info 15).keep 0 Try.f15.ntmps (lofL Ll15r11) c' := all_eq (by kernel_rfl : subsOf (E.info 15).keep (body Try.f15 11) = []) (all_nil)
  exact h16.of (fun s1 s2 s3 s4 s5 s6 s7 => J [(16000011, .undef), (3, I s1), (11, .d (.sl w0) s2), (12, I s3), (13, I s4), (30, .d (.sl (.pair wI (.pair wI w2))) s5), (31, I s6), (32, I s7)] []) (fun s1 s2 s3 s4 s5 s6 s7 hb => loop_round2 (S := ofL Sl15r11) (L := lofL Ll15r11) hSl15r11 (inlOK _) hp hJ (by kernel_rfl) hb)
abbrev Sl15r3 : wS := []
theorem hSl15r3 : SpecOK E (ofL Sl15r3) := specOK_nil
abbrev Ll15r3 : wL := [(16000006, [3, 5, 11, 12, 13, 18, 19, 20], none, lsl15r6), (16000011, [3, 11, 12, 13, 30, 31, 32], none, lsl15r11)]
def lsl15r3 : LSp := fun vs σ K => asCons vs fun a1 r1 => asD wI a1 fun s1 => asCons r1 fun a2 r2 => asD (.sl w0) a2 fun s2 => asCons r2 fun a3 r3 => asD wI a3 fun s3 => asCons r3 fun a4 r4 => asD wI a4 fun s4 => asNil r4 <| asNil σ <| l15r3 (fun z1 => K (.exit 0) [(3, I z1)] []) s1 s2 s3 s4
theorem l15r3v : LoopV E wF (E.info 15).keep 0 Try.f15.ntmps 16000003 (body Try.f15 3) ([3, 11, 12, 13], lsl15r3) := by
  intro vs σ K (h0 : lsl15r3 vs σ K)
  unfold lsl15r3 at h0
  obtain ⟨s1, r1, rfl, h2⟩ := cD h0
  obtain ⟨s2, r2, rfl, h4⟩ := cD h2
  obtain ⟨s3, r3, rfl, h6⟩ := cD h4
  obtain ⟨s4, r4, rfl, h8⟩ := cD h6
  obtain ⟨rfl, h9⟩ := cN h8
  obtain ⟨rfl, h10⟩ := cN h9
  intro J hJ
  have hp : ∀ c' ∈ subsOf (E.info 15).keep (body Try.f15 3), SubOK E wF (E.info 15).keep 0 Try.f15.ntmps (lofL Ll15r3) c' := all_eq (by kernel_rfl : subsOf (E.info 15).keep (body Try.f15 3) = [.loop (body Try.f15 6), .loop (body Try.f15 11)]) (all_cons (loopOK_of (mk := 16000006) (sl := [3, 5, 11, 12, 13, 18, 19, 20]) (ss := [([3, 5, 11, 12, 13, 18, 19, 20], lsl15r6)]) (by kernel_rfl) (by kernel_rfl) (all_cons l15r6v (all_nil))) (all_cons (loopOK_of (mk := 16000011) (sl := [3, 11, 12, 13, 30, 31, 32]) (ss := [([3, 11, 12, 13, 30, 31, 32], lsl15r11)]) (by kernel_rfl) (by kernel_rfl) (all_cons l15r11v (all_nil))) (all_nil)))
  exact h10.of (fun s1 s2 s3 s4 => J [(16000003, .undef), (3, I s1), (11, .d (.sl w0) s2), (12, I s3), (13, I s4)] []) (fun s1 s2 s3 s4 hb => loop_round2 (S := ofL Sl15r3) (L := lofL Ll15r3) hSl15r3 (inlOK _) hp hJ (by kernel_rfl) hb)
abbrev S15 : wS := []
theorem hS15 : SpecOK E (ofL S15) := specOK_nil
abbrev L15 : wL := [(16000003, [3, 11, 12, 13], none, lsl15r3)]
def sp15 : Sp := fun args τ K => asCons args fun a1 r1 => asD w1 a1 fun x1 => asNil r1 <| asNil τ <| c15 x1 (fun z1 => K (I z1) [])
theorem h15 : ∀ args τ K, sp15 args τ K → ACall E 15 args τ K := by
  intro args τ K h0
  unfold sp15 at h0
  obtain ⟨x1, r1, rfl, h2⟩ := cD h0
  obtain ⟨rfl, h3⟩ := cN h2
  obtain ⟨rfl, h4⟩ := cN h3
  exact ACall.spec2 (fn := Try.f15) (c := codeOf Try.f15) (S := ofL S15) (L := lofL L15) hS15 (by kernel_rfl) (by kernel_rfl) (inlOK _) (all_eq (by kernel_rfl : subsOf (E.info 15).keep (codeOf Try.f15) = [.loop (body Try.f15 3)]) (all_cons (loopOK_of (mk := 16000003) (sl := [3, 11, 12, 13]) (ss := [([3, 11, 12, 13], lsl15r3)]) (by kernel_rfl) (by kernel_rfl) (all_cons l15r3v (all_nil))) (all_nil))) (by kernel_rfl) h4.of
abbrev S5 : wS := [(15, none, sp15)]
theorem hS5 : SpecOK E (ofL S5) := specOK_cons h15 (specOK_nil)
abbrev L5 : wL := []
def sp5 : Sp := fun args τ K => asCons args fun a1 r1 => asD w1 a1 fun x1 => asNil r1 <| asNil τ <| c5 x1 (fun z1 => K (B z1) [])
theorem h5 : ∀ args τ K, sp5 args τ K → ACall E 5 args τ K := by
  intro args τ K h0
  unfold sp5 at h0
  obtain ⟨x1, r1, rfl, h2⟩ := cD h0
  obtain ⟨rfl, h3⟩ := cN h2
  obtain ⟨rfl, h4⟩ := cN h3
  exact ACall.spec2 (fn := Try.f5) (c := codeOf Try.f5) (S := ofL S5) (L := lofL L5) hS5 (by kernel_rfl) (by kernel_rfl) (inlOK _) (all_eq (by kernel_rfl : subsOf (E.info 5).keep (codeOf Try.f5) = []) (all_nil)) (by kernel_rfl) h4.of
abbrev S53 : wS := []
theorem hS53 : SpecOK E (ofL S53) := specOK_nil
abbrev L53 : wL := []
def sp53 : Sp := fun args τ K => asCons args fun a1 r1 => asD (.int .u64) a1 fun x1 => asNil r1 <| asNil τ <| c53 x1 (fun z1 => K (I z1) [])
theorem h53 : ∀ args τ K, sp53 args τ K → ACall E 53 args τ K := by
  intro args τ K h0
  unfold sp53 at h0
  obtain ⟨x1, r1, rfl, h2⟩ := cD h0
  obtain ⟨rfl, h3⟩ := cN h2
  obtain ⟨rfl, h4⟩ := cN h3
  exact ACall.spec2 (fn := Try.f53) (c := codeOf Try.f53) (S := ofL S53) (L := lofL L53) hS53 (by kernel_rfl) (by kernel_rfl) (inlOK _) (all_eq (by kernel_rfl : subsOf (E.info 53).keep (codeOf Try.f53) = []) (all_nil)) (by kernel_rfl) h4.of
abbrev S30 : wS := [(53, none, sp53)]
theorem hS30 : SpecOK E (ofL S30) := specOK_cons h53 (specOK_nil)
abbrev L30 : wL := []
def sp30 : Sp := fun args τ K => asCons args fun a1 r1 => asD (.int .u64) a1 fun x1 => asNil r1 <| asNil τ <| c30 x1 (fun z1 => K (I z1) [])
theorem h30 : ∀ args τ K, sp30 args τ K → ACall E 30 args τ K := by
  intro args τ K h0
  unfold sp30 at h0
  obtain ⟨x1, r1, rfl, h2⟩ := cD h0
  obtain ⟨rfl, h3⟩ := cN h2
  obtain ⟨rfl, h4⟩ := cN h3
  exact ACall.spec2 (fn := Try.f30) (c := codeOf Try.f30) (S := ofL S30) (L := lofL L30) hS30 (by kernel_rfl) (by kernel_rfl) (inlOK _) (all_eq (by kernel_rfl : subsOf (E.info 30).keep (codeOf Try.f30) = []) (all_nil)) (by kernel_rfl) h4.of
abbrev S68 : wS := []
theorem hS68 : SpecOK E (ofL S68) := specOK_nil
abbrev L68 : wL := []
def sp68 : Sp := fun args τ K => asCons args fun a1 r1 => asD wI a1 fun x1 => asNil r1 <| asNil τ <| c68 x1 (fun z1 => K (B z1) [])
theorem h68 : ∀ args τ K, sp68 args τ K → ACall E 68 args τ K := by
  intro args τ K h0
  unfold sp68 at h0
  obtain ⟨x1, r1, rfl, h2⟩ := cD h0
  obtain ⟨rfl, h3⟩ := cN h2
  obtain ⟨rfl, h4⟩ := cN h3
  exact ACall.spec2 (fn := Try.f68) (c := codeOf Try.f68) (S := ofL S68) (L := lofL L68) hS68 (by kernel_rfl) (by kernel_rfl) (inlOK _) (all_eq (by kernel_rfl : subsOf (E.info 68).keep (codeOf Try.f68) = []) (all_nil)) (by kernel_rfl) h4.of
abbrev S49 : wS := [(68, none, sp68)]
theorem hS49 : SpecOK E (ofL S49) := specOK_cons h68 (specOK_nil)
abbrev L49 : wL := []
def sp49 : Sp := fun args τ K => asCons args fun a1 r1 => asD wI a1 fun x1 => asCons r1 fun a2 r2 => asD wI a2 fun x2 => asNil r2 <| asNil τ <| c49 x1 x2 (fun z1 => K (B z1) [])
theorem h49 : ∀ args τ K, sp49 args τ K → ACall E 49 args τ K := by
  intro args τ K h0
  unfold sp49 at h0
  obtain ⟨x1, r1, rfl, h2⟩ := cD h0
  obtain ⟨x2, r2, rfl, h4⟩ := cD h2
  obtain ⟨rfl, h5⟩ := cN h4
  obtain ⟨rfl, h6⟩ := cN h5
  exact ACall.spec2 (fn := Try.f49) (c := codeOf Try.f49) (S := ofL S49) (L := lofL L49) hS49 (by kernel_rfl) (by kernel_rfl) (inlOK _) (all_eq (by kernel_rfl : subsOf (E.info 49).keep (codeOf Try.f49) = []) (all_nil)) (by kernel_rfl) h6.of
abbrev Sl43r4 : wS := [(49, none, sp49)]
theorem hSl43r4 : SpecOK E (ofL Sl43r4) := specOK_cons h49 (specOK_nil)
abbrev Ll43r4 : wL := []
def lsl43r4 : LSp := fun vs σ K => asCons vs fun a1 r1 => asP (.vec 0) a1 <| asCons r1 fun a2 r2 => asD wI a2 fun s1 => asCons r2 fun a3 r3 => asD wI a3 fun s2 => asCons r3 fun a4 r4 => asD wI a4 fun s3 => asCons r4 fun a5 r5 => asD wI a5 fun s4 => asNil r5 <| asCons σ fun a6 r6 => asRw wI false a6 fun s5 => asNil r6 <| l43r4 (fun z1 z2 z3 z4 => K (.exit 2) [(0, .vec 0), (1, I z1), (2, I z2), (6, I z3)] [.row wI z4 false]) s1 s2 s3 s4 s5
theorem l43r4v : LoopV E wF (E.info 43).keep 1 Try.f43.ntmps 44000004 (body Try.f43 4) ([0, 1, 2, 6, 7], lsl43r4) := by
  intro vs σ K (h0 : lsl43r4 vs σ K)
  unfold lsl43r4 at h0
  obtain ⟨r1, rfl, h2⟩ := cP h0
  obtain ⟨s1, r2, rfl, h4⟩ := cD h2
  obtain ⟨s2, r3, rfl, h6⟩ := cD h4
  obtain ⟨s3, r4, rfl, h8⟩ := cD h6
  obtain ⟨s4, r5, rfl, h10⟩ := cD h8
  obtain ⟨rfl, h11⟩ := cN h10
  obtain ⟨s5, r6, rfl, h13⟩ := cR h11
  obtain ⟨rfl, h14⟩ := cN h13
  intro J hJ
  have hp : ∀ c' ∈ subsOf (E.info 43).keep (body Try.f43 4), SubOK E wF (E.info 43).keep 1 Try.f43.ntmps (lofL Ll43r4) c' := all_eq (by kernel_rfl : subsOf (E.info 43).keep (body Try.f43 4) = []) (all_nil)
  exact h14.of (fun s1 s2 s3 s4 s5 => J [(44000004, .undef), (0, .vec 0), (1, I s1), (2, I s2), (6, I s3), (7, I s4)] [.row wI s5 false]) (fun s1 s2 s3 s4 s5 hb => loop_round2 (S := ofL Sl43r4) (L := lofL Ll43r4) hSl43r4 (inlOK _) hp hJ (by kernel_rfl) hb)
abbrev Sl43r1 : wS := []
theorem hSl43r1 : SpecOK E (ofL Sl43r1) := specOK_nil
abbrev Ll43r1 : wL := [(44000004, [0, 1, 2, 6, 7], none, lsl43r4)]
def lsl43r1 : LSp := fun vs σ K => asCons vs fun a1 r1 => asP (.vec 0) a1 <| asCons r1 fun a2 r2 => asD wI a2 fun s1 => asCons r2 fun a3 r3 => asD wI a3 fun s2 => asCons r3 fun a4 r4 => asD wI a4 fun s3 => asNil r4 <| asCons σ fun a5 r5 => asRw wI false a5 fun s4 => asNil r5 <| l43r1 (fun z1 => K (.exit 0) [] [.row wI z1 false]) s1 s2 s3 s4
theorem l43r1v : LoopV E wF (E.info 43).keep 1 Try.f43.ntmps 44000001 (body Try.f43 1) ([0, 1, 2, 6], lsl43r1) := by
  intro vs σ K (h0 : lsl43r1 vs σ K)
  unfold lsl43r1 at h0
  obtain ⟨r1, rfl, h2⟩ := cP h0
  obtain ⟨s1, r2, rfl, h4⟩ := cD h2
  obtain ⟨s2, r3, rfl, h6⟩ := cD h4
  obtain ⟨s3, r4, rfl, h8⟩ := cD h6
  obtain ⟨rfl, h9⟩ := cN h8
  obtain ⟨s4, r5, rfl, h11⟩ := cR h9
  obtain ⟨rfl, h12⟩ := cN h11
  intro J hJ
  have hp : ∀ c' ∈ subsOf (E.info 43).keep (body Try.f43 1), SubOK E wF (E.info 43).keep 1 Try.f43.ntmps (lofL Ll43r1) c' := all_eq (by kernel_rfl : subsOf (E.info 43).keep (body Try.f43 1) = [.loop (body Try.f43 4)]) (all_cons (loopOK_of (mk := 44000004) (sl := [0, 1, 2, 6, 7]) (ss := [([0, 1, 2, 6, 7], lsl43r4)]) (by kernel_rfl) (by kernel_rfl) (all_cons l43r4v (all_nil))) (all_nil))
  exact h12.of (fun s1 s2 s3 s4 => J [(44000001, .undef), (0, .vec 0), (1, I s1), (2, I s2), (6, I s3)] [.row wI s4 false]) (fun s1 s2 s3 s4 hb => loop_round2 (S := ofL Sl43r1) (L := lofL Ll43r1) hSl43r1 (inlOK _) hp hJ (by kernel_rfl) hb)
abbrev S43 : wS := []
theorem hS43 : SpecOK E (ofL S43) := specOK_nil
abbrev L43 : wL := [(44000001, [0, 1, 2, 6], none, lsl43r1)]
def sp43 : Sp := fun args τ K => asCons args fun a1 r1 => asP (.vec 0) a1 <| asCons r1 fun a2 r2 => asD wI a2 fun x1 => asCons r2 fun a3 r3 => asD wI a3 fun x2 => asNil r3 <| asCons τ fun a4 r4 => asRw wI false a4 fun x3 => asNil r4 <| c43 x1 x2 x3 (fun z1 => K (.tup []) [.row wI z1 false])
theorem h43 : ∀ args τ K, sp43 args τ K → ACall E 43 args τ K := by
  intro args τ K h0
  unfold sp43 at h0
  obtain ⟨r1, rfl, h2⟩ := cP h0
  obtain ⟨x1, r2, rfl, h4⟩ := cD h2
  obtain ⟨x2, r3, rfl, h6⟩ := cD h4
  obtain ⟨rfl, h7⟩ := cN h6
  obtain ⟨x3, r4, rfl, h9⟩ := cR h7
  obtain ⟨rfl, h10⟩ := cN h9
  exact ACall.spec2 (fn := Try.f43) (c := codeOf Try.f43) (S := ofL S43) (L := lofL L43) hS43 (by kernel_rfl) (by kernel_rfl) (inlOK _) (all_eq (by kernel_rfl : subsOf (E.info 43).keep (codeOf Try.f43) = [.loop (body Try.f43 1)]) (all_cons (loopOK_of (mk := 44000001) (sl := [0, 1, 2, 6]) (ss := [([0, 1, 2, 6], lsl43r1)]) (by kernel_rfl) (by kernel_rfl) (all_cons l43r1v (all_nil))) (all_nil))) (by kernel_rfl) h10.of
abbrev Sj29r10 : wS := []
theorem hSj29r10 : SpecOK E (ofL Sj29r10) := specOK_nil
abbrev Lj29r10 : wL := []
def lsj29r10 : LSp := fun vs σ K => asCons vs fun a1 r1 => asP (.vec 0) a1 <| asCons r1 fun a2 r2 => asD wI a2 fun s1 => asCons r2 fun a3 r3 => asD wI a3 fun s2 => asCons r3 fun a4 r4 => asD wI a4 fun s3 => asCons r4 fun a5 r5 => asD .bool a5 fun s4 => asCons r5 fun a6 r6 => asD .bool a6 fun s5 => asCons r6 fun a7 r7 => asD wI a7 fun s6 => asNil r7 <| asCons σ fun a8 r8 => asRw wI false a8 fun s7 => asNil r8 <| j29r10 s1 s2 s3 s4 s5 s6 s7
theorem j29r10v : JoinV E wF (E.info 29).keep 1 Try.f29.ntmps 30400010 4000010 (jbody Try.f29 4000010) ([0, 1, 2, 3, 8, 9, 10], lsj29r10) := by
  intro vs σ K (h0 : lsj29r10 vs σ K)
  unfold lsj29r10 at h0
  obtain ⟨r1, rfl, h2⟩ := cP h0
  obtain ⟨s1, r2, rfl, h4⟩ := cD h2
  obtain ⟨s2, r3, rfl, h6⟩ := cD h4
  obtain ⟨s3, r4, rfl, h8⟩ := cD h6
  obtain ⟨s4, r5, rfl, h10⟩ := cD h8
  obtain ⟨s5, r6, rfl, h12⟩ := cD h10
  obtain ⟨s6, r7, rfl, h14⟩ := cD h12
  obtain ⟨rfl, h15⟩ := cN h14
  obtain ⟨s7, r8, rfl, h17⟩ := cR h15
  obtain ⟨rfl, h18⟩ := cN h17
  exact join_round2 (S := ofL Sj29r10) (L := lofL Lj29r10) hSj29r10 (inlOK _) (all_eq (by kernel_rfl : subsOf (E.info 29).keep (jbody Try.f29 4000010) = [.join 4000015 (jbody Try.f29 4000015)]) (all_cons (joinOK_of (mk := 30400015) (sl := [0, 1, 2, 3, 8, 9, 10, 11, 12]) (ss := []) (by kernel_rfl) (by kernel_rfl) (all_nil)) (all_nil))) (by kernel_rfl) h18.of
abbrev Sl29r2 : wS := [(43, none, sp43)]
theorem hSl29r2 : SpecOK E (ofL Sl29r2) := specOK_cons h43 (specOK_nil)
abbrev Ll29r2 : wL := [(30400010, [0, 1, 2, 3, 8, 9, 10], none, lsj29r10)]
def lsl29r2 : LSp := fun vs σ K => asCons vs fun a1 r1 => asP (.vec 0) a1 <| asCons r1 fun a2 r2 => asD wI a2 fun s1 => asCons r2 fun a3 r3 => asD wI a3 fun s2 => asCons r3 fun a4 r4 => asD wI a4 fun s3 => asCons r4 fun a5 r5 => asD .bool a5 fun s4 => asCons r5 fun a6 r6 => asD .bool a6 fun s5 => asNil r6 <| asCons σ fun a7 r7 => asRw wI false a7 fun s6 => asNil r7 <| l29r2 (fun z1 => K .ret [] [.row wI z1 false]) s1 s2 s3 s4 s5 s6
theorem l29r2v : LoopV E wF (E.info 29).keep 1 Try.f29.ntmps 30000002 (body Try.f29 2) ([0, 1, 2, 3, 8, 9], lsl29r2) := by
  intro vs σ K (h0 : lsl29r2 vs σ K)
  unfold lsl29r2 at h0
  obtain ⟨r1, rfl, h2⟩ := cP h0
  obtain ⟨s1, r2, rfl, h4⟩ := cD h2
  obtain ⟨s2, r3, rfl, h6⟩ := cD h4
  obtain ⟨s3, r4, rfl, h8⟩ := cD h6
  obtain ⟨s4, r5, rfl, h10⟩ := cD h8
  obtain ⟨s5, r6, rfl, h12⟩ := cD h10
  obtain ⟨rfl, h13⟩ := cN h12
  obtain ⟨s6, r7, rfl, h15⟩ := cR h13
  obtain ⟨rfl, h16⟩ := cN h15
  intro J hJ
  have hp : ∀ c' ∈ subsOf (E.info 29).keep (body Try.f29 2), SubOK E wF (E.info 29).keep 1 Try.f29.ntmps (lofL Ll29r2) c' := all_eq (by kernel_rfl : subsOf (E.info 29).keep (body Try.f29 2) = [.join 4000010 (jbody Try.f29 4000010)]) (all_cons (joinOK_of (mk := 30400010) (sl := [0, 1, 2, 3, 8, 9, 10]) (ss := [([0, 1, 2, 3, 8, 9, 10], lsj29r10)]) (by kernel_rfl) (by kernel_rfl) (all_cons j29r10v (all_nil))) (all_nil))
  exact h16.of (fun s1 s2 s3 s4 s5 s6 => J [(30000002, .undef), (0, .vec 0), (1, I s1), (2, I s2), (3, I s3), (8, B s4), (9, B s5)] [.row wI s6 false]) (fun s1 s2 s3 s4 s5 s6 hb => loop_round2 (S := ofL Sl29r2) (L := lofL Ll29r2) hSl29r2 (inlOK _) hp hJ (by kernel_rfl) hb)
abbrev S29 : wS := []
theorem hS29 : SpecOK E (ofL S29) := specOK_nil
abbrev L29 : wL := [(30000002, [0, 1, 2, 3, 8, 9], none, lsl29r2)]
def sp29 : Sp := fun args τ K => asCons args fun a1 r1 => asP (.vec 0) a1 <| asCons r1 fun a2 r2 => asD wI a2 fun x1 => asCons r2 fun a3 r3 => asD wI a3 fun x2 => asCons r3 fun a4 r4 => asD wI a4 fun x3 => asNil r4 <| asCons τ fun a5 r5 => asRw wI false a5 fun x4 => asNil r5 <| c29 x1 x2 x3 x4 (fun z1 => K (.tup []) [.row wI z1 false])
theorem h29 : ∀ args τ K, sp29 args τ K → ACall E 29 args τ K := by
  intro args τ K h0
  unfold sp29 at h0
  obtain ⟨r1, rfl, h2⟩ := cP h0
  obtain ⟨x1, r2, rfl, h4⟩ := cD h2
  obtain ⟨x2, r3, rfl, h6⟩ := cD h4
  obtain ⟨x3, r4, rfl, h8⟩ := cD h6
  obtain ⟨rfl, h9⟩ := cN h8
  obtain ⟨x4, r5, rfl, h11⟩ := cR h9
  obtain ⟨rfl, h12⟩ := cN h11
  exact ACall.spec2 (fn := Try.f29) (c := codeOf Try.f29) (S := ofL S29) (L := lofL L29) hS29 (by kernel_rfl) (by kernel_rfl) (inlOK _) (all_eq (by kernel_rfl : subsOf (E.info 29).keep (codeOf Try.f29) = [.loop (body Try.f29 2)]) (all_cons (loopOK_of (mk := 30000002) (sl := [0, 1, 2, 3, 8, 9]) (ss := [([0, 1, 2, 3, 8, 9], lsl29r2)]) (by kernel_rfl) (by kernel_rfl) (all_cons l29r2v (all_nil))) (all_nil))) (by kernel_rfl) h12.of
abbrev S17 : wS := [(30, none, sp30), (29, none, sp29)]
theorem hS17 : SpecOK E (ofL S17) := specOK_cons h30 (specOK_cons h29 (specOK_nil))
abbrev L17 : wL := []
def sp17 : Sp := fun args τ K => asCons args fun a1 r1 => asP (.vec 0) a1 <| asNil r1 <| asCons τ fun a2 r2 => asRw wI false a2 fun x1 => asNil r2 <| c17 x1 (fun z1 => K (.tup []) [.row wI z1 false])
theorem h17 : ∀ args τ K, sp17 args τ K → ACall E 17 args τ K := by
  intro args τ K h0
  unfold sp17 at h0
  obtain ⟨r1, rfl, h2⟩ := cP h0
  obtain ⟨rfl, h3⟩ := cN h2
  obtain ⟨x1, r2, rfl, h5⟩ := cR h3
  obtain ⟨rfl, h6⟩ := cN h5
  exact ACall.spec2 (fn := Try.f17) (c := codeOf Try.f17) (S := ofL S17) (L := lofL L17) hS17 (by kernel_rfl) (by kernel_rfl) (inlOK _) (all_eq (by kernel_rfl : subsOf (E.info 17).keep (codeOf Try.f17) = []) (all_nil)) (by kernel_rfl) h6.of
abbrev S7 : wS := [(8, none, sp8), (17, none, sp17)]
theorem hS7 : SpecOK E (ofL S7) := specOK_cons h8 (specOK_cons h17 (specOK_nil))
abbrev L7 : wL := []
def sp7 : Sp := fun args τ K => asCons args fun a1 r1 => asD w1 a1 fun x1 => asNil r1 <| asNil τ <| c7 x1 (fun z1 z2 => K (.tup [.vec 0, I z1]) [.row wI z2 false])
theorem h7 : ∀ args τ K, sp7 args τ K → ACall E 7 args τ K := by
  intro args τ K h0
  unfold sp7 at h0
  obtain ⟨x1, r1, rfl, h2⟩ := cD h0
  obtain ⟨rfl, h3⟩ := cN h2
  obtain ⟨rfl, h4⟩ := cN h3
  exact ACall.spec2 (fn := Try.f7) (c := codeOf Try.f7) (S := ofL S7) (L := lofL L7) hS7 (by kernel_rfl) (by kernel_rfl) (inlOK _) (all_eq (by kernel_rfl : subsOf (E.info 7).keep (codeOf Try.f7) = []) (all_nil)) (by kernel_rfl) h4.of
abbrev Sl9r3 : wS := []
theorem hSl9r3 : SpecOK E (ofL Sl9r3) := specOK_nil
abbrev Ll9r3 : wL := []
def lsl9r3 : LSp := fun vs σ K => asCons vs fun a1 r1 => asP (.ptr 0 0 []) a1 <| asCons r1 fun a2 r2 => asD wI a2 fun s1 => asCons r2 fun a3 r3 => asD (.sl w0) a3 fun s2 => asCons r3 fun a4 r4 => asD wI a4 fun s3 => asCons r4 fun a5 r5 => asD wI a5 fun s4 => asNil r5 <| asCons σ fun a6 r6 => asOne w1 a6 fun a7 => asD w1 a7 fun s5 => asNil r6 <| l9r3 (fun z1 z2 => K (.exit 0) [(1, .ptr 0 0 []), (3, I z1)] [.one w1 (.d w1 z2)]) s1 s2 s3 s4 s5
theorem l9r3v : LoopV E wF (E.info 9).keep 0 Try.f9.ntmps 10000003 (body Try.f9 3) ([1, 3, 17, 18, 19], lsl9r3) := by
  intro vs σ K (h0 : lsl9r3 vs σ K)
  unfold lsl9r3 at h0
  obtain ⟨r1, rfl, h2⟩ := cP h0
  obtain ⟨s1, r2, rfl, h4⟩ := cD h2
  obtain ⟨s2, r3, rfl, h6⟩ := cD h4
  obtain ⟨s3, r4, rfl, h8⟩ := cD h6
  obtain ⟨s4, r5, rfl, h10⟩ := cD h8
  obtain ⟨rfl, h11⟩ := cN h10
  obtain ⟨s5, r6, rfl, h14⟩ := oD h11
  obtain ⟨rfl, h15⟩ := cN h14
  intro J hJ
  have hp : ∀ c' ∈ subsOf (E.info 9).keep (body Try.f9 3), SubOK E wF (E.info 9).keep 0 Try.f9.ntmps (lofL Ll9r3) c' := all_eq (by kernel_rfl : subsOf (E.info 9).keep (body Try.f9 3) = []) (all_nil)
  exact h15.of (fun s1 s2 s3 s4 s5 => J [(10000003, .undef), (1, .ptr 0 0 []), (3, I s1), (17, .d (.sl w0) s2), (18, I s3), (19, I s4)] [.one w1 (.d w1 s5)]) (fun s1 s2 s3 s4 s5 hb => loop_round2 (S := ofL Sl9r3) (L := lofL Ll9r3) hSl9r3 (inlOK _) hp hJ (by kernel_rfl) hb)
abbrev S21 : wS := []
theorem hS21 : SpecOK E (ofL S21) := specOK_nil
abbrev L21 : wL := []
def sp21 : Sp := fun args τ K => asCons args fun a1 r1 => asD wI a1 fun x1 => asCons r1 fun a2 r2 => asD wI a2 fun x2 => asCons r2 fun a3 r3 => asD wI a3 fun x3 => asNil r3 <| asNil τ <| c21 x1 x2 x3 (fun z1 => K (B z1) [])
theorem h21 : ∀ args τ K, sp21 args τ K → ACall E 21 args τ K := by
  intro args τ K h0
  unfold sp21 at h0
  obtain ⟨x1, r1, rfl, h2⟩ := cD h0
  obtain ⟨x2, r2, rfl, h4⟩ := cD h2
  obtain ⟨x3, r3, rfl, h6⟩ := cD h4
  obtain ⟨rfl, h7⟩ := cN h6
  obtain ⟨rfl, h8⟩ := cN h7
  exact ACall.spec2 (fn := Try.f21) (c := codeOf Try.f21) (S := ofL S21) (L := lofL L21) hS21 (by kernel_rfl) (by kernel_rfl) (inlOK _) (all_eq (by kernel_rfl : subsOf (E.info 21).keep (codeOf Try.f21) = []) (all_nil)) (by kernel_rfl) h8.of
abbrev Sl34r2 : wS := []
theorem hSl34r2 : SpecOK E (ofL Sl34r2) := specOK_nil
abbrev Ll34r2 : wL := []
def lsl34r2 : LSp := fun vs σ K => asCons vs fun a1 r1 => asD wI a1 fun s1 => asCons r1 fun a2 r2 => asD (.sl wI) a2 fun s2 => asCons r2 fun a3 r3 => asD wI a3 fun s3 => asCons r3 fun a4 r4 => asD wI a4 fun s4 => asNil r4 <| asNil σ <| l34r2 (fun z1 => K .ret [(4, B z1)] []) (K (.exit 0) [(4, .undef)] []) s1 s2 s3 s4
theorem l34r2v : LoopV E wF (E.info 34).keep 0 Try.f34.ntmps 35000002 (body Try.f34 2) ([1, 7, 8, 9], lsl34r2) := by
  intro vs σ K (h0 : lsl34r2 vs σ K)
  unfold lsl34r2 at h0
  obtain ⟨s1, r1, rfl, h2⟩ := cD h0
  obtain ⟨s2, r2, rfl, h4⟩ := cD h2
  obtain ⟨s3, r3, rfl, h6⟩ := cD h4
  obtain ⟨s4, r4, rfl, h8⟩ := cD h6
  obtain ⟨rfl, h9⟩ := cN h8
  obtain ⟨rfl, h10⟩ := cN h9
  intro J hJ
  have hp : ∀ c' ∈ subsOf (E.info 34).keep (body Try.f34 2), SubOK E wF (E.info 34).keep 0 Try.f34.ntmps (lofL Ll34r2) c' := all_eq (by kernel_rfl : subsOf (E.info 34).keep (body Try.f34 2) = []) (all_nil)
  exact h10.of (fun s1 s2 s3 s4 => J [(35000002, .undef), (1, I s1), (7, .d (.sl wI) s2), (8, I s3), (9, I s4)] []) (fun s1 s2 s3 s4 hb => loop_round2 (S := ofL Sl34r2) (L := lofL Ll34r2) hSl34r2 (inlOK _) hp hJ (by kernel_rfl) hb)
abbrev S34 : wS := []
theorem hS34 : SpecOK E (ofL S34) := specOK_nil
abbrev L34 : wL := [(35000002, [1, 7, 8, 9], none, lsl34r2)]
def sp34 : Sp := fun args τ K => asCons args fun a1 r1 => asD (.sl wI) a1 fun x1 => asCons r1 fun a2 r2 => asD wI a2 fun x2 => asNil r2 <| asNil τ <| c34 x1 x2 (fun z1 => K (B z1) [])
theorem h34 : ∀ args τ K, sp34 args τ K → ACall E 34 args τ K := by
  intro args τ K h0
  unfold sp34 at h0
  obtain ⟨x1, r1, rfl, h2⟩ := cD h0
  obtain ⟨x2, r2, rfl, h4⟩ := cD h2
  obtain ⟨rfl, h5⟩ := cN h4
  obtain ⟨rfl, h6⟩ := cN h5
  exact ACall.spec2 (fn := Try.f34) (c := codeOf Try.f34) (S := ofL S34) (L := lofL L34) hS34 (by kernel_rfl) (by kernel_rfl) (inlOK _) (all_eq (by kernel_rfl : subsOf (E.info 34).keep (codeOf Try.f34) = [.loop (body Try.f34 2)]) (all_cons (loopOK_of (mk := 35000002) (sl := [1, 7, 8, 9]) (ss := [([1, 7, 8, 9], lsl34r2)]) (by kernel_rfl) (by kernel_rfl) (all_cons l34r2v (all_nil))) (all_nil))) (by kernel_rfl) h6.of
abbrev S31 : wS := [(21, none, sp21), (34, none, sp34)]
theorem hS31 : SpecOK E (ofL S31) := specOK_cons h21 (specOK_cons h34 (specOK_nil))
abbrev L31 : wL := []
def sp31 : Sp := fun args τ K => asCons args fun a1 r1 => asD wI a1 fun x1 => asCons r1 fun a2 r2 => asD (.sl wI) a2 fun x2 => asNil r2 <| asNil τ <| c31 x1 x2 (fun z1 => K (I z1) [])
theorem h31 : ∀ args τ K, sp31 args τ K → ACall E 31 args τ K := by
  intro args τ K h0
  unfold sp31 at h0
  obtain ⟨x1, r1, rfl, h2⟩ := cD h0
  obtain ⟨x2, r2, rfl, h4⟩ := cD h2
  obtain ⟨rfl, h5⟩ := cN h4
  obtain ⟨rfl, h6⟩ := cN h5
  exact ACall.spec2 (fn := Try.f31) (c := codeOf Try.f31) (S := ofL S31) (L := lofL L31) hS31 (by kernel_rfl) (by kernel_rfl) (inlOK _) (all_eq (by kernel_rfl : subsOf (E.info 31).keep (codeOf Try.f31) = []) (all_nil)) (by kernel_rfl) h6.of
abbrev Sl22r6 : wS := [(31, none, sp31)]
theorem hSl22r6 : SpecOK E (ofL Sl22r6) := specOK_cons h31 (specOK_nil)
abbrev Ll22r6 : wL := []
def lsl22r6 : LSp := fun vs σ K => asCons vs fun a1 r1 => asP (.ptr 0 0 []) a1 <| asCons r1 fun a2 r2 => asP (.vec 1) a2 <| asCons r2 fun a3 r3 => asP (.ptr 2 0 []) a3 <| asCons r3 fun a4 r4 => asD (.sl w0) a4 fun s1 => asCons r4 fun a5 r5 => asD wI a5 fun s2 => asCons r5 fun a6 r6 => asD wI a6 fun s3 => asCons r6 fun a7 r7 => asD (.sl wI) a7 fun s4 => asCons r7 fun a8 r8 => asD wI a8 fun s5 => asCons r8 fun a9 r9 => asD wI a9 fun s6 => asNil r9 <| asCons σ fun a10 r10 => asOne w1 a10 fun a11 => asD w1 a11 fun s7 => asCons r10 fun a12 r12 => asRw wI false a12 fun s8 => asCons r12 fun a13 r13 => asOne w0 a13 fun a14 => asD w0 a14 fun s9 => asNil r13 <| l22r6 (fun z1 => K .ret [(1, .undef), (2, I z1), (3, .undef), (5, .undef), (15, .undef), (16, .undef), (17, .undef)] []) (fun z1 z2 z3 z4 z5 z6 => K (.exit 2) [(1, .ptr 0 0 []), (2, .undef), (3, .vec 1), (5, .ptr 2 0 []), (15, .d (.sl w0) z1), (16, I z2), (17, I z3)] [.one w1 (.d w1 z4), .row wI z5 false, .one w0 (.d w0 z6)]) s1 s2 s3 s4 s5 s6 s7 s8 s9
theorem l22r6v : LoopV E wF (E.info 22).keep 0 Try.f22.ntmps 23000006 (body Try.f22 6) ([1, 3, 5, 15, 16, 17, 22, 23, 24], lsl22r6) := by
  intro vs σ K (h0 : lsl22r6 vs σ K)
  unfold lsl22r6 at h0
  obtain ⟨r1, rfl, h2⟩ := cP h0
  obtain ⟨r2, rfl, h4⟩ := cP h2
  obtain ⟨r3, rfl, h6⟩ := cP h4
  obtain ⟨s1, r4, rfl, h8⟩ := cD h6
  obtain ⟨s2, r5, rfl, h10⟩ := cD h8
  obtain ⟨s3, r6, rfl, h12⟩ := cD h10
  obtain ⟨s4, r7, rfl, h14⟩ := cD h12
  obtain ⟨s5, r8, rfl, h16⟩ := cD h14
  obtain ⟨s6, r9, rfl, h18⟩ := cD h16
  obtain ⟨rfl, h19⟩ := cN h18
  obtain ⟨s7, r10, rfl, h22⟩ := oD h19
  obtain ⟨s8, r12, rfl, h24⟩ := cR h22
  obtain ⟨s9, r13, rfl, h27⟩ := oD h24
  obtain ⟨rfl, h28⟩ := cN h27
  intro J hJ
  have hp : ∀ c' ∈ subsOf (E.info 22).keep (body Try.f22 6), SubOK E wF (E.info 22).keep 0 Try.f22.ntmps (lofL Ll22r6) c' := all_eq (by kernel_rfl : subsOf (E.info 22).keep (body Try.f22 6) = []) (all_nil)
  exact h28.of (fun s1 s2 s3 s4 s5 s6 s7 s8 s9 => J [(23000006, .undef), (1, .ptr 0 0 []), (3, .vec 1), (5, .ptr 2 0 []), (15, .d (.sl w0) s1), (16, I s2), (17, I s3), (22, .d (.sl wI) s4), (23, I s5), (24, I s6)] [.one w1 (.d w1 s7), .row wI s8 false, .one w0 (.d w0 s9)]) (fun s1 s2 s3 s4 s5 s6 s7 s8 s9 hb => loop_round2 (S := ofL Sl22r6) (L := lofL Ll22r6) hSl22r6 (inlOK _) hp hJ (by kernel_rfl) hb)
abbrev S54 : wS := []
theorem hS54 : SpecOK E (ofL S54) := specOK_nil
abbrev L54 : wL := []
def sp54 : Sp := fun args τ K => asCons args fun a1 r1 => asD (.pair wI (.pair wI w2)) a1 fun x1 => asNil r1 <| asNil τ <| c54 x1 (fun z1 => K (I z1) [])
theorem h54 : ∀ args τ K, sp54 args τ K → ACall E 54 args τ K := by
  intro args τ K h0
  unfold sp54 at h0
  obtain ⟨x1, r1, rfl, h2⟩ := cD h0
  obtain ⟨rfl, h3⟩ := cN h2
  obtain ⟨rfl, h4⟩ := cN h3
  exact ACall.spec2 (fn := Try.f54) (c := codeOf Try.f54) (S := ofL S54) (L := lofL L54) hS54 (by kernel_rfl) (by kernel_rfl) (inlOK _) (all_eq (by kernel_rfl : subsOf (E.info 54).keep (codeOf Try.f54) = []) (all_nil)) (by kernel_rfl) h4.of
abbrev Sj32s4 : wS := []
theorem hSj32s4 : SpecOK E (ofL Sj32s4) := specOK_nil
abbrev Lj32s4 : wL := []
def lsj32s4 : LSp := fun vs σ K => asCons vs fun a1 r1 => asP (.ptr 0 0 []) a1 <| asCons r1 fun a2 r2 => asD .bool a2 fun s1 => asNil r2 <| asCons σ fun a3 r3 => asOne (.pair wI (.pair wI w2)) a3 fun a4 => asD (.pair wI (.pair wI w2)) a4 fun s2 => asNil r3 <| j32s4 (fun z1 => K .ret [(1, .undef), (2, I z1)] []) (fun z1 => K .normal [(1, .ptr 0 0 []), (2, .undef)] [.one (.pair wI (.pair wI w2)) (.d (.pair wI (.pair wI w2)) z1)]) s1 s2
theorem j32s4v : JoinV E wF (E.info 32).keep 0 Try.f32.ntmps 33500004 5000004 (jbody Try.f32 5000004) ([1, 60], lsj32s4) := by
  intro vs σ K (h0 : lsj32s4 vs σ K)
  unfold lsj32s4 at h0
  obtain ⟨r1, rfl, h2⟩ := cP h0
  obtain ⟨s1, r2, rfl, h4⟩ := cD h2
  obtain ⟨rfl, h5⟩ := cN h4
  obtain ⟨s2, r3, rfl, h8⟩ := oD h5
  obtain ⟨rfl, h9⟩ := cN h8
  exact join_round2 (S := ofL Sj32s4) (L := lofL Lj32s4) hSj32s4 (inlOK _) (all_eq (by kernel_rfl : subsOf (E.info 32).keep (jbody Try.f32 5000004) = []) (all_nil)) (by kernel_rfl) h9.of
abbrev S55 : wS := [(21, none, sp21)]
theorem hS55 : SpecOK E (ofL S55) := specOK_cons h21 (specOK_nil)
abbrev L55 : wL := []
def sp55 : Sp := fun args τ K => asCons args fun a1 r1 => asD wI a1 fun x1 => asNil r1 <| asNil τ <| c55 x1 (fun z1 => K (B z1) [])
theorem h55 : ∀ args τ K, sp55 args τ K → ACall E 55 args τ K := by
  intro args τ K h0
  unfold sp55 at h0
  obtain ⟨x1, r1, rfl, h2⟩ := cD h0
  obtain ⟨rfl, h3⟩ := cN h2
  obtain ⟨rfl, h4⟩ := cN h3
  exact ACall.spec2 (fn := Try.f55) (c := codeOf Try.f55) (S := ofL S55) (L := lofL L55) hS55 (by kernel_rfl) (by kernel_rfl) (inlOK _) (all_eq (by kernel_rfl : subsOf (E.info 55).keep (codeOf Try.f55) = []) (all_nil)) (by kernel_rfl) h4.of
abbrev Sj32r6 : wS := [(55, none, sp55), (21, none, sp21)]
theorem hSj32r6 : SpecOK E (ofL Sj32r6) := specOK_cons h55 (specOK_cons h21 (specOK_nil))
abbrev Lj32r6 : wL := []
def lsj32r6 : LSp := fun vs σ K => asCons vs fun a1 r1 => asP (.ptr 0 0 []) a1 <| asNil r1 <| asCons σ fun a2 r2 => asOne (.pair wI (.pair wI w2)) a2 fun a3 => asD (.pair wI (.pair wI w2)) a3 fun s1 => asNil r2 <| j32r6 (fun z1 => K .ret [(2, I z1)] []) s1
theorem j32r6v : JoinV E wF (E.info 32).keep 0 Try.f32.ntmps 33400006 4000006 (jbody Try.f32 4000006) ([1], lsj32r6) := by
  intro vs σ K (h0 : lsj32r6 vs σ K)
  unfold lsj32r6 at h0
  obtain ⟨r1, rfl, h2⟩ := cP h0
  obtain ⟨rfl, h3⟩ := cN h2
  obtain ⟨s1, r2, rfl, h6⟩ := oD h3
  obtain ⟨rfl, h7⟩ := cN h6
  exact join_round2 (S := ofL Sj32r6) (L := lofL Lj32r6) hSj32r6 (inlOK _) (all_eq (by kernel_rfl : subsOf (E.info 32).keep (jbody Try.f32 4000006) = []) (all_nil)) (by kernel_rfl) h7.of
abbrev Sj32r4 : wS := []
theorem hSj32r4 : SpecOK E (ofL Sj32r4) := specOK_nil
abbrev Lj32r4 : wL := [(33500004, [1, 60], none, lsj32s4), (33400006, [1], none, lsj32r6)]
def lsj32r4 : LSp := fun vs σ K => asCons vs fun a1 r1 => asP (.ptr 0 0 []) a1 <| asNil r1 <| asCons σ fun a2 r2 => asOne (.pair wI (.pair wI w2)) a2 fun a3 => asD (.pair wI (.pair wI w2)) a3 fun s1 => asNil r2 <| j32r4 (fun z1 => K .ret [(2, I z1)] []) s1
theorem j32r4v : JoinV E wF (E.info 32).keep 0 Try.f32.ntmps 33400004 4000004 (jbody Try.f32 4000004) ([1], lsj32r4) := by
  intro vs σ K (h0 : lsj32r4 vs σ K)
  unfold lsj32r4 at h0
  obtain ⟨r1, rfl, h2⟩ := cP h0
  obtain ⟨rfl, h3⟩ := cN h2
  obtain ⟨s1, r2, rfl, h6⟩ := oD h3
  obtain ⟨rfl, h7⟩ := cN h6
  exact join_round2 (S := ofL Sj32r4) (L := lofL Lj32r4) hSj32r4 (inlOK _) (all_eq (by kernel_rfl : subsOf (E.info 32).keep (jbody Try.f32 4000004) = [.join 4000006 (jbody Try.f32 4000006), .join 5000004 (jbody Try.f32 5000004)]) (all_cons (joinOK_of (mk := 33400006) (sl := [1]) (ss := [([1], lsj32r6)]) (by kernel_rfl) (by kernel_rfl) (all_cons j32r6v (all_nil))) (all_cons (joinOK_of (mk := 33500004) (sl := [1, 60]) (ss := [([1, 60], lsj32s4)]) (by kernel_rfl) (by kernel_rfl) (all_cons j32s4v (all_nil))) (all_nil)))) (by kernel_rfl) h7.of
abbrev S32 : wS := [(54, none, sp54)]
theorem hS32 : SpecOK E (ofL S32) := specOK_cons h54 (specOK_nil)
abbrev L32 : wL := [(33400004, [1], none, lsj32r4)]
def sp32 : Sp := fun args τ K => asCons args fun a1 r1 => asD (.pair wI (.pair wI w2)) a1 fun x1 => asNil r1 <| asNil τ <| c32 x1 (fun z1 => K (I z1) [])
theorem h32 : ∀ args τ K, sp32 args τ K → ACall E 32 args τ K := by
  intro args τ K h0
  unfold sp32 at h0
  obtain ⟨x1, r1, rfl, h2⟩ := cD h0
  obtain ⟨rfl, h3⟩ := cN h2
  obtain ⟨rfl, h4⟩ := cN h3
  exact ACall.spec2 (fn := Try.f32) (c := codeOf Try.f32) (S := ofL S32) (L := lofL L32) hS32 (by kernel_rfl) (by kernel_rfl) (inlOK _) (all_eq (by kernel_rfl : subsOf (E.info 32).keep (codeOf Try.f32) = [.join 4000004 (jbody Try.f32 4000004)]) (all_cons (joinOK_of (mk := 33400004) (sl := [1]) (ss := [([1], lsj32r4)]) (by kernel_rfl) (by kernel_rfl) (all_cons j32r4v (all_nil))) (all_nil))) (by kernel_rfl) h4.of
abbrev Sl22r14 : wS := [(31, none, sp31), (32, none, sp32)]
theorem hSl22r14 : SpecOK E (ofL Sl22r14) := specOK_cons h31 (specOK_cons h32 (specOK_nil))
abbrev Ll22r14 : wL := []
def lsl22r14 : LSp := fun vs σ K => asCons vs fun a1 r1 => asP (.ptr 0 0 []) a1 <| asCons r1 fun a2 r2 => asP (.vec 1) a2 <| asCons r2 fun a3 r3 => asP (.ptr 2 0 []) a3 <| asCons r3 fun a4 r4 => asD (.sl w0) a4 fun s1 => asCons r4 fun a5 r5 => asD wI a5 fun s2 => asCons r5 fun a6 r6 => asD wI a6 fun s3 => asCons r6 fun a7 r7 => asD (.sl (.pair wI (.pair wI w2))) a7 fun s4 => asCons r7 fun a8 r8 => asD wI a8 fun s5 => asCons r8 fun a9 r9 => asD wI a9 fun s6 => asNil r9 <| asCons σ fun a10 r10 => asOne w1 a10 fun a11 => asD w1 a11 fun s7 => asCons r10 fun a12 r12 => asRw wI false a12 fun s8 => asCons r12 fun a13 r13 => asOne w0 a13 fun a14 => asD w0 a14 fun s9 => asNil r13 <| l22r14 (fun z1 => K .ret [(1, .undef), (2, I z1), (3, .undef), (5, .undef), (15, .undef), (16, .undef), (17, .undef)] []) (fun z1 z2 z3 z4 z5 z6 => K (.exit 4) [(1, .ptr 0 0 []), (2, .undef), (3, .vec 1), (5, .ptr 2 0 []), (15, .d (.sl w0) z1), (16, I z2), (17, I z3)] [.one w1 (.d w1 z4), .row wI z5 false, .one w0 (.d w0 z6)]) s1 s2 s3 s4 s5 s6 s7 s8 s9
theorem l22r14v : LoopV E wF (E.info 22).keep 0 Try.f22.ntmps 23000014 (body Try.f22 14) ([1, 3, 5, 15, 16, 17, 40, 41, 42], lsl22r14) := by
  intro vs σ K (h0 : lsl22r14 vs σ K)
  unfold lsl22r14 at h0
  obtain ⟨r1, rfl, h2⟩ := cP h0
  obtain ⟨r2, rfl, h4⟩ := cP h2
  obtain ⟨r3, rfl, h6⟩ := cP h4
  obtain ⟨s1, r4, rfl, h8⟩ := cD h6
  obtain ⟨s2, r5, rfl, h10⟩ := cD h8
  obtain ⟨s3, r6, rfl, h12⟩ := cD h10
  obtain ⟨s4, r7, rfl, h14⟩ := cD h12
  obtain ⟨s5, r8, rfl, h16⟩ := cD h14
  obtain ⟨s6, r9, rfl, h18⟩ := cD h16
  obtain ⟨rfl, h19⟩ := cN h18
  obtain ⟨s7, r10, rfl, h22⟩ := oD h19
  obtain ⟨s8, r12, rfl, h24⟩ := cR h22
  obtain ⟨s9, r13, rfl, h27⟩ := oD h24
  obtain ⟨rfl, h28⟩ := cN h27
  intro J hJ
  have hp : ∀ c' ∈ subsOf (E.info 22).keep (body Try.f22 14), SubOK E wF (E.info 22).keep 0 Try.f22.ntmps (lofL Ll22r14) c' := all_eq (by kernel_rfl : subsOf (E.info 22).keep (body Try.f22 14) = []) (all_nil)
  exact h28.of (fun s1 s2 s3 s4 s5 s6 s7 s8 s9 => J [(23000014, .undef), (1, .ptr 0 0 []), (3, .vec 1), (5, .ptr 2 0 []), (15, .d (.sl w0) s1), (16, I s2), (17, I s3), (40, .d (.sl (.pair wI (.pair wI w2))) s4), (41, I s5), (42, I s6)] [.one w1 (.d w1 s7), .row wI s8 false, .one w0 (.d w0 s9)]) (fun s1 s2 s3 s4 s5 s6 s7 s8 s9 hb => loop_round2 (S := ofL Sl22r14) (L := lofL Ll22r14) hSl22r14 (inlOK _) hp hJ (by kernel_rfl) hb)
abbrev Sj33s4 : wS := []
theorem hSj33s4 : SpecOK E (ofL Sj33s4) := specOK_nil
abbrev Lj33s4 : wL := []
def lsj33s4 : LSp := fun vs σ K => asCons vs fun a1 r1 => asP (.ptr 0 0 []) a1 <| asCons r1 fun a2 r2 => asP (.ptr 1 0 []) a2 <| asCons r2 fun a3 r3 => asD .bool a3 fun s1 => asNil r3 <| asCons σ fun a4 r4 => asOne w1 a4 fun a5 => asD w1 a5 fun s2 => asCons r4 fun a6 r6 => asOne w3 a6 fun a7 => asD w3 a7 fun s3 => asNil r6 <| j33s4 (fun z1 => K .ret [(2, .undef), (3, .undef), (4, I z1)] []) (fun z1 z2 => K .normal [(2, .ptr 0 0 []), (3, .ptr 1 0 []), (4, .undef)] [.one w1 (.d w1 z1), .one w3 (.d w3 z2)]) s1 s2 s3
theorem j33s4v : JoinV E wF (E.info 33).keep 0 Try.f33.ntmps 34500004 5000004 (jbody Try.f33 5000004) ([2, 3, 63], lsj33s4) := by
  intro vs σ K (h0 : lsj33s4 vs σ K)
  unfold lsj33s4 at h0
  obtain ⟨r1, rfl, h2⟩ := cP h0
  obtain ⟨r2, rfl, h4⟩ := cP h2
  obtain ⟨s1, r3, rfl, h6⟩ := cD h4
  obtain ⟨rfl, h7⟩ := cN h6
  obtain ⟨s2, r4, rfl, h10⟩ := oD h7
  obtain ⟨s3, r6, rfl, h13⟩ := oD h10
  obtain ⟨rfl, h14⟩ := cN h13
  exact join_round2 (S := ofL Sj33s4) (L := lofL Lj33s4) hSj33s4 (inlOK _) (all_eq (by kernel_rfl : subsOf (E.info 33).keep (jbody Try.f33 5000004) = []) (all_nil)) (by kernel_rfl) h14.of
abbrev Sl33r11 : wS := [(55, none, sp55), (34, none, sp34)]
theorem hSl33r11 : SpecOK E (ofL Sl33r11) := specOK_cons h55 (specOK_cons h34 (specOK_nil))
abbrev Ll33r11 : wL := []
def lsl33r11 : LSp := fun vs σ K => asCons vs fun a1 r1 => asP (.ptr 0 0 []) a1 <| asCons r1 fun a2 r2 => asP (.ptr 1 0 []) a2 <| asCons r2 fun a3 r3 => asD (.sl wI) a3 fun s1 => asCons r3 fun a4 r4 => asD wI a4 fun s2 => asCons r4 fun a5 r5 => asD wI a5 fun s3 => asNil r5 <| asCons σ fun a6 r6 => asOne w1 a6 fun a7 => asD w1 a7 fun s4 => asCons r6 fun a8 r8 => asOne w3 a8 fun a9 => asD w3 a9 fun s5 => asNil r8 <| l33r11 (fun z1 => K .ret [(2, .undef), (3, .undef), (4, I z1)] []) (fun z1 z2 => K (.exit 0) [(2, .ptr 0 0 []), (3, .ptr 1 0 []), (4, .undef)] [.one w1 (.d w1 z1), .one w3 (.d w3 z2)]) s1 s2 s3 s4 s5
theorem l33r11v : LoopV E wF (E.info 33).keep 0 Try.f33.ntmps 34000011 (body Try.f33 11) ([2, 3, 78, 79, 80], lsl33r11) := by
  intro vs σ K (h0 : lsl33r11 vs σ K)
  unfold lsl33r11 at h0
  obtain ⟨r1, rfl, h2⟩ := cP h0
  obtain ⟨r2, rfl, h4⟩ := cP h2
  obtain ⟨s1, r3, rfl, h6⟩ := cD h4
  obtain ⟨s2, r4, rfl, h8⟩ := cD h6
  obtain ⟨s3, r5, rfl, h10⟩ := cD h8
  obtain ⟨rfl, h11⟩ := cN h10
  obtain ⟨s4, r6, rfl, h14⟩ := oD h11
  obtain ⟨s5, r8, rfl, h17⟩ := oD h14
  obtain ⟨rfl, h18⟩ := cN h17
  intro J hJ
  have hp : ∀ c' ∈ subsOf (E.info 33).keep (body Try.f33 11), SubOK E wF (E.info 33).keep 0 Try.f33.ntmps (lofL Ll33r11) c' := all_eq (by kernel_rfl : subsOf (E.info 33).keep (body Try.f33 11) = []) (all_nil)
  exact h18.of (fun s1 s2 s3 s4 s5 => J [(34000011, .undef), (2, .ptr 0 0 []), (3, .ptr 1 0 []), (78, .d (.sl wI) s1), (79, I s2), (80, I s3)] [.one w1 (.d w1 s4), .one w3 (.d w3 s5)]) (fun s1 s2 s3 s4 s5 hb => loop_round2 (S := ofL Sl33r11) (L := lofL Ll33r11) hSl33r11 (inlOK _) hp hJ (by kernel_rfl) hb)
abbrev Sl33r19 : wS := [(21, none, sp21)]
theorem hSl33r19 : SpecOK E (ofL Sl33r19) := specOK_cons h21 (specOK_nil)
abbrev Ll33r19 : wL := []
def lsl33r19 : LSp := fun vs σ K => asCons vs fun a1 r1 => asP (.ptr 0 0 []) a1 <| asCons r1 fun a2 r2 => asD (.sl w2) a2 fun s1 => asCons r2 fun a3 r3 => asD wI a3 fun s2 => asCons r3 fun a4 r4 => asD wI a4 fun s3 => asNil r4 <| asCons σ fun a5 r5 => asOne w1 a5 fun a6 => asD w1 a6 fun s4 => asNil r5 <| l33r19 (fun z1 => K .ret [(4, I z1)] []) (K (.exit 2) [(4, .undef)] []) s1 s2 s3 s4
theorem l33r19v : LoopV E wF (E.info 33).keep 0 Try.f33.ntmps 34000019 (body Try.f33 19) ([2, 96, 97, 98], lsl33r19) := by
  intro vs σ K (h0 : lsl33r19 vs σ K)
  unfold lsl33r19 at h0
  obtain ⟨r1, rfl, h2⟩ := cP h0
  obtain ⟨s1, r2, rfl, h4⟩ := cD h2
  obtain ⟨s2, r3, rfl, h6⟩ := cD h4
  obtain ⟨s3, r4, rfl, h8⟩ := cD h6
  obtain ⟨rfl, h9⟩ := cN h8
  obtain ⟨s4, r5, rfl, h12⟩ := oD h9
  obtain ⟨rfl, h13⟩ := cN h12
  intro J hJ
  have hp : ∀ c' ∈ subsOf (E.info 33).keep (body Try.f33 19), SubOK E wF (E.info 33).keep 0 Try.f33.ntmps (lofL Ll33r19) c' := all_eq (by kernel_rfl : subsOf (E.info 33).keep (body Try.f33 19) = []) (all_nil)
  exact h13.of (fun s1 s2 s3 s4 => J [(34000019, .undef), (2, .ptr 0 0 []), (96, .d (.sl w2) s1), (97, I s2), (98, I s3)] [.one w1 (.d w1 s4)]) (fun s1 s2 s3 s4 hb => loop_round2 (S := ofL Sl33r19) (L := lofL Ll33r19) hSl33r19 (inlOK _) hp hJ (by kernel_rfl) hb)
abbrev Sj33r6 : wS := [(21, none, sp21)]
theorem hSj33r6 : SpecOK E (ofL Sj33r6) := specOK_cons h21 (specOK_nil)
abbrev Lj33r6 : wL := [(34000011, [2, 3, 78, 79, 80], none, lsl33r11), (34000019, [2, 96, 97, 98], none, lsl33r19)]
def lsj33r6 : LSp := fun vs σ K => asCons vs fun a1 r1 => asP (.ptr 0 0 []) a1 <| asCons r1 fun a2 r2 => asP (.ptr 1 0 []) a2 <| asNil r2 <| asCons σ fun a3 r3 => asOne w1 a3 fun a4 => asD w1 a4 fun s1 => asCons r3 fun a5 r5 => asOne w3 a5 fun a6 => asD w3 a6 fun s2 => asNil r5 <| j33r6 (fun z1 => K .ret [(4, I z1)] []) s1 s2
theorem j33r6v : JoinV E wF (E.info 33).keep 0 Try.f33.ntmps 34400006 4000006 (jbody Try.f33 4000006) ([2, 3], lsj33r6) := by
  intro vs σ K (h0 : lsj33r6 vs σ K)
  unfold lsj33r6 at h0
  obtain ⟨r1, rfl, h2⟩ := cP h0
  obtain ⟨r2, rfl, h4⟩ := cP h2
  obtain ⟨rfl, h5⟩ := cN h4
  obtain ⟨s1, r3, rfl, h8⟩ := oD h5
  obtain ⟨s2, r5, rfl, h11⟩ := oD h8
  obtain ⟨rfl, h12⟩ := cN h11
  exact join_round2 (S := ofL Sj33r6) (L := lofL Lj33r6) hSj33r6 (inlOK _) (all_eq (by kernel_rfl : subsOf (E.info 33).keep (jbody Try.f33 4000006) = [.loop (body Try.f33 11), .loop (body Try.f33 19)]) (all_cons (loopOK_of (mk := 34000011) (sl := [2, 3, 78, 79, 80]) (ss := [([2, 3, 78, 79, 80], lsl33r11)]) (by kernel_rfl) (by kernel_rfl) (all_cons l33r11v (all_nil))) (all_cons (loopOK_of (mk := 34000019) (sl := [2, 96, 97, 98]) (ss := [([2, 96, 97, 98], lsl33r19)]) (by kernel_rfl) (by kernel_rfl) (all_cons l33r19v (all_nil))) (all_nil)))) (by kernel_rfl) h12.of
abbrev S33 : wS := [(21, none, sp21)]
theorem hS33 : SpecOK E (ofL S33) := specOK_cons h21 (specOK_nil)
abbrev L33 : wL := [(34500004, [2, 3, 63], none, lsj33s4), (34400006, [2, 3], none, lsj33r6)]
def sp33 : Sp := fun args τ K => asCons args fun a1 r1 => asD w1 a1 fun x1 => asCons r1 fun a2 r2 => asD w3 a2 fun x2 => asNil r2 <| asNil τ <| c33 x1 x2 (fun z1 => K (I z1) [])
theorem h33 : ∀ args τ K, sp33 args τ K → ACall E 33 args τ K := by
  intro args τ K h0
  unfold sp33 at h0
  obtain ⟨x1, r1, rfl, h2⟩ := cD h0
  obtain ⟨x2, r2, rfl, h4⟩ := cD h2
  obtain ⟨rfl, h5⟩ := cN h4
  obtain ⟨rfl, h6⟩ := cN h5
  exact ACall.spec2 (fn := Try.f33) (c := codeOf Try.f33) (S := ofL S33) (L := lofL L33) hS33 (by kernel_rfl) (by kernel_rfl) (inlOK _) (all_eq (by kernel_rfl : subsOf (E.info 33).keep (codeOf Try.f33) = [.join 4000006 (jbody Try.f33 4000006), .join 5000004 (jbody Try.f33 5000004)]) (all_cons (joinOK_of (mk := 34400006) (sl := [2, 3]) (ss := [([2, 3], lsj33r6)]) (by kernel_rfl) (by kernel_rfl) (all_cons j33r6v (all_nil))) (all_cons (joinOK_of (mk := 34500004) (sl := [2, 3, 63]) (ss := [([2, 3, 63], lsj33s4)]) (by kernel_rfl) (by kernel_rfl) (all_cons j33s4v (all_nil))) (all_nil)))) (by kernel_rfl) h6.of
abbrev Sl22r3 : wS := [(33, none, sp33)]
theorem hSl22r3 : SpecOK E (ofL Sl22r3) := specOK_cons h33 (specOK_nil)
abbrev Ll22r3 : wL := [(23000006, [1, 3, 5, 15, 16, 17, 22, 23, 24], none, lsl22r6), (23000014, [1, 3, 5, 15, 16, 17, 40, 41, 42], none, lsl22r14)]
def lsl22r3 : LSp := fun vs σ K => asCons vs fun a1 r1 => asP (.ptr 0 0 []) a1 <| asCons r1 fun a2 r2 => asP (.vec 1) a2 <| asCons r2 fun a3 r3 => asD (.sl w0) a3 fun s1 => asCons r3 fun a4 r4 => asD wI a4 fun s2 => asCons r4 fun a5 r5 => asD wI a5 fun s3 => asNil r5 <| asCons σ fun a6 r6 => asOne w1 a6 fun a7 => asD w1 a7 fun s4 => asCons r6 fun a8 r8 => asRw wI false a8 fun s5 => asNil r8 <| l22r3 (fun z1 => K .ret [(2, I z1)] []) (K (.exit 0) [(2, .undef)] []) s1 s2 s3 s4 s5
theorem l22r3v : LoopV E wF (E.info 22).keep 0 Try.f22.ntmps 23000003 (body Try.f22 3) ([1, 3, 15, 16, 17], lsl22r3) := by
  intro vs σ K (h0 : lsl22r3 vs σ K)
  unfold lsl22r3 at h0
  obtain ⟨r1, rfl, h2⟩ := cP h0
  obtain ⟨r2, rfl, h4⟩ := cP h2
  obtain ⟨s1, r3, rfl, h6⟩ := cD h4
  obtain ⟨s2, r4, rfl, h8⟩ := cD h6
  obtain ⟨s3, r5, rfl, h10⟩ := cD h8
  obtain ⟨rfl, h11⟩ := cN h10
  obtain ⟨s4, r6, rfl, h14⟩ := oD h11
  obtain ⟨s5, r8, rfl, h16⟩ := cR h14
  obtain ⟨rfl, h17⟩ := cN h16
  intro J hJ
  have hp : ∀ c' ∈ subsOf (E.info 22).keep (body Try.f22 3), SubOK E wF (E.info 22).keep 0 Try.f22.ntmps (lofL Ll22r3) c' := all_eq (by kernel_rfl : subsOf (E.info 22).keep (body Try.f22 3) = [.loop (body Try.f22 6), .loop (body Try.f22 14)]) (all_cons (loopOK_of (mk := 23000006) (sl := [1, 3, 5, 15, 16, 17, 22, 23, 24]) (ss := [([1, 3, 5, 15, 16, 17, 22, 23, 24], lsl22r6)]) (by kernel_rfl) (by kernel_rfl) (all_cons l22r6v (all_nil))) (all_cons (loopOK_of (mk := 23000014) (sl := [1, 3, 5, 15, 16, 17, 40, 41, 42]) (ss := [([1, 3, 5, 15, 16, 17, 40, 41, 42], lsl22r14)]) (by kernel_rfl) (by kernel_rfl) (all_cons l22r14v (all_nil))) (all_nil)))
  exact h17.of (fun s1 s2 s3 s4 s5 => J [(23000003, .undef), (1, .ptr 0 0 []), (3, .vec 1), (15, .d (.sl w0) s1), (16, I s2), (17, I s3)] [.one w1 (.d w1 s4), .row wI s5 false]) (fun s1 s2 s3 s4 s5 hb => loop_round2 (S := ofL Sl22r3) (L := lofL Ll22r3) hSl22r3 (inlOK _) hp hJ (by kernel_rfl) hb)
abbrev S22 : wS := []
theorem hS22 : SpecOK E (ofL S22) := specOK_nil
abbrev L22 : wL := [(23000003, [1, 3, 15, 16, 17], none, lsl22r3)]
def sp22 : Sp := fun args τ K => asCons args fun a1 r1 => asD w1 a1 fun x1 => asNil r1 <| asNil τ <| c22 x1 (fun z1 => K (I z1) [])
theorem h22 : ∀ args τ K, sp22 args τ K → ACall E 22 args τ K := by
  intro args τ K h0
  unfold sp22 at h0
  obtain ⟨x1, r1, rfl, h2⟩ := cD h0
  obtain ⟨rfl, h3⟩ := cN h2
  obtain ⟨rfl, h4⟩ := cN h3
  exact ACall.spec2 (fn := Try.f22) (c := codeOf Try.f22) (S := ofL S22) (L := lofL L22) hS22 (by kernel_rfl) (by kernel_rfl) (inlOK _) (all_eq (by kernel_rfl : subsOf (E.info 22).keep (codeOf Try.f22) = [.loop (body Try.f22 3)]) (all_cons (loopOK_of (mk := 23000003) (sl := [1, 3, 15, 16, 17]) (ss := [([1, 3, 15, 16, 17], lsl22r3)]) (by kernel_rfl) (by kernel_rfl) (all_cons l22r3v (all_nil))) (all_nil))) (by kernel_rfl) h4.of
abbrev Sl10r11 : wS := [(21, none, sp21)]
theorem hSl10r11 : SpecOK E (ofL Sl10r11) := specOK_cons h21 (specOK_nil)
abbrev Ll10r11 : wL := []
def lsl10r11 : LSp := fun vs σ K => asCons vs fun a1 r1 => asD wI a1 fun s1 => asCons r1 fun a2 r2 => asP (.ptr 0 0 []) a2 <| asCons r2 fun a3 r3 => asP (.vec 1) a3 <| asCons r3 fun a4 r4 => asD wI a4 fun s2 => asCons r4 fun a5 r5 => asD wI a5 fun s3 => asCons r5 fun a6 r6 => asD wI a6 fun s4 => asCons r6 fun a7 r7 => asD (.sl w0) a7 fun s5 => asCons r7 fun a8 r8 => asD wI a8 fun s6 => asCons r8 fun a9 r9 => asD wI a9 fun s7 => asCons r9 fun a10 r10 => asD (.sl w2) a10 fun s8 => asCons r10 fun a11 r11 => asD wI a11 fun s9 => asCons r11 fun a12 r12 => asD wI a12 fun s10 => asNil r12 <| asCons σ fun a13 r13 => asOne w1 a13 fun a14 => asD w1 a14 fun s11 => asCons r13 fun a15 r15 => asRw .bool false a15 fun s12 => asNil r15 <| l10r11 (fun z1 z2 z3 z4 z5 z6 z7 z8 => K (.exit 4) [(1, I z1), (2, .ptr 0 0 []), (5, .vec 1), (27, I z2), (28, I z3), (31, .d (.sl w0) z4), (32, I z5), (33, I z6)] [.one w1 (.d w1 z7), .row .bool z8 false]) s1 s2 s3 s4 s5 s6 s7 s8 s9 s10 s11 s12
theorem l10r11v : LoopV E wF (E.info 10).keep 0 Try.f10.ntmps 11000011 (body Try.f10 11) ([1, 2, 5, 6, 27, 28, 31, 32, 33, 40, 41, 42], lsl10r11) := by
  intro vs σ K (h0 : lsl10r11 vs σ K)
  unfold lsl10r11 at h0
  obtain ⟨s1, r1, rfl, h2⟩ := cD h0
  obtain ⟨r2, rfl, h4⟩ := cP h2
  obtain ⟨r3, rfl, h6⟩ := cP h4
  obtain ⟨s2, r4, rfl, h8⟩ := cD h6
  obtain ⟨s3, r5, rfl, h10⟩ := cD h8
  obtain ⟨s4, r6, rfl, h12⟩ := cD h10
  obtain ⟨s5, r7, rfl, h14⟩ := cD h12
  obtain ⟨s6, r8, rfl, h16⟩ := cD h14
  obtain ⟨s7, r9, rfl, h18⟩ := cD h16
  obtain ⟨s8, r10, rfl, h20⟩ := cD h18
  obtain ⟨s9, r11, rfl, h22⟩ := cD h20
  obtain ⟨s10, r12, rfl, h24⟩ := cD h22
  obtain ⟨rfl, h25⟩ := cN h24
  obtain ⟨s11, r13, rfl, h28⟩ := oD h25
  obtain ⟨s12, r15, rfl, h30⟩ := cR h28
  obtain ⟨rfl, h31⟩ := cN h30
  intro J hJ
  have hp : ∀ c' ∈ subsOf (E.info 10).keep (body Try.f10 11), SubOK E wF (E.info 10).keep 0 Try.f10.ntmps (lofL Ll10r11) c' := all_eq (by kernel_rfl : subsOf (E.info 10).keep (body Try.f10 11) = []) (all_nil)
  exact h31.of (fun s1 s2 s3 s4 s5 s6 s7 s8 s9 s10 s11 s12 => J [(11000011, .undef), (1, I s1), (2, .ptr 0 0 []), (5, .vec 1), (6, I s2), (27, I s3), (28, I s4), (31, .d (.sl w0) s5), (32, I s6), (33, I s7), (40, .d (.sl w2) s8), (41, I s9), (42, I s10)] [.one w1 (.d w1 s11), .row .bool s12 false]) (fun s1 s2 s3 s4 s5 s6 s7 s8 s9 s10 s11 s12 hb => loop_round2 (S := ofL Sl10r11) (L := lofL Ll10r11) hSl10r11 (inlOK _) hp hJ (by kernel_rfl) hb)
abbrev Sl10r8 : wS := []
theorem hSl10r8 : SpecOK E (ofL Sl10r8) := specOK_nil
abbrev Ll10r8 : wL := [(11000011, [1, 2, 5, 6, 27, 28, 31, 32, 33, 40, 41, 42], none, lsl10r11)]
def lsl10r8 : LSp := fun vs σ K => asCons vs fun a1 r1 => asD wI a1 fun s1 => asCons r1 fun a2 r2 => asP (.ptr 0 0 []) a2 <| asCons r2 fun a3 r3 => asP (.vec 1) a3 <| asCons r3 fun a4 r4 => asD wI a4 fun s2 => asCons r4 fun a5 r5 => asD wI a5 fun s3 => asCons r5 fun a6 r6 => asD (.sl w0) a6 fun s4 => asCons r6 fun a7 r7 => asD wI a7 fun s5 => asCons r7 fun a8 r8 => asD wI a8 fun s6 => asNil r8 <| asCons σ fun a9 r9 => asOne w1 a9 fun a10 => asD w1 a10 fun s7 => asCons r9 fun a11 r11 => asRw .bool false a11 fun s8 => asNil r11 <| l10r8 (fun z1 z2 z3 z4 z5 => K (.exit 2) [(1, I z1), (2, .ptr 0 0 []), (5, .vec 1), (27, I z2), (28, I z3)] [.one w1 (.d w1 z4), .row .bool z5 false]) s1 s2 s3 s4 s5 s6 s7 s8
theorem l10r8v : LoopV E wF (E.info 10).keep 0 Try.f10.ntmps 11000008 (body Try.f10 8) ([1, 2, 5, 27, 28, 31, 32, 33], lsl10r8) := by
  intro vs σ K (h0 : lsl10r8 vs σ K)
  unfold lsl10r8 at h0
  obtain ⟨s1, r1, rfl, h2⟩ := cD h0
  obtain ⟨r2, rfl, h4⟩ := cP h2
  obtain ⟨r3, rfl, h6⟩ := cP h4
  obtain ⟨s2, r4, rfl, h8⟩ := cD h6
  obtain ⟨s3, r5, rfl, h10⟩ := cD h8
  obtain ⟨s4, r6, rfl, h12⟩ := cD h10
  obtain ⟨s5, r7, rfl, h14⟩ := cD h12
  obtain ⟨s6, r8, rfl, h16⟩ := cD h14
  obtain ⟨rfl, h17⟩ := cN h16
  obtain ⟨s7, r9, rfl, h20⟩ := oD h17
  obtain ⟨s8, r11, rfl, h22⟩ := cR h20
  obtain ⟨rfl, h23⟩ := cN h22
  intro J hJ
  have hp : ∀ c' ∈ subsOf (E.info 10).keep (body Try.f10 8), SubOK E wF (E.info 10).keep 0 Try.f10.ntmps (lofL Ll10r8) c' := all_eq (by kernel_rfl : subsOf (E.info 10).keep (body Try.f10 8) = [.loop (body Try.f10 11)]) (all_cons (loopOK_of (mk := 11000011) (sl := [1, 2, 5, 6, 27, 28, 31, 32, 33, 40, 41, 42]) (ss := [([1, 2, 5, 6, 27, 28, 31, 32, 33, 40, 41, 42], lsl10r11)]) (by kernel_rfl) (by kernel_rfl) (all_cons l10r11v (all_nil))) (all_nil))
  exact h23.of (fun s1 s2 s3 s4 s5 s6 s7 s8 => J [(11000008, .undef), (1, I s1), (2, .ptr 0 0 []), (5, .vec 1), (27, I s2), (28, I s3), (31, .d (.sl w0) s4), (32, I s5), (33, I s6)] [.one w1 (.d w1 s7), .row .bool s8 false]) (fun s1 s2 s3 s4 s5 s6 s7 s8 hb => loop_round2 (S := ofL Sl10r8) (L := lofL Ll10r8) hSl10r8 (inlOK _) hp hJ (by kernel_rfl) hb)
abbrev Sl10r6 : wS := []
theorem hSl10r6 : SpecOK E (ofL Sl10r6) := specOK_nil
abbrev Ll10r6 : wL := [(11000008, [1, 2, 5, 27, 28, 31, 32, 33], none, lsl10r8)]
def lsl10r6 : LSp := fun vs σ K => asCons vs fun a1 r1 => asD wI a1 fun s1 => asCons r1 fun a2 r2 => asP (.ptr 0 0 []) a2 <| asCons r2 fun a3 r3 => asP (.vec 1) a3 <| asCons r3 fun a4 r4 => asD wI a4 fun s2 => asCons r4 fun a5 r5 => asD wI a5 fun s3 => asNil r5 <| asCons σ fun a6 r6 => asOne w1 a6 fun a7 => asD w1 a7 fun s4 => asCons r6 fun a8 r8 => asRw .bool false a8 fun s5 => asNil r8 <| l10r6 (fun z1 => K (.exit 0) [(5, .vec 0)] [.row .bool z1 false]) s1 s2 s3 s4 s5
theorem l10r6v : LoopV E wF (E.info 10).keep 0 Try.f10.ntmps 11000006 (body Try.f10 6) ([1, 2, 5, 27, 28], lsl10r6) := by
  intro vs σ K (h0 : lsl10r6 vs σ K)
  unfold lsl10r6 at h0
  obtain ⟨s1, r1, rfl, h2⟩ := cD h0
  obtain ⟨r2, rfl, h4⟩ := cP h2
  obtain ⟨r3, rfl, h6⟩ := cP h4
  obtain ⟨s2, r4, rfl, h8⟩ := cD h6
  obtain ⟨s3, r5, rfl, h10⟩ := cD h8
  obtain ⟨rfl, h11⟩ := cN h10
  obtain ⟨s4, r6, rfl, h14⟩ := oD h11
  obtain ⟨s5, r8, rfl, h16⟩ := cR h14
  obtain ⟨rfl, h17⟩ := cN h16
  intro J hJ
  have hp : ∀ c' ∈ subsOf (E.info 10).keep (body Try.f10 6), SubOK E wF (E.info 10).keep 0 Try.f10.ntmps (lofL Ll10r6) c' := all_eq (by kernel_rfl : subsOf (E.info 10).keep (body Try.f10 6) = [.loop (body Try.f10 8)]) (all_cons (loopOK_of (mk := 11000008) (sl := [1, 2, 5, 27, 28, 31, 32, 33]) (ss := [([1, 2, 5, 27, 28, 31, 32, 33], lsl10r8)]) (by kernel_rfl) (by kernel_rfl) (all_cons l10r8v (all_nil))) (all_nil))
  exact h17.of (fun s1 s2 s3 s4 s5 => J [(11000006, .undef), (1, I s1), (2, .ptr 0 0 []), (5, .vec 1), (27, I s2), (28, I s3)] [.one w1 (.d w1 s4), .row .bool s5 false]) (fun s1 s2 s3 s4 s5 hb => loop_round2 (S := ofL Sl10r6) (L := lofL Ll10r6) hSl10r6 (inlOK _) hp hJ (by kernel_rfl) hb)
abbrev S10 : wS := []
theorem hS10 : SpecOK E (ofL S10) := specOK_nil
abbrev L10 : wL := [(11000006, [1, 2, 5, 27, 28], none, lsl10r6)]
def sp10 : Sp := fun args τ K => asCons args fun a1 r1 => asD w1 a1 fun x1 => asCons r1 fun a2 r2 => asD wI a2 fun x2 => asNil r2 <| asNil τ <| c10 x1 x2 (fun z1 => K (.vec 0) [.row .bool z1 false])
theorem h10 : ∀ args τ K, sp10 args τ K → ACall E 10 args τ K := by
  intro args τ K h0
  unfold sp10 at h0
  obtain ⟨x1, r1, rfl, h2⟩ := cD h0
  obtain ⟨x2, r2, rfl, h4⟩ := cD h2
  obtain ⟨rfl, h5⟩ := cN h4
  obtain ⟨rfl, h6⟩ := cN h5
  exact ACall.spec2 (fn := Try.f10) (c := codeOf Try.f10) (S := ofL S10) (L := lofL L10) hS10 (by kernel_rfl) (by kernel_rfl) (inlOK _) (all_eq (by kernel_rfl : subsOf (E.info 10).keep (codeOf Try.f10) = [.loop (body Try.f10 6)]) (all_cons (loopOK_of (mk := 11000006) (sl := [1, 2, 5, 27, 28]) (ss := [([1, 2, 5, 27, 28], lsl10r6)]) (by kernel_rfl) (by kernel_rfl) (all_cons l10r6v (all_nil))) (all_nil))) (by kernel_rfl) h6.of
abbrev Sl23r6 : wS := []
theorem hSl23r6 : SpecOK E (ofL Sl23r6) := specOK_nil
abbrev Ll23r6 : wL := []
def lsl23r6 : LSp := fun vs σ K => asCons vs fun a1 r1 => asD wI a1 fun s1 => asCons r1 fun a2 r2 => asD wI a2 fun s2 => asCons r2 fun a3 r3 => asD wI a3 fun s3 => asCons r3 fun a4 r4 => asD (.sl .bool) a4 fun s4 => asCons r4 fun a5 r5 => asP (.ptr 0 0 []) a5 <| asCons r5 fun a6 r6 => asD wI a6 fun s5 => asCons r6 fun a7 r7 => asD .bool a7 fun s6 => asCons r7 fun a8 r8 => asD (.sl w0) a8 fun s7 => asCons r8 fun a9 r9 => asD wI a9 fun s8 => asCons r9 fun a10 r10 => asD wI a10 fun s9 => asCons r10 fun a11 r11 => asD (.sl (.pair wI (.pair wI w2))) a11 fun s10 => asCons r11 fun a12 r12 => asD wI a12 fun s11 => asCons r12 fun a13 r13 => asD wI a13 fun s12 => asNil r13 <| asCons σ fun a14 r14 => asOne w1 a14 fun a15 => asD w1 a15 fun s13 => asNil r14 <| l23r6 (fun z1 z2 z3 z4 z5 z6 z7 z8 z9 z10 => K (.exit 2) [(1, I z1), (2, I z2), (3, I z3), (4, .d (.sl .bool) z4), (5, .ptr 0 0 []), (11, I z5), (13, B z6), (17, .d (.sl w0) z7), (18, I z8), (19, I z9)] [.one w1 (.d w1 z10)]) s1 s2 s3 s4 s5 s6 s7 s8 s9 s10 s11 s12 s13
theorem l23r6v : LoopV E wF (E.info 23).keep 0 Try.f23.ntmps 24000006 (body Try.f23 6) ([1, 2, 3, 4, 5, 11, 13, 17, 18, 19, 29, 30, 31], lsl23r6) := by
  intro vs σ K (h0 : lsl23r6 vs σ K)
  unfold lsl23r6 at h0
  obtain ⟨s1, r1, rfl, h2⟩ := cD h0
  obtain ⟨s2, r2, rfl, h4⟩ := cD h2
  obtain ⟨s3, r3, rfl, h6⟩ := cD h4
  obtain ⟨s4, r4, rfl, h8⟩ := cD h6
  obtain ⟨r5, rfl, h10⟩ := cP h8
  obtain ⟨s5, r6, rfl, h12⟩ := cD h10
  obtain ⟨s6, r7, rfl, h14⟩ := cD h12
  obtain ⟨s7, r8, rfl, h16⟩ := cD h14
  obtain ⟨s8, r9, rfl, h18⟩ := cD h16
  obtain ⟨s9, r10, rfl, h20⟩ := cD h18
  obtain ⟨s10, r11, rfl, h22⟩ := cD h20
  obtain ⟨s11, r12, rfl, h24⟩ := cD h22
  obtain ⟨s12, r13, rfl, h26⟩ := cD h24
  obtain ⟨rfl, h27⟩ := cN h26
  obtain ⟨s13, r14, rfl, h30⟩ := oD h27
  obtain ⟨rfl, h31⟩ := cN h30
  intro J hJ
  have hp : ∀ c' ∈ subsOf (E.info 23).keep (body Try.f23 6), SubOK E wF (E.info 23).keep 0 Try.f23.ntmps (lofL Ll23r6) c' := all_eq (by kernel_rfl : subsOf (E.info 23).keep (body Try.f23 6) = []) (all_nil)
  exact h31.of (fun s1 s2 s3 s4 s5 s6 s7 s8 s9 s10 s11 s12 s13 => J [(24000006, .undef), (1, I s1), (2, I s2), (3, I s3), (4, .d (.sl .bool) s4), (5, .ptr 0 0 []), (11, I s5), (13, B s6), (17, .d (.sl w0) s7), (18, I s8), (19, I s9), (29, .d (.sl (.pair wI (.pair wI w2))) s10), (30, I s11), (31, I s12)] [.one w1 (.d w1 s13)]) (fun s1 s2 s3 s4 s5 s6 s7 s8 s9 s10 s11 s12 s13 hb => loop_round2 (S := ofL Sl23r6) (L := lofL Ll23r6) hSl23r6 (inlOK _) hp hJ (by kernel_rfl) hb)
abbrev S35 : wS := [(10, none, sp10)]
theorem hS35 : SpecOK E (ofL S35) := specOK_cons h10 (specOK_nil)
abbrev L35 : wL := []
def sp35 : Sp := fun args τ K => asCons args fun a1 r1 => asD w1 a1 fun x1 => asCons r1 fun a2 r2 => asD wI a2 fun x2 => asCons r2 fun a3 r3 => asD wI a3 fun x3 => asNil r3 <| asNil τ <| c35 x1 x2 x3 (fun z1 => K (B z1) [])
theorem h35 : ∀ args τ K, sp35 args τ K → ACall E 35 args τ K := by
  intro args τ K h0
  unfold sp35 at h0
  obtain ⟨x1, r1, rfl, h2⟩ := cD h0
  obtain ⟨x2, r2, rfl, h4⟩ := cD h2
  obtain ⟨x3, r3, rfl, h6⟩ := cD h4
  obtain ⟨rfl, h7⟩ := cN h6
  obtain ⟨rfl, h8⟩ := cN h7
  exact ACall.spec2 (fn := Try.f35) (c := codeOf Try.f35) (S := ofL S35) (L := lofL L35) hS35 (by kernel_rfl) (by kernel_rfl) (inlOK _) (all_eq (by kernel_rfl : subsOf (E.info 35).keep (codeOf Try.f35) = []) (all_nil)) (by kernel_rfl) h8.of
abbrev Sl23r2 : wS := [(34, none, sp34), (35, none, sp35)]
theorem hSl23r2 : SpecOK E (ofL Sl23r2) := specOK_cons h34 (specOK_cons h35 (specOK_nil))
abbrev Ll23r2 : wL := [(24000006, [1, 2, 3, 4, 5, 11, 13, 17, 18, 19, 29, 30, 31], none, lsl23r6)]
def lsl23r2 : LSp := fun vs σ K => asCons vs fun a1 r1 => asD wI a1 fun s1 => asCons r1 fun a2 r2 => asD wI a2 fun s2 => asCons r2 fun a3 r3 => asD wI a3 fun s3 => asCons r3 fun a4 r4 => asD (.sl .bool) a4 fun s4 => asCons r4 fun a5 r5 => asP (.ptr 0 0 []) a5 <| asCons r5 fun a6 r6 => asD (.sl w0) a6 fun s5 => asCons r6 fun a7 r7 => asD wI a7 fun s6 => asCons r7 fun a8 r8 => asD wI a8 fun s7 => asNil r8 <| asCons σ fun a9 r9 => asOne w1 a9 fun a10 => asD w1 a10 fun s8 => asNil r9 <| l23r2 (fun z1 => K .ret [(10, B z1)] []) (K (.exit 0) [(10, .undef)] []) s1 s2 s3 s4 s5 s6 s7 s8
theorem l23r2v : LoopV E wF (E.info 23).keep 0 Try.f23.ntmps 24000002 (body Try.f23 2) ([1, 2, 3, 4, 5, 17, 18, 19], lsl23r2) := by
  intro vs σ K (h0 : lsl23r2 vs σ K)
  unfold lsl23r2 at h0
  obtain ⟨s1, r1, rfl, h2⟩ := cD h0
  obtain ⟨s2, r2, rfl, h4⟩ := cD h2
  obtain ⟨s3, r3, rfl, h6⟩ := cD h4
  obtain ⟨s4, r4, rfl, h8⟩ := cD h6
  obtain ⟨r5, rfl, h10⟩ := cP h8
  obtain ⟨s5, r6, rfl, h12⟩ := cD h10
  obtain ⟨s6, r7, rfl, h14⟩ := cD h12
  obtain ⟨s7, r8, rfl, h16⟩ := cD h14
  obtain ⟨rfl, h17⟩ := cN h16
  obtain ⟨s8, r9, rfl, h20⟩ := oD h17
  obtain ⟨rfl, h21⟩ := cN h20
  intro J hJ
  have hp : ∀ c' ∈ subsOf (E.info 23).keep (body Try.f23 2), SubOK E wF (E.info 23).keep 0 Try.f23.ntmps (lofL Ll23r2) c' := all_eq (by kernel_rfl : subsOf (E.info 23).keep (body Try.f23 2) = [.loop (body Try.f23 6)]) (all_cons (loopOK_of (mk := 24000006) (sl := [1, 2, 3, 4, 5, 11, 13, 17, 18, 19, 29, 30, 31]) (ss := [([1, 2, 3, 4, 5, 11, 13, 17, 18, 19, 29, 30, 31], lsl23r6)]) (by kernel_rfl) (by kernel_rfl) (all_cons l23r6v (all_nil))) (all_nil))
  exact h21.of (fun s1 s2 s3 s4 s5 s6 s7 s8 => J [(24000002, .undef), (1, I s1), (2, I s2), (3, I s3), (4, .d (.sl .bool) s4), (5, .ptr 0 0 []), (17, .d (.sl w0) s5), (18, I s6), (19, I s7)] [.one w1 (.d w1 s8)]) (fun s1 s2 s3 s4 s5 s6 s7 s8 hb => loop_round2 (S := ofL Sl23r2) (L := lofL Ll23r2) hSl23r2 (inlOK _) hp hJ (by kernel_rfl) hb)
abbrev S23 : wS := []
theorem hS23 : SpecOK E (ofL S23) := specOK_nil
abbrev L23 : wL := [(24000002, [1, 2, 3, 4, 5, 17, 18, 19], none, lsl23r2)]
def sp23 : Sp := fun args τ K => asCons args fun a1 r1 => asD w1 a1 fun x1 => asCons r1 fun a2 r2 => asD wI a2 fun x2 => asCons r2 fun a3 r3 => asD wI a3 fun x3 => asCons r3 fun a4 r4 => asD wI a4 fun x4 => asCons r4 fun a5 r5 => asD (.sl .bool) a5 fun x5 => asNil r5 <| asNil τ <| c23 x1 x2 x3 x4 x5 (fun z1 => K (B z1) [])
theorem h23 : ∀ args τ K, sp23 args τ K → ACall E 23 args τ K := by
  intro args τ K h0
  unfold sp23 at h0
  obtain ⟨x1, r1, rfl, h2⟩ := cD h0
  obtain ⟨x2, r2, rfl, h4⟩ := cD h2
  obtain ⟨x3, r3, rfl, h6⟩ := cD h4
  obtain ⟨x4, r4, rfl, h8⟩ := cD h6
  obtain ⟨x5, r5, rfl, h10⟩ := cD h8
  obtain ⟨rfl, h11⟩ := cN h10
  obtain ⟨rfl, h12⟩ := cN h11
  exact ACall.spec2 (fn := Try.f23) (c := codeOf Try.f23) (S := ofL S23) (L := lofL L23) hS23 (by kernel_rfl) (by kernel_rfl) (inlOK _) (all_eq (by kernel_rfl : subsOf (E.info 23).keep (codeOf Try.f23) = [.loop (body Try.f23 2)]) (all_cons (loopOK_of (mk := 24000002) (sl := [1, 2, 3, 4, 5, 17, 18, 19]) (ss := [([1, 2, 3, 4, 5, 17, 18, 19], lsl23r2)]) (by kernel_rfl) (by kernel_rfl) (all_cons l23r2v (all_nil))) (all_nil))) (by kernel_rfl) h12.of
abbrev Sl9r24 : wS := [(23, none, sp23)]
theorem hSl9r24 : SpecOK E (ofL Sl9r24) := specOK_cons h23 (specOK_nil)
abbrev Ll9r24 : wL := []
def lsl9r24 : LSp := fun vs σ K => asCons vs fun a1 r1 => asP (.ptr 0 0 []) a1 <| asCons r1 fun a2 r2 => asP (.vec 1) a2 <| asCons r2 fun a3 r3 => asD wI a3 fun s1 => asCons r3 fun a4 r4 => asP (.ptr 2 0 []) a4 <| asCons r4 fun a5 r5 => asD wI a5 fun s2 => asCons r5 fun a6 r6 => asD (.sl w0) a6 fun s3 => asCons r6 fun a7 r7 => asD wI a7 fun s4 => asCons r7 fun a8 r8 => asD wI a8 fun s5 => asCons r8 fun a9 r9 => asD (.sl (.pair wI (.pair wI w2))) a9 fun s6 => asCons r9 fun a10 r10 => asD wI a10 fun s7 => asCons r10 fun a11 r11 => asD wI a11 fun s8 => asCons r11 fun a12 r12 => asD (.sl wI) a12 fun s9 => asCons r12 fun a13 r13 => asD wI a13 fun s10 => asCons r13 fun a14 r14 => asD wI a14 fun s11 => asNil r14 <| asCons σ fun a15 r15 => asOne w1 a15 fun a16 => asD w1 a16 fun s12 => asCons r15 fun a17 r17 => asRw .bool false a17 fun s13 => asCons r17 fun a18 r18 => asOne w0 a18 fun a19 => asD w0 a19 fun s14 => asNil r18 <| l9r24 (fun z1 => K .ret [(1, .undef), (2, I z1), (7, .undef), (8, .undef), (9, .undef), (62, .undef), (63, .undef), (64, .undef), (70, .undef), (71, .undef), (72, .undef)] []) (fun z1 z2 z3 z4 z5 z6 z7 z8 z9 z10 => K (.exit 6) [(1, .ptr 0 0 []), (2, .undef), (7, .vec 1), (8, I z1), (9, .ptr 2 0 []), (62, .d (.sl w0) z2), (63, I z3), (64, I z4), (70, .d (.sl (.pair wI (.pair wI w2))) z5), (71, I z6), (72, I z7)] [.one w1 (.d w1 z8), .row .bool z9 false, .one w0 (.d w0 z10)]) s1 s2 s3 s4 s5 s6 s7 s8 s9 s10 s11 s12 s13 s14
theorem l9r24v : LoopV E wF (E.info 9).keep 0 Try.f9.ntmps 10000024 (body Try.f9 24) ([1, 7, 8, 9, 10, 62, 63, 64, 70, 71, 72, 78, 79, 80], lsl9r24) := by
  intro vs σ K (h0 : lsl9r24 vs σ K)
  unfold lsl9r24 at h0
  obtain ⟨r1, rfl, h2⟩ := cP h0
  obtain ⟨r2, rfl, h4⟩ := cP h2
  obtain ⟨s1, r3, rfl, h6⟩ := cD h4
  obtain ⟨r4, rfl, h8⟩ := cP h6
  obtain ⟨s2, r5, rfl, h10⟩ := cD h8
  obtain ⟨s3, r6, rfl, h12⟩ := cD h10
  obtain ⟨s4, r7, rfl, h14⟩ := cD h12
  obtain ⟨s5, r8, rfl, h16⟩ := cD h14
  obtain ⟨s6, r9, rfl, h18⟩ := cD h16
  obtain ⟨s7, r10, rfl, h20⟩ := cD h18
  obtain ⟨s8, r11, rfl, h22⟩ := cD h20
  obtain ⟨s9, r12, rfl, h24⟩ := cD h22
  obtain ⟨s10, r13, rfl, h26⟩ := cD h24
  obtain ⟨s11, r14, rfl, h28⟩ := cD h26
  obtain ⟨rfl, h29⟩ := cN h28
  obtain ⟨s12, r15, rfl, h32⟩ := oD h29
  obtain ⟨s13, r17, rfl, h34⟩ := cR h32
  obtain ⟨s14, r18, rfl, h37⟩ := oD h34
  obtain ⟨rfl, h38⟩ := cN h37
  intro J hJ
  have hp : ∀ c' ∈ subsOf (E.info 9).keep (body Try.f9 24), SubOK E wF (E.info 9).keep 0 Try.f9.ntmps (lofL Ll9r24) c' := all_eq (by kernel_rfl : subsOf (E.info 9).keep (body Try.f9 24) = []) (all_nil)
  exact h38.of (fun s1 s2 s3 s4 s5 s6 s7 s8 s9 s10 s11 s12 s13 s14 => J [(10000024, .undef), (1, .ptr 0 0 []), (7, .vec 1), (8, I s1), (9, .ptr 2 0 []), (10, I s2), (62, .d (.sl w0) s3), (63, I s4), (64, I s5), (70, .d (.sl (.pair wI (.pair wI w2))) s6), (71, I s7), (72, I s8), (78, .d (.sl wI) s9), (79, I s10), (80, I s11)] [.one w1 (.d w1 s12), .row .bool s13 false, .one w0 (.d w0 s14)]) (fun s1 s2 s3 s4 s5 s6 s7 s8 s9 s10 s11 s12 s13 s14 hb => loop_round2 (S := ofL Sl9r24) (L := lofL Ll9r24) hSl9r24 (inlOK _) hp hJ (by kernel_rfl) hb)
abbrev Sl9r21 : wS := []
theorem hSl9r21 : SpecOK E (ofL Sl9r21) := specOK_nil
abbrev Ll9r21 : wL := [(10000024, [1, 7, 8, 9, 10, 62, 63, 64, 70, 71, 72, 78, 79, 80], none, lsl9r24)]
def lsl9r21 : LSp := fun vs σ K => asCons vs fun a1 r1 => asP (.ptr 0 0 []) a1 <| asCons r1 fun a2 r2 => asP (.vec 1) a2 <| asCons r2 fun a3 r3 => asD wI a3 fun s1 => asCons r3 fun a4 r4 => asP (.ptr 2 0 []) a4 <| asCons r4 fun a5 r5 => asD (.sl w0) a5 fun s2 => asCons r5 fun a6 r6 => asD wI a6 fun s3 => asCons r6 fun a7 r7 => asD wI a7 fun s4 => asCons r7 fun a8 r8 => asD (.sl (.pair wI (.pair wI w2))) a8 fun s5 => asCons r8 fun a9 r9 => asD wI a9 fun s6 => asCons r9 fun a10 r10 => asD wI a10 fun s7 => asNil r10 <| asCons σ fun a11 r11 => asOne w1 a11 fun a12 => asD w1 a12 fun s8 => asCons r11 fun a13 r13 => asRw .bool false a13 fun s9 => asCons r13 fun a14 r14 => asOne w0 a14 fun a15 => asD w0 a15 fun s10 => asNil r14 <| l9r21 (fun z1 => K .ret [(1, .undef), (2, I z1), (7, .undef), (8, .undef), (9, .undef), (62, .undef), (63, .undef), (64, .undef)] []) (fun z1 z2 z3 z4 z5 z6 z7 => K (.exit 4) [(1, .ptr 0 0 []), (2, .undef), (7, .vec 1), (8, I z1), (9, .ptr 2 0 []), (62, .d (.sl w0) z2), (63, I z3), (64, I z4)] [.one w1 (.d w1 z5), .row .bool z6 false, .one w0 (.d w0 z7)]) s1 s2 s3 s4 s5 s6 s7 s8 s9 s10
theorem l9r21v : LoopV E wF (E.info 9).keep 0 Try.f9.ntmps 10000021 (body Try.f9 21) ([1, 7, 8, 9, 62, 63, 64, 70, 71, 72], lsl9r21) := by
  intro vs σ K (h0 : lsl9r21 vs σ K)
  unfold lsl9r21 at h0
  obtain ⟨r1, rfl, h2⟩ := cP h0
  obtain ⟨r2, rfl, h4⟩ := cP h2
  obtain ⟨s1, r3, rfl, h6⟩ := cD h4
  obtain ⟨r4, rfl, h8⟩ := cP h6
  obtain ⟨s2, r5, rfl, h10⟩ := cD h8
  obtain ⟨s3, r6, rfl, h12⟩ := cD h10
  obtain ⟨s4, r7, rfl, h14⟩ := cD h12
  obtain ⟨s5, r8, rfl, h16⟩ := cD h14
  obtain ⟨s6, r9, rfl, h18⟩ := cD h16
  obtain ⟨s7, r10, rfl, h20⟩ := cD h18
  obtain ⟨rfl, h21⟩ := cN h20
  obtain ⟨s8, r11, rfl, h24⟩ := oD h21
  obtain ⟨s9, r13, rfl, h26⟩ := cR h24
  obtain ⟨s10, r14, rfl, h29⟩ := oD h26
  obtain ⟨rfl, h30⟩ := cN h29
  intro J hJ
  have hp : ∀ c' ∈ subsOf (E.info 9).keep (body Try.f9 21), SubOK E wF (E.info 9).keep 0 Try.f9.ntmps (lofL Ll9r21) c' := all_eq (by kernel_rfl : subsOf (E.info 9).keep (body Try.f9 21) = [.loop (body Try.f9 24)]) (all_cons (loopOK_of (mk := 10000024) (sl := [1, 7, 8, 9, 10, 62, 63, 64, 70, 71, 72, 78, 79, 80]) (ss := [([1, 7, 8, 9, 10, 62, 63, 64, 70, 71, 72, 78, 79, 80], lsl9r24)]) (by kernel_rfl) (by kernel_rfl) (all_cons l9r24v (all_nil))) (all_nil))
  exact h30.of (fun s1 s2 s3 s4 s5 s6 s7 s8 s9 s10 => J [(10000021, .undef), (1, .ptr 0 0 []), (7, .vec 1), (8, I s1), (9, .ptr 2 0 []), (62, .d (.sl w0) s2), (63, I s3), (64, I s4), (70, .d (.sl (.pair wI (.pair wI w2))) s5), (71, I s6), (72, I s7)] [.one w1 (.d w1 s8), .row .bool s9 false, .one w0 (.d w0 s10)]) (fun s1 s2 s3 s4 s5 s6 s7 s8 s9 s10 hb => loop_round2 (S := ofL Sl9r21) (L := lofL Ll9r21) hSl9r21 (inlOK _) hp hJ (by kernel_rfl) hb)
abbrev Sl24r5 : wS := []
theorem hSl24r5 : SpecOK E (ofL Sl24r5) := specOK_nil
abbrev Ll24r5 : wL := []
def lsl24r5 : LSp := fun vs σ K => asCons vs fun a1 r1 => asP (.vec 0) a1 <| asCons r1 fun a2 r2 => asD (.sl w2) a2 fun s1 => asCons r2 fun a3 r3 => asD wI a3 fun s2 => asCons r3 fun a4 r4 => asD wI a4 fun s3 => asNil r4 <| asCons σ fun a5 r5 => asRw wI false a5 fun s4 => asNil r5 <| l24r5 (fun z1 => K (.exit 0) [(3, .vec 0)] [.row wI z1 false]) s1 s2 s3 s4
theorem l24r5v : LoopV E wF (E.info 24).keep 0 Try.f24.ntmps 25000005 (body Try.f24 5) ([3, 25, 26, 27], lsl24r5) := by
  intro vs σ K (h0 : lsl24r5 vs σ K)
  unfold lsl24r5 at h0
  obtain ⟨r1, rfl, h2⟩ := cP h0
  obtain ⟨s1, r2, rfl, h4⟩ := cD h2
  obtain ⟨s2, r3, rfl, h6⟩ := cD h4
  obtain ⟨s3, r4, rfl, h8⟩ := cD h6
  obtain ⟨rfl, h9⟩ := cN h8
  obtain ⟨s4, r5, rfl, h11⟩ := cR h9
  obtain ⟨rfl, h12⟩ := cN h11
  intro J hJ
  have hp : ∀ c' ∈ subsOf (E.info 24).keep (body Try.f24 5), SubOK E wF (E.info 24).keep 0 Try.f24.ntmps (lofL Ll24r5) c' := all_eq (by kernel_rfl : subsOf (E.info 24).keep (body Try.f24 5) = []) (all_nil)
  exact h12.of (fun s1 s2 s3 s4 => J [(25000005, .undef), (3, .vec 0), (25, .d (.sl w2) s1), (26, I s2), (27, I s3)] [.row wI s4 false]) (fun s1 s2 s3 s4 hb => loop_round2 (S := ofL Sl24r5) (L := lofL Ll24r5) hSl24r5 (inlOK _) hp hJ (by kernel_rfl) hb)
abbrev S24 : wS := []
theorem hS24 : SpecOK E (ofL S24) := specOK_nil
abbrev L24 : wL := [(25000005, [3, 25, 26, 27], none, lsl24r5)]
def sp24 : Sp := fun args τ K => asCons args fun a1 r1 => asD w3 a1 fun x1 => asNil r1 <| asNil τ <| c24 x1 (fun z1 => K (.vec 0) [.row wI z1 false])
theorem h24 : ∀ args τ K, sp24 args τ K → ACall E 24 args τ K := by
  intro args τ K h0
  unfold sp24 at h0
  obtain ⟨x1, r1, rfl, h2⟩ := cD h0
  obtain ⟨rfl, h3⟩ := cN h2
  obtain ⟨rfl, h4⟩ := cN h3
  exact ACall.spec2 (fn := Try.f24) (c := codeOf Try.f24) (S := ofL S24) (L := lofL L24) hS24 (by kernel_rfl) (by kernel_rfl) (inlOK _) (all_eq (by kernel_rfl : subsOf (E.info 24).keep (codeOf Try.f24) = [.loop (body Try.f24 5)]) (all_cons (loopOK_of (mk := 25000005) (sl := [3, 25, 26, 27]) (ss := [([3, 25, 26, 27], lsl24r5)]) (by kernel_rfl) (by kernel_rfl) (all_cons l24r5v (all_nil))) (all_nil))) (by kernel_rfl) h4.of
abbrev Sl9r31 : wS := [(23, none, sp23)]
theorem hSl9r31 : SpecOK E (ofL Sl9r31) := specOK_cons h23 (specOK_nil)
abbrev Ll9r31 : wL := []
def lsl9r31 : LSp := fun vs σ K => asCons vs fun a1 r1 => asP (.ptr 0 0 []) a1 <| asCons r1 fun a2 r2 => asP (.vec 1) a2 <| asCons r2 fun a3 r3 => asD wI a3 fun s1 => asCons r3 fun a4 r4 => asP (.ptr 2 0 []) a4 <| asCons r4 fun a5 r5 => asD (.sl w0) a5 fun s2 => asCons r5 fun a6 r6 => asD wI a6 fun s3 => asCons r6 fun a7 r7 => asD wI a7 fun s4 => asCons r7 fun a8 r8 => asP (.vec 3) a8 <| asCons r8 fun a9 r9 => asD wI a9 fun s5 => asCons r9 fun a10 r10 => asD wI a10 fun s6 => asNil r10 <| asCons σ fun a11 r11 => asOne w1 a11 fun a12 => asD w1 a12 fun s7 => asCons r11 fun a13 r13 => asRw .bool false a13 fun s8 => asCons r13 fun a14 r14 => asOne w0 a14 fun a15 => asD w0 a15 fun s9 => asCons r14 fun a16 r16 => asRw wI false a16 fun s10 => asNil r16 <| l9r31 (fun z1 => K .ret [(1, .undef), (2, I z1), (7, .undef), (62, .undef), (63, .undef), (64, .undef)] []) (fun z1 z2 z3 z4 z5 => K (.exit 8) [(1, .ptr 0 0 []), (2, .undef), (7, .vec 1), (62, .d (.sl w0) z1), (63, I z2), (64, I z3)] [.one w1 (.d w1 z4), .row .bool z5 false]) s1 s2 s3 s4 s5 s6 s7 s8 s9 s10
theorem l9r31v : LoopV E wF (E.info 9).keep 0 Try.f9.ntmps 10000031 (body Try.f9 31) ([1, 7, 8, 9, 62, 63, 64, 95, 96, 97], lsl9r31) := by
  intro vs σ K (h0 : lsl9r31 vs σ K)
  unfold lsl9r31 at h0
  obtain ⟨r1, rfl, h2⟩ := cP h0
  obtain ⟨r2, rfl, h4⟩ := cP h2
  obtain ⟨s1, r3, rfl, h6⟩ := cD h4
  obtain ⟨r4, rfl, h8⟩ := cP h6
  obtain ⟨s2, r5, rfl, h10⟩ := cD h8
  obtain ⟨s3, r6, rfl, h12⟩ := cD h10
  obtain ⟨s4, r7, rfl, h14⟩ := cD h12
  obtain ⟨r8, rfl, h16⟩ := cP h14
  obtain ⟨s5, r9, rfl, h18⟩ := cD h16
  obtain ⟨s6, r10, rfl, h20⟩ := cD h18
  obtain ⟨rfl, h21⟩ := cN h20
  obtain ⟨s7, r11, rfl, h24⟩ := oD h21
  obtain ⟨s8, r13, rfl, h26⟩ := cR h24
  obtain ⟨s9, r14, rfl, h29⟩ := oD h26
  obtain ⟨s10, r16, rfl, h31⟩ := cR h29
  obtain ⟨rfl, h32⟩ := cN h31
  intro J hJ
  have hp : ∀ c' ∈ subsOf (E.info 9).keep (body Try.f9 31), SubOK E wF (E.info 9).keep 0 Try.f9.ntmps (lofL Ll9r31) c' := all_eq (by kernel_rfl : subsOf (E.info 9).keep (body Try.f9 31) = []) (all_nil)
  exact h32.of (fun s1 s2 s3 s4 s5 s6 s7 s8 s9 s10 => J [(10000031, .undef), (1, .ptr 0 0 []), (7, .vec 1), (8, I s1), (9, .ptr 2 0 []), (62, .d (.sl w0) s2), (63, I s3), (64, I s4), (95, .vec 3), (96, I s5), (97, I s6)] [.one w1 (.d w1 s7), .row .bool s8 false, .one w0 (.d w0 s9), .row wI s10 false]) (fun s1 s2 s3 s4 s5 s6 s7 s8 s9 s10 hb => loop_round2 (S := ofL Sl9r31) (L := lofL Ll9r31) hSl9r31 (inlOK _) hp hJ (by kernel_rfl) hb)
abbrev Sl9r18 : wS := [(24, none, sp24)]
theorem hSl9r18 : SpecOK E (ofL Sl9r18) := specOK_cons h24 (specOK_nil)
abbrev Ll9r18 : wL := [(10000021, [1, 7, 8, 9, 62, 63, 64, 70, 71, 72], none, lsl9r21), (10000031, [1, 7, 8, 9, 62, 63, 64, 95, 96, 97], none, lsl9r31)]
def lsl9r18 : LSp := fun vs σ K => asCons vs fun a1 r1 => asP (.ptr 0 0 []) a1 <| asCons r1 fun a2 r2 => asP (.vec 1) a2 <| asCons r2 fun a3 r3 => asD (.sl w0) a3 fun s1 => asCons r3 fun a4 r4 => asD wI a4 fun s2 => asCons r4 fun a5 r5 => asD wI a5 fun s3 => asNil r5 <| asCons σ fun a6 r6 => asOne w1 a6 fun a7 => asD w1 a7 fun s4 => asCons r6 fun a8 r8 => asRw .bool false a8 fun s5 => asNil r8 <| l9r18 (fun z1 => K .ret [(2, I z1)] []) (K (.exit 2) [(2, .undef)] []) s1 s2 s3 s4 s5
theorem l9r18v : LoopV E wF (E.info 9).keep 0 Try.f9.ntmps 10000018 (body Try.f9 18) ([1, 7, 62, 63, 64], lsl9r18) := by
  intro vs σ K (h0 : lsl9r18 vs σ K)
  unfold lsl9r18 at h0
  obtain ⟨r1, rfl, h2⟩ := cP h0
  obtain ⟨r2, rfl, h4⟩ := cP h2
  obtain ⟨s1, r3, rfl, h6⟩ := cD h4
  obtain ⟨s2, r4, rfl, h8⟩ := cD h6
  obtain ⟨s3, r5, rfl, h10⟩ := cD h8
  obtain ⟨rfl, h11⟩ := cN h10
  obtain ⟨s4, r6, rfl, h14⟩ := oD h11
  obtain ⟨s5, r8, rfl, h16⟩ := cR h14
  obtain ⟨rfl, h17⟩ := cN h16
  intro J hJ
  have hp : ∀ c' ∈ subsOf (E.info 9).keep (body Try.f9 18), SubOK E wF (E.info 9).keep 0 Try.f9.ntmps (lofL Ll9r18) c' := all_eq (by kernel_rfl : subsOf (E.info 9).keep (body Try.f9 18) = [.loop (body Try.f9 21), .loop (body Try.f9 31)]) (all_cons (loopOK_of (mk := 10000021) (sl := [1, 7, 8, 9, 62, 63, 64, 70, 71, 72]) (ss := [([1, 7, 8, 9, 62, 63, 64, 70, 71, 72], lsl9r21)]) (by kernel_rfl) (by kernel_rfl) (all_cons l9r21v (all_nil))) (all_cons (loopOK_of (mk := 10000031) (sl := [1, 7, 8, 9, 62, 63, 64, 95, 96, 97]) (ss := [([1, 7, 8, 9, 62, 63, 64, 95, 96, 97], lsl9r31)]) (by kernel_rfl) (by kernel_rfl) (all_cons l9r31v (all_nil))) (all_nil)))
  exact h17.of (fun s1 s2 s3 s4 s5 => J [(10000018, .undef), (1, .ptr 0 0 []), (7, .vec 1), (62, .d (.sl w0) s1), (63, I s2), (64, I s3)] [.one w1 (.d w1 s4), .row .bool s5 false]) (fun s1 s2 s3 s4 s5 hb => loop_round2 (S := ofL Sl9r18) (L := lofL Ll9r18) hSl9r18 (inlOK _) hp hJ (by kernel_rfl) hb)
abbrev S9 : wS := [(21, none, sp21), (22, none, sp22), (10, none, sp10)]
theorem hS9 : SpecOK E (ofL S9) := specOK_cons h21 (specOK_cons h22 (specOK_cons h10 (specOK_nil)))
abbrev L9 : wL := [(10000003, [1, 3, 17, 18, 19], none, lsl9r3), (10000018, [1, 7, 62, 63, 64], none, lsl9r18)]
def sp9 : Sp := fun args τ K => asCons args fun a1 r1 => asD w1 a1 fun x1 => asNil r1 <| asNil τ <| c9 x1 (fun z1 => K (I z1) [])
theorem h9 : ∀ args τ K, sp9 args τ K → ACall E 9 args τ K := by
  intro args τ K h0
  unfold sp9 at h0
  obtain ⟨x1, r1, rfl, h2⟩ := cD h0
  obtain ⟨rfl, h3⟩ := cN h2
  obtain ⟨rfl, h4⟩ := cN h3
  exact ACall.spec2 (fn := Try.f9) (c := codeOf Try.f9) (S := ofL S9) (L := lofL L9) hS9 (by kernel_rfl) (by kernel_rfl) (inlOK _) (all_eq (by kernel_rfl : subsOf (E.info 9).keep (codeOf Try.f9) = [.loop (body Try.f9 3), .loop (body Try.f9 18)]) (all_cons (loopOK_of (mk := 10000003) (sl := [1, 3, 17, 18, 19]) (ss := [([1, 3, 17, 18, 19], lsl9r3)]) (by kernel_rfl) (by kernel_rfl) (all_cons l9r3v (all_nil))) (all_cons (loopOK_of (mk := 10000018) (sl := [1, 7, 62, 63, 64]) (ss := [([1, 7, 62, 63, 64], lsl9r18)]) (by kernel_rfl) (by kernel_rfl) (all_cons l9r18v (all_nil))) (all_nil)))) (by kernel_rfl) h4.of
abbrev Sl12r6 : wS := []
theorem hSl12r6 : SpecOK E (ofL Sl12r6) := specOK_nil
abbrev Ll12r6 : wL := []
def lsl12r6 : LSp := fun vs σ K => asCons vs fun a1 r1 => asD wI a1 fun s1 => asCons r1 fun a2 r2 => asP (.vec 0) a2 <| asCons r2 fun a3 r3 => asD wI a3 fun s2 => asCons r3 fun a4 r4 => asD (.sl w0) a4 fun s3 => asCons r4 fun a5 r5 => asD wI a5 fun s4 => asCons r5 fun a6 r6 => asD wI a6 fun s5 => asCons r6 fun a7 r7 => asD (.sl w2) a7 fun s6 => asCons r7 fun a8 r8 => asD wI a8 fun s7 => asCons r8 fun a9 r9 => asD wI a9 fun s8 => asNil r9 <| asCons σ fun a10 r10 => asRw wI false a10 fun s9 => asNil r10 <| l12r6 (fun z1 z2 z3 z4 z5 => K (.exit 2) [(1, I z1), (5, .vec 0), (11, .d (.sl w0) z2), (12, I z3), (13, I z4)] [.row wI z5 false]) s1 s2 s3 s4 s5 s6 s7 s8 s9
theorem l12r6v : LoopV E wF (E.info 12).keep 0 Try.f12.ntmps 13000006 (body Try.f12 6) ([1, 5, 6, 11, 12, 13, 20, 21, 22], lsl12r6) := by
  intro vs σ K (h0 : lsl12r6 vs σ K)
  unfold lsl12r6 at h0
  obtain ⟨s1, r1, rfl, h2⟩ := cD h0
  obtain ⟨r2, rfl, h4⟩ := cP h2
  obtain ⟨s2, r3, rfl, h6⟩ := cD h4
  obtain ⟨s3, r4, rfl, h8⟩ := cD h6
  obtain ⟨s4, r5, rfl, h10⟩ := cD h8
  obtain ⟨s5, r6, rfl, h12⟩ := cD h10
  obtain ⟨s6, r7, rfl, h14⟩ := cD h12
  obtain ⟨s7, r8, rfl, h16⟩ := cD h14
  obtain ⟨s8, r9, rfl, h18⟩ := cD h16
  obtain ⟨rfl, h19⟩ := cN h18
  obtain ⟨s9, r10, rfl, h21⟩ := cR h19
  obtain ⟨rfl, h22⟩ := cN h21
  intro J hJ
  have hp : ∀ c' ∈ subsOf (E.info 12).keep (body Try.f12 6), SubOK E wF (E.info 12).keep 0 Try.f12.ntmps (lofL Ll12r6) c' := all_eq (by kernel_rfl : subsOf (E.info 12).keep (body Try.f12 6) = []) (all_nil)
  exact h22.of (fun s1 s2 s3 s4 s5 s6 s7 s8 s9 => J [(13000006, .undef), (1, I s1), (5, .vec 0), (6, I s2), (11, .d (.sl w0) s3), (12, I s4), (13, I s5), (20, .d (.sl w2) s6), (21, I s7), (22, I s8)] [.row wI s9 false]) (fun s1 s2 s3 s4 s5 s6 s7 s8 s9 hb => loop_round2 (S := ofL Sl12r6) (L := lofL Ll12r6) hSl12r6 (inlOK _) hp hJ (by kernel_rfl) hb)
abbrev Sl12r3 : wS := []
theorem hSl12r3 : SpecOK E (ofL Sl12r3) := specOK_nil
abbrev Ll12r3 : wL := [(13000006, [1, 5, 6, 11, 12, 13, 20, 21, 22], none, lsl12r6)]
def lsl12r3 : LSp := fun vs σ K => asCons vs fun a1 r1 => asD wI a1 fun s1 => asCons r1 fun a2 r2 => asP (.vec 0) a2 <| asCons r2 fun a3 r3 => asD (.sl w0) a3 fun s2 => asCons r3 fun a4 r4 => asD wI a4 fun s3 => asCons r4 fun a5 r5 => asD wI a5 fun s4 => asNil r5 <| asCons σ fun a6 r6 => asRw wI false a6 fun s5 => asNil r6 <| l12r3 (fun z1 => K (.exit 0) [(5, .vec 0)] [.row wI z1 false]) s1 s2 s3 s4 s5
theorem l12r3v : LoopV E wF (E.info 12).keep 0 Try.f12.ntmps 13000003 (body Try.f12 3) ([1, 5, 11, 12, 13], lsl12r3) := by
  intro vs σ K (h0 : lsl12r3 vs σ K)
  unfold lsl12r3 at h0
  obtain ⟨s1, r1, rfl, h2⟩ := cD h0
  obtain ⟨r2, rfl, h4⟩ := cP h2
  obtain ⟨s2, r3, rfl, h6⟩ := cD h4
  obtain ⟨s3, r4, rfl, h8⟩ := cD h6
  obtain ⟨s4, r5, rfl, h10⟩ := cD h8
  obtain ⟨rfl, h11⟩ := cN h10
  obtain ⟨s5, r6, rfl, h13⟩ := cR h11
  obtain ⟨rfl, h14⟩ := cN h13
  intro J hJ
  have hp : ∀ c' ∈ subsOf (E.info 12).keep (body Try.f12 3), SubOK E wF (E.info 12).keep 0 Try.f12.ntmps (lofL Ll12r3) c' := all_eq (by kernel_rfl : subsOf (E.info 12).keep (body Try.f12 3) = [.loop (body Try.f12 6)]) (all_cons (loopOK_of (mk := 13000006) (sl := [1, 5, 6, 11, 12, 13, 20, 21, 22]) (ss := [([1, 5, 6, 11, 12, 13, 20, 21, 22], lsl12r6)]) (by kernel_rfl) (by kernel_rfl) (all_cons l12r6v (all_nil))) (all_nil))
  exact h14.of (fun s1 s2 s3 s4 s5 => J [(13000003, .undef), (1, I s1), (5, .vec 0), (11, .d (.sl w0) s2), (12, I s3), (13, I s4)] [.row wI s5 false]) (fun s1 s2 s3 s4 s5 hb => loop_round2 (S := ofL Sl12r3) (L := lofL Ll12r3) hSl12r3 (inlOK _) hp hJ (by kernel_rfl) hb)
abbrev S12 : wS := []
theorem hS12 : SpecOK E (ofL S12) := specOK_nil
abbrev L12 : wL := [(13000003, [1, 5, 11, 12, 13], none, lsl12r3)]
def sp12 : Sp := fun args τ K => asCons args fun a1 r1 => asD w1 a1 fun x1 => asCons r1 fun a2 r2 => asD wI a2 fun x2 => asNil r2 <| asNil τ <| c12 x1 x2 (fun z1 => K (.vec 0) [.row wI z1 false])
theorem h12 : ∀ args τ K, sp12 args τ K → ACall E 12 args τ K := by
  intro args τ K h0
  unfold sp12 at h0
  obtain ⟨x1, r1, rfl, h2⟩ := cD h0
  obtain ⟨x2, r2, rfl, h4⟩ := cD h2
  obtain ⟨rfl, h5⟩ := cN h4
  obtain ⟨rfl, h6⟩ := cN h5
  exact ACall.spec2 (fn := Try.f12) (c := codeOf Try.f12) (S := ofL S12) (L := lofL L12) hS12 (by kernel_rfl) (by kernel_rfl) (inlOK _) (all_eq (by kernel_rfl : subsOf (E.info 12).keep (codeOf Try.f12) = [.loop (body Try.f12 3)]) (all_cons (loopOK_of (mk := 13000003) (sl := [1, 5, 11, 12, 13]) (ss := [([1, 5, 11, 12, 13], lsl12r3)]) (by kernel_rfl) (by kernel_rfl) (all_cons l12r3v (all_nil))) (all_nil))) (by kernel_rfl) h6.of
abbrev Sl3r15 : wS := [(12, none, sp12), (11, none, sp11)]
theorem hSl3r15 : SpecOK E (ofL Sl3r15) := specOK_cons h12 (specOK_cons h11 (specOK_nil))
abbrev Ll3r15 : wL := []
def lsl3r15 : LSp := fun vs σ K => asCons vs fun a1 r1 => asP (.ptr 0 0 []) a1 <| asCons r1 fun a2 r2 => asP (.vec 1) a2 <| asCons r2 fun a3 r3 => asP (.vec 2) a3 <| asCons r3 fun a4 r4 => asP (.vec 3) a4 <| asCons r4 fun a5 r5 => asP (.vec 4) a5 <| asCons r5 fun a6 r6 => asP (.vec 5) a6 <| asCons r6 fun a7 r7 => asD wI a7 fun s1 => asCons r7 fun a8 r8 => asD wI a8 fun s2 => asNil r8 <| asCons σ fun a9 r9 => asOne w1 a9 fun a10 => asD w1 a10 fun s3 => asCons r9 fun a11 r11 => asDeep wI a11 fun s4 l12 => asNil l12 <| asCons r11 fun a13 r13 => asRw wI false a13 fun s5 => asCons r13 fun a14 r14 => asRw wI false a14 fun s6 => asCons r14 fun a15 r15 => asRw wI false a15 fun s7 => asCons r15 fun a16 r16 => asRw .bool false a16 fun s8 => asNil r16 <| l3r15 (fun z1 => K .ret [(1, .undef), (2, B z1), (5, .undef), (7, .undef), (10, .undef)] []) (fun z1 z2 z3 z4 => K (.exit 0) [(1, .ptr 0 0 []), (2, .undef), (5, .vec 1), (7, .vec 2), (10, .vec 3)] [.one w1 (.d w1 z1), .row wI z2 false, .row wI z3 false, .row wI z4 false]) s1 s2 s3 s4 s5 s6 s7 s8
theorem l3r15v : LoopV E wF (E.info 3).keep 0 Try.f3.ntmps 4000015 (body Try.f3 15) ([1, 3, 5, 7, 10, 82, 83, 84], lsl3r15) := by
  intro vs σ K (h0 : lsl3r15 vs σ K)
  unfold lsl3r15 at h0
  obtain ⟨r1, rfl, h2⟩ := cP h0
  obtain ⟨r2, rfl, h4⟩ := cP h2
  obtain ⟨r3, rfl, h6⟩ := cP h4
  obtain ⟨r4, rfl, h8⟩ := cP h6
  obtain ⟨r5, rfl, h10⟩ := cP h8
  obtain ⟨r6, rfl, h12⟩ := cP h10
  obtain ⟨s1, r7, rfl, h14⟩ := cD h12
  obtain ⟨s2, r8, rfl, h16⟩ := cD h14
  obtain ⟨rfl, h17⟩ := cN h16
  obtain ⟨s3, r9, rfl, h20⟩ := oD h17
  obtain ⟨a11, r11, rfl, h21⟩ := asCons_inv h20
  obtain ⟨s4, l12, rfl, h22⟩ := asDeep_inv h21
  obtain ⟨rfl, h23⟩ := cN h22
  obtain ⟨s5, r13, rfl, h25⟩ := cR h23
  obtain ⟨s6, r14, rfl, h27⟩ := cR h25
  obtain ⟨s7, r15, rfl, h29⟩ := cR h27
  obtain ⟨s8, r16, rfl, h31⟩ := cR h29
  obtain ⟨rfl, h32⟩ := cN h31
  intro J hJ
  have hp : ∀ c' ∈ subsOf (E.info 3).keep (body Try.f3 15), SubOK E wF (E.info 3).keep 0 Try.f3.ntmps (lofL Ll3r15) c' := all_eq (by kernel_rfl : subsOf (E.info 3).keep (body Try.f3 15) = []) (all_nil)
  exact h32.of (fun s1 s2 s3 s4 s5 s6 s7 s8 => J [(4000015, .undef), (1, .ptr 0 0 []), (3, .vec 1), (5, .vec 2), (7, .vec 3), (10, .vec 4), (82, .vec 5), (83, I s1), (84, I s2)] [.one w1 (.d w1 s3), .deep wI s4 [], .row wI s5 false, .row wI s6 false, .row wI s7 false, .row .bool s8 false]) (fun s1 s2 s3 s4 s5 s6 s7 s8 hb => loop_round2 (S := ofL Sl3r15) (L := lofL Ll3r15) hSl3r15 (inlOK _) hp hJ (by kernel_rfl) hb)
def R025 (x1 : Int × (List ((List Int) × (List (Int × Int × Int × (List Int) × Unit)) × (Int × Int × Int × (List Int) × (List (Int × (List Int) × Unit)) × Unit) × Unit)) × Unit) (x2 : Int) (x3 : List Bool) (x4 : List Int) (k1 : (List Bool) → (List Int) → Prop) : Prop := ∀ K : AV → Sto → Prop, k1 = (fun z1 z2 => K (.tup []) [.row .bool z1 false, .one (.sl wI) (.vec 3), .dead, .row wI z2 false]) → ACall E 25 [.d w1 x1, I x2, .vec 0, .ptr 1 0 []] [.row .bool x3 false, .one (.sl wI) (.vec 2), .row wI x4 false] K
def sp25R : Sp := fun args τ K => asCons args fun a1 r1 => asD w1 a1 fun x1 => asCons r1 fun a2 r2 => asD wI a2 fun x2 => asCons r2 fun a3 r3 => asP (.vec 0) a3 <| asCons r3 fun a4 r4 => asP (.ptr 1 0 []) a4 <| asNil r4 <| asCons τ fun a5 r5 => asRw .bool false a5 fun x3 => asCons r5 fun a6 r6 => asOne (.sl wI) a6 fun a7 => asP (.vec 2) a7 <| asCons r6 fun a8 r8 => asRw wI false a8 fun x4 => asNil r8 <| R025 x1 x2 x3 x4 (fun z1 z2 => K (.tup []) [.row .bool z1 false, .one (.sl wI) (.vec 3), .dead, .row wI z2 false])
theorem h25R : ∀ args τ K, sp25R args τ K → ACall E 25 args τ K := by
  intro args τ K h0
  unfold sp25R at h0
  obtain ⟨x1, r1, rfl, h2⟩ := cD h0
  obtain ⟨x2, r2, rfl, h4⟩ := cD h2
  obtain ⟨r3, rfl, h6⟩ := cP h4
  obtain ⟨r4, rfl, h8⟩ := cP h6
  obtain ⟨rfl, h9⟩ := cN h8
  obtain ⟨x3, r5, rfl, h11⟩ := cR h9
  obtain ⟨r6, rfl, h14⟩ := oP h11
  obtain ⟨x4, r8, rfl, h16⟩ := cR h14
  obtain ⟨rfl, h17⟩ := cN h16
  exact h17 K rfl
abbrev Sl25r3 : wS := [(25, none, sp25R)]
theorem hSl25r3 : SpecOK E (ofL Sl25r3) := specOK_cons h25R (specOK_nil)
abbrev Ll25r3 : wL := []
def lsl25r3 : LSp := fun vs σ K => asCons vs fun a1 r1 => asD wI a1 fun s1 => asCons r1 fun a2 r2 => asP (.vec 0) a2 <| asCons r2 fun a3 r3 => asP (.ptr 1 0 []) a3 <| asCons r3 fun a4 r4 => asP (.ptr 3 0 []) a4 <| asCons r4 fun a5 r5 => asD (.sl w2) a5 fun s2 => asCons r5 fun a6 r6 => asD wI a6 fun s3 => asCons r6 fun a7 r7 => asD wI a7 fun s4 => asNil r7 <| asCons σ fun a8 r8 => asRw .bool false a8 fun s5 => asCons r8 fun a9 r9 => asOne (.sl wI) a9 fun a10 => asP (.vec 2) a10 <| asCons r9 fun a11 r11 => asRw wI false a11 fun s6 => asCons r11 fun a12 r12 => asOne w1 a12 fun a13 => asD w1 a13 fun s7 => asNil r12 <| l25r3 R025 (fun z1 z2 z3 => K (.exit 0) [(1, I z1), (3, .ptr 1 0 [])] [.row .bool z2 false, .one (.sl wI) (.vec 2), .row wI z3 false]) (fun z1 z2 z3 => K (.exit 0) [(1, I z1), (3, .ptr 1 0 [])] [.row .bool z2 false, .one (.sl wI) (.vec 3), .dead, .row wI z3 false]) s1 s2 s3 s4 s5 s6 s7
theorem l25r3v : LoopV E wF (E.info 25).keep 3 Try.f25.ntmps 26000003 (body Try.f25 3) ([1, 2, 3, 4, 19, 20, 21], lsl25r3) := by
  intro vs σ K (h0 : lsl25r3 vs σ K)
  unfold lsl25r3 at h0
  obtain ⟨s1, r1, rfl, h2⟩ := cD h0
  obtain ⟨r2, rfl, h4⟩ := cP h2
  obtain ⟨r3, rfl, h6⟩ := cP h4
  obtain ⟨r4, rfl, h8⟩ := cP h6
  obtain ⟨s2, r5, rfl, h10⟩ := cD h8
  obtain ⟨s3, r6, rfl, h12⟩ := cD h10
  obtain ⟨s4, r7, rfl, h14⟩ := cD h12
  obtain ⟨rfl, h15⟩ := cN h14
  obtain ⟨s5, r8, rfl, h17⟩ := cR h15
  obtain ⟨r9, rfl, h20⟩ := oP h17
  obtain ⟨s6, r11, rfl, h22⟩ := cR h20
  obtain ⟨s7, r12, rfl, h25⟩ := oD h22
  obtain ⟨rfl, h26⟩ := cN h25
  intro J hJ
  have hp : ∀ c' ∈ subsOf (E.info 25).keep (body Try.f25 3), SubOK E wF (E.info 25).keep 3 Try.f25.ntmps (lofL Ll25r3) c' := all_eq (by kernel_rfl : subsOf (E.info 25).keep (body Try.f25 3) = []) (all_nil)
  exact h26.of (fun s1 s2 s3 s4 s5 s6 s7 => J [(26000003, .undef), (1, I s1), (2, .vec 0), (3, .ptr 1 0 []), (4, .ptr 3 0 []), (19, .d (.sl w2) s2), (20, I s3), (21, I s4)] [.row .bool s5 false, .one (.sl wI) (.vec 2), .row wI s6 false, .one w1 (.d w1 s7)]) (fun s12 s13 s14 s15 s16 s17 s18 => J [(26000003, .undef), (1, I s12), (2, .vec 0), (3, .ptr 1 0 []), (4, .ptr 4 0 []), (19, .d (.sl w2) s13), (20, I s14), (21, I s15)] [.row .bool s16 false, .one (.sl wI) (.vec 3), .dead, .row wI s17 false, .one w1 (.d w1 s18)]) (fun s1 s2 s3 s4 s5 s6 s7 hb => loop_round2 (S := ofL Sl25r3) (L := lofL Ll25r3) hSl25r3 (inlOK _) hp hJ (by kernel_rfl) hb) (fun s12 s13 s14 s15 s16 s17 s18 hb => loop_round2 (S := ofL Sl25r3) (L := lofL Ll25r3) hSl25r3 (inlOK _) hp hJ (by kernel_rfl) hb)
abbrev S25 : wS := []
theorem hS25 : SpecOK E (ofL S25) := specOK_nil
abbrev L25 : wL := [(26000003, [1, 2, 3, 4, 19, 20, 21], none, lsl25r3)]
def sp25 : Sp := fun args τ K => asCons args fun a1 r1 => asD w1 a1 fun x1 => asCons r1 fun a2 r2 => asD wI a2 fun x2 => asCons r2 fun a3 r3 => asP (.vec 0) a3 <| asCons r3 fun a4 r4 => asP (.ptr 1 0 []) a4 <| asNil r4 <| asCons τ fun a5 r5 => asRw .bool false a5 fun x3 => asCons r5 fun a6 r6 => asOne (.sl wI) a6 fun a7 => asP (.vec 2) a7 <| asCons r6 fun a8 r8 => asRw wI false a8 fun x4 => asNil r8 <| c25 x1 x2 x3 x4 (fun z1 z2 => K (.tup []) [.row .bool z1 false, .one (.sl wI) (.vec 3), .dead, .row wI z2 false])
theorem h25 : ∀ args τ K, sp25 args τ K → ACall E 25 args τ K := by
  intro args τ K h0
  unfold sp25 at h0
  obtain ⟨x1, r1, rfl, h2⟩ := cD h0
  obtain ⟨x2, r2, rfl, h4⟩ := cD h2
  obtain ⟨r3, rfl, h6⟩ := cP h4
  obtain ⟨r4, rfl, h8⟩ := cP h6
  obtain ⟨rfl, h9⟩ := cN h8
  obtain ⟨x3, r5, rfl, h11⟩ := cR h9
  obtain ⟨r6, rfl, h14⟩ := oP h11
  obtain ⟨x4, r8, rfl, h16⟩ := cR h14
  obtain ⟨rfl, h17⟩ := cN h16
  refine h17.of R025 (fun x1 x2 x3 x4 k1 hb K hk1 => ?_) K rfl
  subst hk1
  exact ACall.spec2 (fn := Try.f25) (c := codeOf Try.f25) (S := ofL S25) (L := lofL L25) hS25 (by kernel_rfl) (by kernel_rfl) (inlOK _) (all_eq (by kernel_rfl : subsOf (E.info 25).keep (codeOf Try.f25) = [.loop (body Try.f25 3)]) (all_cons (loopOK_of (mk := 26000003) (sl := [1, 2, 3, 4, 19, 20, 21]) (ss := [([1, 2, 3, 4, 19, 20, 21], lsl25r3)]) (by kernel_rfl) (by kernel_rfl) (all_cons l25r3v (all_nil))) (all_nil))) (by kernel_rfl) hb
abbrev S13 : wS := [(25, none, sp25)]
theorem hS13 : SpecOK E (ofL S13) := specOK_cons h25 (specOK_nil)
abbrev L13 : wL := []
def sp13 : Sp := fun args τ K => asCons args fun a1 r1 => asD w1 a1 fun x1 => asNil r1 <| asNil τ <| c13 x1 (fun z1 => K (.vec 0) [.row wI z1 false])
theorem h13 : ∀ args τ K, sp13 args τ K → ACall E 13 args τ K := by
  intro args τ K h0
  unfold sp13 at h0
  obtain ⟨x1, r1, rfl, h2⟩ := cD h0
  obtain ⟨rfl, h3⟩ := cN h2
  obtain ⟨rfl, h4⟩ := cN h3
  exact ACall.spec2 (fn := Try.f13) (c := codeOf Try.f13) (S := ofL S13) (L := lofL L13) hS13 (by kernel_rfl) (by kernel_rfl) (inlOK _) (all_eq (by kernel_rfl : subsOf (E.info 13).keep (codeOf Try.f13) = []) (all_nil)) (by kernel_rfl) h4.of
abbrev Sl3r24 : wS := []
theorem hSl3r24 : SpecOK E (ofL Sl3r24) := specOK_nil
abbrev Ll3r24 : wL := []
def lsl3r24 : LSp := fun vs σ K => asCons vs fun a1 r1 => asP (.vec 0) a1 <| asCons r1 fun a2 r2 => asP (.vec 1) a2 <| asCons r2 fun a3 r3 => asP (.vec 2) a3 <| asCons r3 fun a4 r4 => asP (.vec 3) a4 <| asCons r4 fun a5 r5 => asD wI a5 fun s1 => asCons r5 fun a6 r6 => asD wI a6 fun s2 => asNil r6 <| asCons σ fun a7 r7 => asRw wI false a7 fun s3 => asCons r7 fun a8 r8 => asRw wI false a8 fun s4 => asCons r8 fun a9 r9 => asRw wI false a9 fun s5 => asCons r9 fun a10 r10 => asRw wI false a10 fun s6 => asNil r10 <| l3r24 (fun z1 z2 z3 z4 => K (.exit 2) [(5, .vec 0), (7, .vec 1), (10, .vec 2), (13, .vec 3)] [.row wI z1 false, .row wI z2 false, .row wI z3 false, .row wI z4 false]) s1 s2 s3 s4 s5 s6
theorem l3r24v : LoopV E wF (E.info 3).keep 0 Try.f3.ntmps 4000024 (body Try.f3 24) ([5, 7, 10, 13, 108, 109], lsl3r24) := by
  intro vs σ K (h0 : lsl3r24 vs σ K)
  unfold lsl3r24 at h0
  obtain ⟨r1, rfl, h2⟩ := cP h0
  obtain ⟨r2, rfl, h4⟩ := cP h2
  obtain ⟨r3, rfl, h6⟩ := cP h4
  obtain ⟨r4, rfl, h8⟩ := cP h6
  obtain ⟨s1, r5, rfl, h10⟩ := cD h8
  obtain ⟨s2, r6, rfl, h12⟩ := cD h10
  obtain ⟨rfl, h13⟩ := cN h12
  obtain ⟨s3, r7, rfl, h15⟩ := cR h13
  obtain ⟨s4, r8, rfl, h17⟩ := cR h15
  obtain ⟨s5, r9, rfl, h19⟩ := cR h17
  obtain ⟨s6, r10, rfl, h21⟩ := cR h19
  obtain ⟨rfl, h22⟩ := cN h21
  intro J hJ
  have hp : ∀ c' ∈ subsOf (E.info 3).keep (body Try.f3 24), SubOK E wF (E.info 3).keep 0 Try.f3.ntmps (lofL Ll3r24) c' := all_eq (by kernel_rfl : subsOf (E.info 3).keep (body Try.f3 24) = []) (all_nil)
  exact h22.of (fun s1 s2 s3 s4 s5 s6 => J [(4000024, .undef), (5, .vec 0), (7, .vec 1), (10, .vec 2), (13, .vec 3), (108, I s1), (109, I s2)] [.row wI s3 false, .row wI s4 false, .row wI s5 false, .row wI s6 false]) (fun s1 s2 s3 s4 s5 s6 hb => loop_round2 (S := ofL Sl3r24) (L := lofL Ll3r24) hSl3r24 (inlOK _) hp hJ (by kernel_rfl) hb)
abbrev S3 : wS := [(4, none, sp4), (5, none, sp5), (6, none, sp6), (7, none, sp7), (8, none, sp8), (9, none, sp9), (10, none, sp10), (13, none, sp13), (11, none, sp11)]
theorem hS3 : SpecOK E (ofL S3) := specOK_cons h4 (specOK_cons h5 (specOK_cons h6 (specOK_cons h7 (specOK_cons h8 (specOK_cons h9 (specOK_cons h10 (specOK_cons h13 (specOK_cons h11 (specOK_nil)))))))))
abbrev L3 : wL := [(4000015, [1, 3, 5, 7, 10, 82, 83, 84], none, lsl3r15), (4000024, [5, 7, 10, 13, 108, 109], none, lsl3r24)]
def sp3 : Sp := fun args τ K => asCons args fun a1 r1 => asD w1 a1 fun x1 => asNil r1 <| asNil τ <| c3 x1 (fun z1 => K (B z1) [])
theorem h3 : ∀ args τ K, sp3 args τ K → ACall E 3 args τ K := by
  intro args τ K h0
  unfold sp3 at h0
  obtain ⟨x1, r1, rfl, h2⟩ := cD h0
  obtain ⟨rfl, h3⟩ := cN h2
  obtain ⟨rfl, h4⟩ := cN h3
  exact ACall.spec2 (fn := Try.f3) (c := codeOf Try.f3) (S := ofL S3) (L := lofL L3) hS3 (by kernel_rfl) (by kernel_rfl) (inlOK _) (all_eq (by kernel_rfl : subsOf (E.info 3).keep (codeOf Try.f3) = [.loop (body Try.f3 15), .loop (body Try.f3 24)]) (all_cons (loopOK_of (mk := 4000015) (sl := [1, 3, 5, 7, 10, 82, 83, 84]) (ss := [([1, 3, 5, 7, 10, 82, 83, 84], lsl3r15)]) (by kernel_rfl) (by kernel_rfl) (all_cons l3r15v (all_nil))) (all_cons (loopOK_of (mk := 4000024) (sl := [5, 7, 10, 13, 108, 109]) (ss := [([5, 7, 10, 13, 108, 109], lsl3r24)]) (by kernel_rfl) (by kernel_rfl) (all_cons l3r24v (all_nil))) (all_nil)))) (by kernel_rfl) h4.of
end Go.Proofs.Yteeigkbjjoedoaa
